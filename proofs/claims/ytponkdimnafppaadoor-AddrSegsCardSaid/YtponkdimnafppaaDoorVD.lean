/- A plain machine for the program's functions: what becomes of memory. -/
import Derived.Test.YtponkdimnafppaaDoorVC
namespace Go.Proofs.YtponkdimnafppaaDoor.VM
open Go
set_option linter.unusedVariables false
set_option linter.unusedSimpArgs false
abbrev Mem? := Base → Option (List Val)
theorem eqB_iff {a b : Base} : Base.eqB a b = true ↔ a = b := by
  cases a <;> cases b <;> simp [Base.eqB]
theorem eqB_ne {a b : Base} (h : a ≠ b) : Base.eqB a b = false := by
  cases e : Base.eqB a b
  · rfl
  · exact absurd (eqB_iff.1 e) h
def upd (G : Mem?) (b : Base) (v : Option (List Val)) : Mem? := fun x => if Base.eqB x b = true then v else G x
theorem upd_same (G : Mem?) (b : Base) (v : Option (List Val)) : upd G b v b = v := by simp [upd, eqB_iff.2 rfl]
theorem upd_ne (G : Mem?) {b x : Base} (v : Option (List Val)) (h : x ≠ b) : upd G b v x = G x := by simp [upd, eqB_ne h]
def Ren.put (ρ : Ren) (b : Base) (c : CB) : Ren := fun x => if Base.eqB x b = true then some c else ρ x
theorem put_same (ρ : Ren) (b : Base) (c : CB) : ρ.put b c b = some c := by simp [Ren.put, eqB_iff.2 rfl]
theorem put_ne (ρ : Ren) {b x : Base} (c : CB) (h : x ≠ b) : ρ.put b c x = ρ x := by simp [Ren.put, eqB_ne h]
theorem put_le {ρ : Ren} {b : Base} (c : CB) (h : ρ b = none) : ρ.le (ρ.put b c) := fun x k e => by
  by_cases hx : x = b
  · subst hx; rw [h] at e; cases e
  · rw [put_ne ρ c hx]; exact e
def liveAt (H : List Blk) (k : Nat) : Option (List Val) := (H[k]?).bind fun x => if x.live then some x.cells else none
def appG : D → Mem? → Mem?
  | .none, G | .rd _, G => G
  | .new _ b cs, G => upd G b (some cs)
  | .wr b cs, G => upd G b (some cs)
  | .ap _ b b' cs, G => upd (upd G b none) b' (some cs)
  | .call p _ H, G => fun b => match b with
    | .lo _ => G b
    | .hp k => if Nat.blt k p || Nat.ble H.length k then G b else liveAt H k
/-- What is told of blocks is so in the world. -/
structure Is (lo base : Nat) (ρ : Ren) (G : Mem?) (w : World) : Prop where
  at' : ∀ b c cs, ρ b = some c → G b = some cs → At ρ lo base b c cs w
  inj : ∀ b b' c c', ρ b = some c → ρ b' = some c' → (G b).isSome = true → (G b').isSome = true → b ≠ b' → wr lo b → c.blk ≠ c'.blk
  dom : ∀ b c, ρ b = some c → c.blk < w.heap.size
  base : base ≤ w.heap.size
  sh : ∀ k c cs, ρ (.hp k) = some c → G (.hp k) = some cs → cs.all shared = true
  injF : ∀ b b' c c', ρ b = some c → ρ b' = some c' → b ≠ b' → wr lo b → firm lo b' → c.blk ≠ c'.blk
theorem At_mono {ρ σ : Ren} {lo base : Nat} {b : Base} {c : CB} {cs : List Val} {w w' : World} (m : ρ.le σ) (hw : w'.heap[c.blk]? = w.heap[c.blk]?) (h : At ρ lo base b c cs w) : At σ lo base b c cs w' := by
  obtain ⟨arr, ty, fr, h1, h2, h3, h4, h5⟩ := h
  refine ⟨arr, ty, fr, hw.trans h1, h2, h3, fun i x e => ?_, h5⟩
  obtain ⟨v, hv, hr⟩ := h4 i x e
  exact ⟨v, hv, cellRel_mono m _ _ hr⟩
theorem Is.congr {lo base : Nat} {ρ : Ren} {G G' : Mem?} {w w' : World} (h : Is lo base ρ G w) (hg : ∀ b c, ρ b = some c → G' b = G b) (hw : w'.heap = w.heap) : Is lo base ρ G' w' where
  at' b c cs e g := At_mono (Ren.le_refl ρ) (by rw [hw]) (h.at' b c cs e (hg b c e ▸ g))
  inj b b' c c' e e' g g' := h.inj b b' c c' e e' (hg b c e ▸ g) (hg b' c' e' ▸ g')
  dom b c e := by rw [hw]; exact h.dom b c e
  base := by rw [hw]; exact h.base
  sh k c cs e g := h.sh k c cs e (hg _ _ e ▸ g)
  injF := h.injF
theorem heap_push (w : World) (o : Obj) (c : Nat) (h : c < w.heap.size) : (w.heap.push o)[c]? = w.heap[c]? := by
  rw [Array.getElem?_push]; simp [Nat.ne_of_lt h]
theorem Is.new {lo base : Nat} {ρ : Ren} {G : Mem?} {w w' : World} (h : Is lo base ρ G w) {b : Base} (hb : ρ b = none) {arr : Array Value} {ty : TypeId} {fr : Nat × Nat} {room : Nat} {cs : List Val}
    (hr : room ≤ arr.size) (hl : cs.length ≤ room) (hc : ∀ i x, getAt i cs = some x → ∃ v, arr[i]? = some v ∧ cellRel ρ x v) (hf : ∀ i, i < arr.size → ¬ (fr.1 ≤ i ∧ i < fr.2))
    (hw : w'.heap = w.heap.push (.cells arr ty fr)) (hsh : ∀ k, b = .hp k → cs.all shared = true) : Is lo base (ρ.put b ⟨w.heap.size, 0, room⟩) (upd G b (some cs)) w' where
  at' x c l e g := by
    by_cases hx : x = b
    · subst hx
      rw [put_same] at e
      rw [upd_same] at g
      cases e; cases g
      refine ⟨arr, ty, fr, by rw [hw]; simp, hl, by simp only [Nat.zero_add]; omega, fun i y e => ?_, fun _ => ⟨h.base, by simp only [Nat.zero_add]; omega, hf⟩⟩
      obtain ⟨v, hv, hr⟩ := hc i y e
      exact ⟨v, by simpa using hv, cellRel_mono (put_le _ hb) _ _ hr⟩
    · rw [put_ne _ _ hx] at e
      rw [upd_ne _ _ hx] at g
      exact At_mono (put_le _ hb) (by rw [hw]; exact heap_push w _ _ (h.dom _ _ e)) (h.at' x c l e g)
  inj x y c d e f g k ne wx := by
    by_cases hx : x = b
    · subst hx
      rw [put_same] at e
      have hy : y ≠ x := fun z => ne z.symm
      rw [put_ne _ _ hy] at f
      cases e
      have := h.dom _ _ f
      show w.heap.size ≠ d.blk
      omega
    · rw [put_ne _ _ hx] at e
      rw [upd_ne _ _ hx] at g
      by_cases hy : y = b
      · subst hy
        rw [put_same] at f
        cases f
        have := h.dom _ _ e
        show c.blk ≠ w.heap.size
        omega
      · rw [put_ne _ _ hy] at f
        rw [upd_ne _ _ hy] at k
        exact h.inj x y c d e f g k ne wx
  dom x c e := by
    rw [hw, Array.size_push]
    by_cases hx : x = b
    · subst hx; rw [put_same] at e; cases e; exact Nat.lt_succ_self _
    · rw [put_ne _ _ hx] at e; exact Nat.lt_succ_of_lt (h.dom x c e)
  base := by rw [hw, Array.size_push]; exact Nat.le_succ_of_le h.base
  sh k c l e g := by
    by_cases hx : Base.hp k = b
    · rw [hx, upd_same] at g; cases g; exact hsh k hx.symm
    · rw [put_ne _ _ hx] at e; rw [upd_ne _ _ hx] at g; exact h.sh k c l e g
  injF x y c d e f ne wx fy := by
    by_cases hx : x = b
    · subst hx
      rw [put_same] at e
      rw [put_ne _ _ (fun z => ne z.symm)] at f
      cases e
      have := h.dom _ _ f
      show w.heap.size ≠ d.blk
      omega
    · rw [put_ne _ _ hx] at e
      by_cases hy : y = b
      · subst hy
        rw [put_same] at f
        cases f
        have := h.dom _ _ e
        show c.blk ≠ w.heap.size
        omega
      · rw [put_ne _ _ hy] at f
        exact h.injF x y c d e f ne wx fy
theorem setRow_other (w : World) (g : Nat) (cs : Array Value) (c : Nat) (h : c ≠ g) : (w.setRow g cs).heap[c]? = w.heap[c]? := by
  unfold World.setRow
  simp only [Array.getElem?_modify]
  rw [if_neg (fun z => h z.symm)]
/-- A block is written. -/
theorem Is.write {lo base : Nat} {ρ : Ren} {G : Mem?} {w : World} (h : Is lo base ρ G w) {b : Base} {c : CB} {cs cs' : List Val} (hb : ρ b = some c) (hG : G b = some cs) (hwr : wr lo b) (hlen : cs'.length = cs.length)
    {arr arr' : Array Value} {ty : TypeId} {fr : Nat × Nat} (ha : w.heap[c.blk]? = some (.cells arr ty fr)) (hs : arr'.size = arr.size)
    (hc : ∀ i x, getAt i cs' = some x → ∃ v, arr'[c.off + i]? = some v ∧ cellRel ρ x v) (hsh : ∀ k, b = .hp k → cs'.all shared = true) : Is lo base ρ (upd G b (some cs')) (w.setRow c.blk arr') where
  at' x k l e g := by
    by_cases hx : x = b
    · subst hx
      rw [hb] at e
      rw [upd_same] at g
      cases e; cases g
      obtain ⟨arr2, ty2, fr2, h1, h2, h3, h4, h5⟩ := h.at' _ _ _ hb hG
      rw [ha] at h1
      cases h1
      refine ⟨arr', ty, fr, setRow_heap w _ _ _ _ _ ha, by omega, by omega, hc, fun z => ?_⟩
      obtain ⟨p, q, r⟩ := h5 z
      exact ⟨p, by omega, fun i hi => r i (by omega)⟩
    · rw [upd_ne _ _ hx] at g
      exact At_mono (Ren.le_refl ρ) (setRow_other _ _ _ _ (fun z => h.inj b x c k hb e (by simp [hG]) (by simp [g]) (fun q => hx q.symm) hwr z.symm)) (h.at' x k l e g)
  inj x y k d e f g g' ne wx := by
    refine h.inj x y k d e f ?_ ?_ ne wx
    · by_cases hx : x = b
      · subst hx; simp [hG]
      · rwa [upd_ne _ _ hx] at g
    · by_cases hy : y = b
      · subst hy; simp [hG]
      · rwa [upd_ne _ _ hy] at g'
  dom x k e := by rw [size_setRow]; exact h.dom x k e
  base := by rw [size_setRow]; exact h.base
  sh k c l e g := by
    by_cases hx : Base.hp k = b
    · rw [hx, upd_same] at g; cases g; exact hsh k hx.symm
    · rw [upd_ne _ _ hx] at g; exact h.sh k c l e g
  injF := h.injF
/-- A block is gone on from, in its own place, as another one. -/
theorem Is.goOn {lo base : Nat} {ρ : Ren} {G : Mem?} {w : World} (h : Is lo base ρ G w) {b b' : Base} {c : CB} {cs cs' : List Val} {off : Nat} (hb : ρ b = some c) (hb' : ρ b' = none) (hG : G b = some cs) (hwr : wr lo b) (hwr' : wr lo b → wr lo b') (hnf : ¬ firm lo b) (hnf' : ¬ firm lo b')
    {arr arr' : Array Value} {ty : TypeId} {fr : Nat × Nat} (ha : w.heap[c.blk]? = some (.cells arr ty fr)) (hs : arr'.size = arr.size) (ho : off ≤ c.room) (hl : cs'.length ≤ c.room - off)
    (hc : ∀ i x, getAt i cs' = some x → ∃ v, arr'[c.off + off + i]? = some v ∧ cellRel ρ x v) (hsh : ∀ k, b' = .hp k → cs'.all shared = true) : Is lo base (ρ.put b' ⟨c.blk, c.off + off, c.room - off⟩) (upd (upd G b none) b' (some cs')) (w.setRow c.blk arr') where
  at' x k l e g := by
    have hne : b ≠ b' := fun z => by subst z; rw [hb] at hb'; cases hb'
    obtain ⟨arr2, ty2, fr2, h1, h2, h3, h4, h5⟩ := h.at' _ _ _ hb hG
    rw [ha] at h1
    cases h1
    obtain ⟨p, q, r⟩ := h5 hwr
    by_cases hx : x = b'
    · subst hx
      rw [put_same] at e
      rw [upd_same] at g
      cases e; cases g
      refine ⟨arr', ty, fr, setRow_heap w _ _ _ _ _ ha, hl, by simp only; omega, fun i y e => ?_, fun z => ⟨p, by simp only; omega, fun i hi => r i (by omega)⟩⟩
      obtain ⟨v, hv, hr⟩ := hc i y e
      exact ⟨v, hv, cellRel_mono (put_le _ hb') _ _ hr⟩
    · rw [put_ne _ _ hx] at e
      rw [upd_ne _ _ hx] at g
      by_cases hx2 : x = b
      · subst hx2; rw [upd_same] at g; cases g
      · rw [upd_ne _ _ hx2] at g
        exact At_mono (put_le _ hb') (setRow_other _ _ _ _ (fun z => h.inj b x c k hb e (by simp [hG]) (by simp [g]) (fun q => hx2 q.symm) hwr z.symm)) (h.at' x k l e g)
  inj x y k d e f g g' ne wx := by
    have key : ∀ z m, z ≠ b' → ρ.put b' ⟨c.blk, c.off + off, c.room - off⟩ z = some m → (upd (upd G b none) b' (some cs') z).isSome = true → ρ z = some m ∧ (G z).isSome = true ∧ z ≠ b := by
      intro z m hz e g
      rw [put_ne _ _ hz] at e
      rw [upd_ne _ _ hz] at g
      by_cases hzb : z = b
      · subst hzb; rw [upd_same] at g; cases g
      · rw [upd_ne _ _ hzb] at g; exact ⟨e, g, hzb⟩
    by_cases hx : x = b'
    · subst hx
      rw [put_same] at e
      cases e
      obtain ⟨f, g', hy⟩ := key y d (fun z => ne z.symm) f g'
      exact h.inj b y c d hb f (by simp [hG]) g' (fun z => hy z.symm) hwr
    · obtain ⟨e2, g2, hxb⟩ := key x k hx e g
      clear e g
      by_cases hy : y = b'
      · subst hy
        rw [put_same] at f
        cases f
        exact h.inj x b k c e2 hb g2 (by simp [hG]) hxb wx
      · obtain ⟨f, g', hyb⟩ := key y d hy f g'
        exact h.inj x y k d e2 f g2 g' ne wx
  dom x k e := by
    rw [size_setRow]
    by_cases hx : x = b'
    · subst hx; rw [put_same] at e; cases e; exact h.dom b c hb
    · rw [put_ne _ _ hx] at e; exact h.dom x k e
  base := by rw [size_setRow]; exact h.base
  sh k q l e g := by
    by_cases hx : Base.hp k = b'
    · rw [hx, upd_same] at g; cases g; exact hsh k hx.symm
    · rw [put_ne _ _ hx] at e
      rw [upd_ne _ _ hx] at g
      by_cases hx2 : Base.hp k = b
      · rw [hx2, upd_same] at g; cases g
      · rw [upd_ne _ _ hx2] at g; exact h.sh k q l e g
  injF x y k d e f ne wx fy := by
    have hy : y ≠ b' := fun z => hnf' (z ▸ fy)
    have hyb : y ≠ b := fun z => hnf (z ▸ fy)
    rw [put_ne _ _ hy] at f
    by_cases hx : x = b'
    · subst hx
      rw [put_same] at e
      cases e
      exact h.injF b y c d hb f (fun z => hyb z.symm) hwr fy
    · rw [put_ne _ _ hx] at e
      exact h.injF x y k d e f ne wx fy
/-- A block is gone on from, in a new place, as another one. -/
theorem Is.goOnNew {lo base : Nat} {ρ : Ren} {G : Mem?} {w w' : World} (h : Is lo base ρ G w) {b b' : Base} (hne : b ≠ b') (hb : ρ b' = none) {arr : Array Value} {ty : TypeId} {fr : Nat × Nat} {room : Nat} {cs : List Val}
    (hr : room ≤ arr.size) (hl : cs.length ≤ room) (hc : ∀ i x, getAt i cs = some x → ∃ v, arr[i]? = some v ∧ cellRel ρ x v) (hf : ∀ i, i < arr.size → ¬ (fr.1 ≤ i ∧ i < fr.2))
    (hw : w'.heap = w.heap.push (.cells arr ty fr)) (hsh : ∀ k, b' = .hp k → cs.all shared = true) : Is lo base (ρ.put b' ⟨w.heap.size, 0, room⟩) (upd (upd G b none) b' (some cs)) w' := by
  have h2 : Is lo base ρ (upd G b none) w :=
    ⟨fun x c l e g => by
        by_cases hx : x = b
        · subst hx; rw [upd_same] at g; cases g
        · rw [upd_ne _ _ hx] at g; exact h.at' x c l e g,
      fun x y c d e f g k => by
        have key : ∀ z, (upd G b none z).isSome = true → (G z).isSome = true := fun z hz => by
          by_cases hzb : z = b
          · subst hzb; rw [upd_same] at hz; cases hz
          · rwa [upd_ne _ _ hzb] at hz
        exact h.inj x y c d e f (key x g) (key y k), h.dom, h.base, fun k c l e g => by
        by_cases hx : Base.hp k = b
        · rw [hx, upd_same] at g; cases g
        · rw [upd_ne _ _ hx] at g; exact h.sh k c l e g, h.injF⟩
  exact h2.new hb hr hl hc hf hw hsh
theorem Kept.push (A : Nat → Prop) {w w' : World} {o : Obj} (h1 : w'.os = w.os) (h2 : w'.tape = w.tape) (h3 : w'.output = w.output) (hw : w'.heap = w.heap.push o) : Kept A w w' :=
  ⟨h1, h2, h3, by rw [hw, Array.size_push]; omega, fun c hc _ => by rw [hw]; exact heap_push w o c hc⟩
theorem Kept.setRow {A : Nat → Prop} (w : World) (g : Nat) (cs : Array Value) (h : A g) : Kept A w (w.setRow g cs) :=
  ⟨rfl, rfl, rfl, by rw [size_setRow]; omega, fun c hc hn => setRow_other w g cs c (fun z => hn (z ▸ h))⟩
/-! ### rows -/
theorem dropN_eq {α : Type} : ∀ (n : Nat) (xs : List α), dropN n xs = xs.drop n
  | 0, _ => by cases ‹List α› <;> rfl
  | _ + 1, [] => rfl
  | n + 1, x :: xs => by simp [dropN, dropN_eq n xs]
theorem takeN_spec {α : Type} : ∀ (n : Nat) (xs ys : List α), takeN n xs = some ys → ys.length = n ∧ n ≤ xs.length ∧ ys = xs.take n
  | 0, xs, ys, h => by simp only [takeN, Option.some.injEq] at h; subst h; simp
  | n + 1, [], ys, h => by simp [takeN] at h
  | n + 1, x :: xs, ys, h => by
    simp only [takeN] at h
    cases e : takeN n xs with
    | none => simp [e] at h
    | some l =>
      simp only [e, Option.map_some, Option.some.injEq] at h
      obtain ⟨a, b, c⟩ := takeN_spec n xs l e
      subst h
      simp [a, b, c]
theorem part_spec {α : Type} {off n : Nat} {xs ys : List α} (h : part? off n xs = some ys) : ys.length = n ∧ off + n ≤ xs.length ∨ (n = 0 ∧ ys = []) := by
  unfold part? at h
  obtain ⟨a, b, c⟩ := takeN_spec _ _ _ h
  rw [dropN_eq] at b
  simp at b
  by_cases h0 : n = 0
  · right; subst h0; exact ⟨rfl, List.length_eq_zero_iff.1 a⟩
  · left; exact ⟨a, by omega⟩
theorem part_get {α : Type} {off n : Nat} {xs ys : List α} (h : part? off n xs = some ys) (i : Nat) (hi : i < n) : ys[i]? = xs[off + i]? := by
  unfold part? at h
  obtain ⟨a, b, c⟩ := takeN_spec _ _ _ h
  rw [c, dropN_eq, List.getElem?_take_of_lt hi, List.getElem?_drop]
theorem rels_of_get {R : Val → Value → Prop} : ∀ {xs : List Val} {vs : List Value}, xs.length = vs.length → (∀ (i : Nat) (x : Val), xs[i]? = some x → ∃ v, vs[i]? = some v ∧ R x v) → rels R xs vs
  | [], [], _, _ => trivial
  | x :: xs, v :: vs, hl, h => ⟨by obtain ⟨u, hu, r⟩ := h 0 x rfl; simp at hu; subst hu; exact r, rels_of_get (by simpa using hl) fun i y e => by obtain ⟨u, hu, r⟩ := h (i + 1) y (by simpa using e); exact ⟨u, by simpa using hu, r⟩⟩
  | [], _ :: _, h, _ => by simp at h
  | _ :: _, [], h, _ => by simp at h
theorem aggB_run {P : Program} {t : TypeId} {b : Bool} (h : aggB P t = some b) (w : World) : (isAgg t).run P w = .ok b w := by
  unfold aggB at h
  unfold isAgg
  cases hu : P.underlying t with
  | none => simp [hu] at h
  | some d => cases d <;> simp [hu] at h <;> subst h <;> simp [run_underlying hu]
theorem sizeB_run {P : Program} {t : TypeId} {n : Nat} (h : sizeB P t = some n) (w : World) : (sizeOf t).run P w = .ok n w := by
  unfold sizeB at h
  cases hi : P.info? t with
  | none => simp [hi] at h
  | some i => simp [hi] at h; simp [sizeOf, typeInfo, hi, h]
theorem addr_add (b o n : Nat) : (⟨b, o, none⟩ : Addr).add n = ⟨b, o + n, none⟩ := by unfold Addr.add; split <;> simp_all
theorem cell_of {w : World} {b o : Nat} {arr : Array Value} {ty : TypeId} {fr : Nat × Nat} (h : w.heap[b]? = some (.cells arr ty fr)) : w.cell? ⟨b, o, none⟩ = arr[o]? := by
  simp [World.cell?, h]
/-- A value is read. -/
theorem read_ok {P : Program} {lo base : Nat} {ρ : Ren} {w : World} {t : TypeId} {b : Base} {c : CB} {cs : List Val} {off : Nat} {x : Val} (hat : At ρ lo base b c cs w) (h : partV P t cs off = some x) :
    ∃ v, (loadVar t ⟨c.blk, c.off + off, none⟩).run P w = .ok v w ∧ relD ρ x v := by
  obtain ⟨arr, ty, fr, h1, h2, h3, h4, h5⟩ := hat
  unfold partV at h
  cases ha : aggB P t with
  | none => simp [ha] at h
  | some g =>
    cases hs : sizeB P t with
    | none => simp [ha, hs] at h
    | some n =>
      cases g
      · simp only [ha, hs] at h
        obtain ⟨v, hv, hr⟩ := h4 off x h
        refine ⟨v, ?_, relD_of_cell hr⟩
        simp [loadVar, aggB_run ha, cell_of h1, hv]
      · simp only [ha, hs] at h
        cases hp : part? off n cs with
        | none => simp [hp] at h
        | some ys =>
          simp only [hp, Option.map_some, Option.some.injEq] at h
          subst h
          have hget : ∀ j, j < n → w.cell? ((⟨c.blk, c.off + off, none⟩ : Addr).add j) = some (arr.getD (c.off + off + j) undef) := by
            intro j hj
            rw [addr_add, cell_of h1]
            have e := part_get hp j hj
            have hlen : ys.length = n := by rcases part_spec hp with z | z <;> simp_all
            have : j < ys.length := by omega
            rw [List.getElem?_eq_getElem this] at e
            obtain ⟨v, hv, hr⟩ := h4 (off + j) _ ((getAt_eq _ _).trans e.symm)
            rw [← Nat.add_assoc] at hv
            simp [hv]
          have hlen : ys.length = n := by rcases part_spec hp with z | z <;> simp_all
          refine ⟨_, by simp only [loadVar, Sem.run_bind, aggB_run ha, Result.andThen_ok, if_true, sizeB_run hs, run_loadCells w _ n _ hget]; rfl, _, rfl, ?_⟩
          refine rels_of_get (by simp [hlen]) fun i y e => ?_
          have hi : i < n := by have := (List.getElem?_eq_some_iff.1 e).1; omega
          rw [part_get hp i hi] at e
          obtain ⟨v, hv, hr⟩ := h4 (off + i) y ((getAt_eq _ _).trans e)
          rw [← Nat.add_assoc] at hv
          exact ⟨v, by simp [hi, hv], hr⟩
end Go.Proofs.YtponkdimnafppaaDoor.VM
