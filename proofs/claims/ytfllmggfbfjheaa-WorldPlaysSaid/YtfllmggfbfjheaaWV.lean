/- WorldPlays by the plain machine: the law. -/
import Derived.Test.YtfllmggfbfjheaaWT
import Derived.Test.YtfllmggfbfjheaaWU
import Derived.Test.YtfllmggfbfjheaaWUa
namespace Go.Proofs.Ytfllmggfbfjheaa.VM
open Go Go.RowKit Go.ChangeShapes
set_option linter.unusedVariables false
set_option linter.unusedSimpArgs false
set_option maxRecDepth 100000
set_option maxHeartbeats 3200000
/-- How long a slice that is read is. -/
theorem open_size {H : Type} {enc : TypeId × Value → H} {P : Program} {W : World} {base : Nat} {t e : TypeId} {A : Option Addr} {len cap : Nat} {d : DataW H} {ps : List MemPlace} (ht : P.underlying t = some (.slice e)) (h : DataW.Trod enc P W base (fun _ => true) true t (.slice A len cap) d ps) :
    len = 0 ∨ ∃ el sp, d = .slice el sp ∧ el.length = len := by
  obtain ⟨fuel, hf⟩ := h
  rcases DataW.trod_slice ht hf with ⟨hcs, _⟩ | ⟨a, len', cap', elems, rest, n, _, hcs, hx, _, _, _, hlen, _⟩
  · simp [Value.cells] at hcs
    exact .inl hcs.2.1
  · simp [Value.cells] at hcs
    obtain ⟨_, rfl, _⟩ := hcs
    simp only [Prod.mk.injEq] at hx
    exact .inr ⟨_, _, hx.1, by simpa using hlen⟩
theorem u16_wf {n : Int} (h : (Lit.int .u16 n).wf = true) : U16 n := by
  simp only [Lit.wf, IntKind.has, Bool.and_eq_true, decide_eq_true_eq] at h
  obtain ⟨h1, h2⟩ := h
  have h3 : n ≤ 65535 := h2
  have h4 : 0 ≤ n := h1
  unfold U16; omega
theorem toWords : ∀ {els : List (List Val)} (h : ∀ el ∈ els, rowOk [.int .u16] el), ∃ R : List Int, els = R.map (fun n => [.int .u16 n]) ∧ ∀ n ∈ R, U16 n
  | [], _ => ⟨[], rfl, by simp⟩
  | el :: els, h => by
    have h1 := h el (by simp)
    obtain ⟨l, rfl, hl⟩ := toWords (els := els) fun x hx => h x (by simp [hx])
    match el, h1 with
    | [.int k n], h1 =>
      obtain ⟨⟨rfl, hw⟩, _⟩ := h1
      refine ⟨n :: l, rfl, fun m hm => ?_⟩
      rcases List.mem_cons.1 hm with rfl | hm
      · exact u16_wf hw
      · exact hl m hm
theorem flat_uV (R : List Int) : (R.map fun n => [Val.int .u16 n]).flatten = uV R := by
  induction R with
  | nil => rfl
  | cons b l ih => simp only [List.map_cons, List.flatten_cons, ih]; rfl
theorem u16_getD {R : List Int} (h : ∀ n ∈ R, U16 n) (i : Nat) : U16 (R.getD i 0) := by
  rw [List.getD_eq_getElem?_getD]
  by_cases c : i < R.length
  · rw [List.getElem?_eq_getElem c]; exact h _ (List.getElem_mem c)
  · rw [List.getElem?_eq_none (by omega)]; unfold U16; exact ⟨Int.le_refl 0, by decide⟩
theorem toActw {el : List Val} (h : rowOk [.int .i64, .int .u16, .int .u16, .bool] el) : ∃ a : ActW, el = actW a ∧ U16 a.n ∧ U16 a.v := by
  match el, h with
  | [.int k0 a0, .int k1 a1, .int k2 a2, .bool a3], h =>
    obtain ⟨⟨rfl, w0⟩, ⟨rfl, w1⟩, ⟨rfl, w2⟩, _⟩ := h
    exact ⟨⟨a0, a1, a2, a3⟩, rfl, u16_wf w1, u16_wf w2⟩
theorem toActsw : ∀ {els : List (List Val)} (h : ∀ el ∈ els, rowOk [.int .i64, .int .u16, .int .u16, .bool] el), ∃ l : List ActW, els = l.map actW ∧ ∀ a ∈ l, U16 a.n ∧ U16 a.v
  | [], _ => ⟨[], rfl, by simp⟩
  | el :: els, h => by
    obtain ⟨e, rfl, he⟩ := toActw (h el (by simp))
    obtain ⟨l, rfl, hl⟩ := toActsw (els := els) fun x hx => h x (by simp [hx])
    refine ⟨e :: l, rfl, fun a ha => ?_⟩
    rcases List.mem_cons.1 ha with rfl | ha
    · exact he
    · exact hl a ha
theorem actsW_shared (l : List ActW) : (actsW l).all shared = true := by
  rw [List.all_eq_true]
  intro v hv
  simp only [actsW, List.mem_flatten, List.mem_map] at hv
  obtain ⟨_, ⟨e, _, rfl⟩, hv⟩ := hv
  simp only [actW, List.mem_cons, List.not_mem_nil, or_false] at hv
  rcases hv with rfl | rfl | rfl | rfl <;> rfl
theorem worldPlays_w (A0 : Option Addr) (len0 c0 : Nat) (els0 : List (List Val)) (A1 : Option Addr) (len1 c1 : Nat) (els1 : List (List Val)) (W : World) (hr0 : SlRow W A0 len0 c0 1 els0) (hw0 : ∀ el ∈ els0, rowOk [.int .u16] el) (hc0 : c0 ≤ maxLen) (hz0 : len0 * 2 ≤ 140737488351232) (hr1 : SlRow W A1 len1 c1 4 els1) (hw1 : ∀ el ∈ els1, rowOk [.int .i64, .int .u16, .int .u16, .bool] el) (hc1 : c1 ≤ maxLen) :
    Calls Try.prog 6 #[.slice A0 len0 c0, .slice A1 len1 c1] W fun e W' => e = .returned (.bool true) ∧ Below W.heap.size W W' := by
  obtain ⟨R, rfl, hR⟩ := toWords hw0
  obtain ⟨l, rfl, hu⟩ := toActsw hw1
  have hRl : R.length = len0 := by have := hr0.1; simpa using this
  have hl : l.length = len1 := by have := hr1.1; simpa using this
  subst hRl; subst hl
  have hu16 := u16_getD hR
  obtain ⟨K, hK⟩ : ∃ K, K = 300 := ⟨_, rfl⟩
  have hs0 : ∀ el ∈ R.map (fun n => [Val.int .u16 n]), el.length = 1 := by
    intro el hel
    simp only [List.mem_map] at hel
    obtain ⟨e, _, rfl⟩ := hel
    rfl
  have hs1 : ∀ el ∈ l.map actW, el.length = 4 := by
    intro el hel
    simp only [List.mem_map] at hel
    obtain ⟨e, _, rfl⟩ := hel
    rfl
  cases A0 with
  | none =>
    obtain ⟨_, ⟨_, h1, h2⟩ | ⟨_, _, _, _, _, h, _⟩⟩ := hr0
    · rw [h1, h2]
      have hR0 : R = [] := List.length_eq_zero_iff.1 h1
      cases A1 with
      | none =>
        obtain ⟨_, ⟨_, h3, h4⟩ | ⟨_, _, _, _, _, h, _⟩⟩ := hr1
        · rw [h3, h4]
          obtain ⟨⟨v, H'⟩, he, hv⟩ := worldPlays_nn Mk.plain K 0 hK R hz0 hR0 [] (by simp)
          replace hv : v = .bool true := hv
          subst hv
          refine law_of (ρ := fun _ => none) (H0 := []) follows annok extok he (fun b c z => by cases z) (fun k c cs z => by cases z) (fun b c z => by cases z) ?_
          exact ⟨rfl, rfl, trivial⟩
        · cases h
      | some y =>
        obtain ⟨⟨v, H'⟩, he, hv⟩ := worldPlays_n Mk.plain K 1 hK R hu16 hz0 hR0 l hu 0 [⟨actsW l, true⟩] (by simp) rfl
        replace hv : v = .bool true := hv
        subst hv
        have hat := fun ρ => slAt (ρ := ρ) hr1 hs1 (cb := ⟨y.block, if c1 = 0 then 0 else y.off, c1 * 4⟩) rfl
        let ρ : Ren := fun b => match b with
          | .hp 0 => slBlk 4 (some y) c1
          | _ => none
        have hρ : ∀ b c, ρ b = some c → b = .hp 0 ∧ c = ⟨y.block, if c1 = 0 then 0 else y.off, c1 * 4⟩ := by
          intro b c h
          simp only [ρ] at h
          split at h
          · exact ⟨rfl, (Option.some.inj h).symm⟩
          · cases h
        refine law_of (ρ := ρ) (H0 := [⟨actsW l, true⟩]) follows annok extok he (fun b c z => ⟨0, (hρ b c z).1, Nat.zero_lt_one⟩) (fun k c cs z hk => ?_) (fun b c z => by rw [(hρ b c z).2]; exact (hat ρ).1) ?_
        · obtain ⟨h0, rfl⟩ := hρ _ _ z
          cases h0
          obtain rfl : actsW l = cs := Option.some.inj hk
          exact ⟨actsW_shared l, (hat ρ).2⟩
        · exact ⟨rfl, slRel hr1 rfl, trivial⟩
    · cases h
  | some x =>
    have hatR := fun ρ => slAt (ρ := ρ) hr0 hs0 (cb := ⟨x.block, if c0 = 0 then 0 else x.off, c0 * 1⟩) rfl
    rw [flat_uV] at hatR
    cases A1 with
    | none =>
      obtain ⟨_, ⟨_, h3, h4⟩ | ⟨_, _, _, _, _, h, _⟩⟩ := hr1
      · rw [h3, h4]
        obtain ⟨⟨v, H'⟩, he, hv⟩ := worldPlays_sn Mk.plain K 1 hK R hz0 0 [⟨uV R, true⟩] (by simp) rfl
        replace hv : v = .bool true := hv
        subst hv
        let ρ : Ren := fun b => match b with
          | .hp 0 => slBlk 1 (some x) c0
          | _ => none
        have hρ : ∀ b c, ρ b = some c → b = .hp 0 ∧ c = ⟨x.block, if c0 = 0 then 0 else x.off, c0 * 1⟩ := by
          intro b c h
          simp only [ρ] at h
          split at h
          · exact ⟨rfl, (Option.some.inj h).symm⟩
          · cases h
        refine law_of (ρ := ρ) (H0 := [⟨uV R, true⟩]) follows annok extok he (fun b c z => ⟨0, (hρ b c z).1, Nat.zero_lt_one⟩) (fun k c cs z hk => ?_) (fun b c z => by rw [(hρ b c z).2]; exact (hatR ρ).1) ?_
        · obtain ⟨h0, rfl⟩ := hρ _ _ z
          cases h0
          obtain rfl : uV R = cs := Option.some.inj hk
          exact ⟨uV_shared R, (hatR ρ).2⟩
        · exact ⟨slRel hr0 rfl, rfl, trivial⟩
      · cases h
    | some y =>
      obtain ⟨⟨v, H'⟩, he, hv⟩ := worldPlays_sl Mk.plain K 2 hK R hu16 hz0 0 l hu 1 [⟨uV R, true⟩, ⟨actsW l, true⟩] (by simp) rfl rfl
      replace hv : v = .bool true := hv
      subst hv
      have hat := fun ρ => slAt (ρ := ρ) hr1 hs1 (cb := ⟨y.block, if c1 = 0 then 0 else y.off, c1 * 4⟩) rfl
      let ρ : Ren := fun b => match b with
        | .hp 0 => slBlk 1 (some x) c0
        | .hp 1 => slBlk 4 (some y) c1
        | _ => none
      have hρ : ∀ b c, ρ b = some c → (b = .hp 0 ∧ c = ⟨x.block, if c0 = 0 then 0 else x.off, c0 * 1⟩) ∨ (b = .hp 1 ∧ c = ⟨y.block, if c1 = 0 then 0 else y.off, c1 * 4⟩) := by
        intro b c h
        simp only [ρ] at h
        split at h
        · exact .inl ⟨rfl, (Option.some.inj h).symm⟩
        · exact .inr ⟨rfl, (Option.some.inj h).symm⟩
        · cases h
      refine law_of (ρ := ρ) (H0 := [⟨uV R, true⟩, ⟨actsW l, true⟩]) follows annok extok he (fun b c z => ?_) (fun k c cs z hk => ?_) (fun b c z => ?_) ?_
      · rcases hρ b c z with ⟨h0, _⟩ | ⟨h0, _⟩
        · exact ⟨0, h0, by simp⟩
        · exact ⟨1, h0, by simp⟩
      · rcases hρ _ _ z with ⟨h0, rfl⟩ | ⟨h0, rfl⟩
        · cases h0
          obtain rfl : uV R = cs := Option.some.inj hk
          exact ⟨uV_shared R, (hatR ρ).2⟩
        · cases h0
          obtain rfl : actsW l = cs := Option.some.inj hk
          exact ⟨actsW_shared l, (hat ρ).2⟩
      · rcases hρ b c z with ⟨_, rfl⟩ | ⟨_, rfl⟩
        · exact (hatR ρ).1
        · exact (hat ρ).1
      · exact ⟨slRel hr0 rfl, slRel hr1 rfl, trivial⟩
end Go.Proofs.Ytfllmggfbfjheaa.VM
