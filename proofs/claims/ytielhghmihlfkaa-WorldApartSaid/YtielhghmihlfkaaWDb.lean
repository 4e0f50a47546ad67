/- WorldApart by the plain machine: the smallest calls, and plain facts. -/
import Derived.Test.YtielhghmihlfkaaWDa
namespace Go.Proofs.Ytielhghmihlfkaa.VM
open Go Go.RowKit
set_option linter.unusedVariables false
set_option linter.unusedSimpArgs false
set_option maxRecDepth 100000
set_option maxHeartbeats 3200000
theorem apart_G (mk : Mk) (k lo : Nat) (A B : List Ev) (ra rb : List Val) (p q oA oB nA nB : Nat) (hoA : oA = 0) (hoB : oB = 0) (hnA : nA = A.length) (hnB : nB = B.length) (hk : A.length + B.length + 3 ≤ k) (ha : A.length < 1000) (hb : B.length < 1000) (H : List Blk)
    (hA : ∀ loc, Mem.get ⟨loc, H⟩ (.hp p) = some (evsV A ++ ra)) (hB : ∀ loc, Mem.get ⟨loc, H⟩ (.hp q) = some (evsV B ++ rb)) :
    Ends (FF mk k lo 30 [.sl (.hp p) oA nA 7, .sl (.hp q) oB nB 7] H) (fun r => r.2 = H ∧ ∃ z, r.1 = .int .i64 z ∧ PartsAt A B z) := by
  subst hoA; subst hoB; subst hnA; subst hnB
  exact apart_F mk k lo A B ra rb p q hk ha hb H hA hB
theorem same_G (mk : Mk) (k lo : Nat) (A B : List Ev) (ra rb : List Val) (p q oA oB nA nB : Nat) (hoA : oA = 0) (hoB : oB = 0) (hnA : nA = A.length) (hnB : nB = B.length) (hk : A.length + 4 ≤ k) (ha : A.length < 1000) (hb : B.length < 1000) (H : List Blk)
    (hA : ∀ loc, Mem.get ⟨loc, H⟩ (.hp p) = some (evsV A ++ ra)) (hB : ∀ loc, Mem.get ⟨loc, H⟩ (.hp q) = some (evsV B ++ rb)) :
    Ends (FF mk k lo 28 [.sl (.hp p) oA nA 7, .sl (.hp q) oB nB 7] H) (fun r => r.2 = H ∧ ∃ z, r.1 = .bool z ∧ (z = true ↔ A = B)) := by
  subst hoA; subst hoB; subst hnA; subst hnB
  exact same_F mk k lo A B ra rb p q hk ha hb H hA hB
theorem out_F (mk : Mk) (k lo : Nat) (hk : 6 ≤ k) (H : List Blk) : FF mk k lo 23 [.nilp, .int .u16 1, .int .u16 2] H = some (.tup [], H) := by
  obtain ⟨k, rfl⟩ : ∃ m, k = m + 6 := ⟨k - 6, by omega⟩
  kernel_rfl
theorem stop_F (mk : Mk) (k lo : Nat) (hk : 6 ≤ k) (H : List Blk) : FF mk k lo 25 [.nilp, .int .i64 3] H = some (.tup [], H) := by
  obtain ⟨k, rfl⟩ : ∃ m, k = m + 6 := ⟨k - 6, by omega⟩
  kernel_rfl
theorem int_F (mk : Mk) (k lo : Nat) (hk : 6 ≤ k) (H : List Blk) : FF mk k lo 24 [.nilp, .int .u8 3, .int .u16 9, .int .u16 0, .int .u16 0, .int .u16 0] H = some (.tup [.int .u16 9, .bool true], H) := by
  obtain ⟨k, rfl⟩ : ∃ m, k = m + 6 := ⟨k - 6, by omega⟩
  kernel_rfl
theorem in_F (mk : Mk) (k lo : Nat) (hk : 6 ≤ k) (H : List Blk) : FF mk k lo 22 [.nilp, .int .u16 1, .bool true] H = some (.int .u16 0, H) := by
  obtain ⟨k, rfl⟩ : ∃ m, k = m + 6 := ⟨k - 6, by omega⟩
  kernel_rfl
theorem used_F (mk : Mk) (k lo : Nat) (hk : 6 ≤ k) (H : List Blk) : FF mk k lo 26 [.nilp] H = some (.int .i64 0, H) := by
  obtain ⟨k, rfl⟩ : ∃ m, k = m + 6 := ⟨k - 6, by omega⟩
  kernel_rfl
theorem events_F (mk : Mk) (k lo : Nat) (hk : 6 ≤ k) (H : List Blk) : FF mk k lo 29 [.nilp] H = some (.nils, H) := by
  obtain ⟨k, rfl⟩ : ∃ m, k = m + 6 := ⟨k - 6, by omega⟩
  kernel_rfl
def head3 (o : Option (Val × List Blk)) : Option (Bool × Blk × Blk × Blk) := match o with
  | some (.bool b, x :: y :: z :: _) => some (b, x, y, z)
  | _ => none
theorem aw12 (mk : Mk) (k : Nat) (hk : 40 ≤ k) (b0 b1 b2 : Blk) : Ends (FF mk k 1 27 [] [b0, b1, b2]) (fun r => r.1 = .bool true ∧ ∃ G, r.2 = b0 :: b1 :: b2 :: G) := by
  obtain ⟨k, rfl⟩ : ∃ m, k = m + 40 := ⟨k - 40, by omega⟩
  have h : head3 (FF mk (k + 40) 1 27 [] [b0, b1, b2]) = some (true, b0, b1, b2) := by kernel_rfl
  unfold head3 at h
  split at h
  · rename_i b x y z G he
    simp only [Option.some.injEq, Prod.mk.injEq] at h
    obtain ⟨rfl, rfl, rfl, rfl⟩ := h
    exact ⟨_, he, rfl, G, rfl⟩
  · cases h
theorem evs_shared (l : List Ev) : (evsV l).all shared = true := by
  rw [List.all_eq_true]
  intro v hv
  simp only [evsV, List.mem_flatten, List.mem_map] at hv
  obtain ⟨_, ⟨e, _, rfl⟩, hv⟩ := hv
  simp only [evV, List.mem_cons, List.not_mem_nil, or_false] at hv
  rcases hv with rfl | rfl | rfl | rfl | rfl | rfl | rfl <;> rfl
theorem put_ev {l : List Ev} {i : Nat} (h : i < l.length) (e : Ev) {off : Nat} (ho : off = i * 7) : putAt off (evV e) (evsV l) = some (evsV (l.set i e)) := by
  have h1 := evs_split h []
  rw [List.append_nil, List.append_nil] at h1
  have h2 : (l.set i e).length = l.length := List.length_set
  have h3 := evs_split (l := l.set i e) (i := i) (by omega) []
  rw [List.append_nil, List.append_nil] at h3
  have ho2 : off = (evsV (l.take i)).length := by rw [ho, evsV_len, List.length_take, Nat.min_eq_left (by omega)]
  rw [h1, ho2, putAt_mid (evsV (l.take i)) (evV l[i]) _ (evV e) rfl, h3]
  rw [List.take_set_of_le (Nat.le_refl i), List.drop_set_of_lt (by omega), List.getElem_set_self]
theorem parts_set {X : List Ev} {i : Nat} (h : i < X.length) (e : Ev) {z : Int} (hz : PartsAt X (X.set i e) z) : (X[i] = e → z = -1) ∧ (X[i] ≠ e → z = i) := by
  rcases hz with ⟨rfl, hx⟩ | ⟨j, rfl, hj, hne⟩
  · refine ⟨fun _ => rfl, fun hn => absurd ?_ hn⟩
    have := congrArg (fun l => l[i]?) hx
    simp only [List.getElem?_set_self h, List.getElem?_eq_getElem h, Option.some.injEq] at this
    exact this
  · have hji : j = i := by
      refine Classical.byContradiction fun hc => hne ?_
      rw [List.getElem?_set_ne (Ne.symm hc)]
    subst hji
    refine ⟨fun he => absurd ?_ hne, fun _ => rfl⟩
    rw [List.getElem?_set_self h, List.getElem?_eq_getElem h, he]
theorem parts_self {X : List Ev} {z : Int} (hz : PartsAt X X z) : z = -1 := by
  rcases hz with ⟨rfl, _⟩ | ⟨j, rfl, _, hne⟩
  · rfl
  · exact absurd rfl hne
theorem parts_take {X : List Ev} {i : Nat} (h : i < X.length) {z : Int} (hz : PartsAt X (X.take i) z) : z = i := by
  rcases hz with ⟨rfl, hx⟩ | ⟨j, rfl, hj, hne⟩
  · have := congrArg List.length hx
    rw [List.length_take] at this
    omega
  · have h1 : ¬ j < i := fun hc => hne (by rw [List.getElem?_take_of_lt hc])
    have h2 : ¬ i < j := fun hc => by
      have := hj i hc
      rw [List.getElem?_eq_getElem h, List.getElem?_eq_none (by rw [List.length_take]; omega)] at this
      cases this
    have : j = i := by omega
    rw [this]
end Go.Proofs.Ytielhghmihlfkaa.VM
