/- WorldPlays by the plain machine: words. -/
import Derived.Test.YtfllmggfbfjheaaWS
namespace Go.Proofs.Ytfllmggfbfjheaa.VM
open Go Go.RowKit
set_option linter.unusedVariables false
set_option linter.unusedSimpArgs false
set_option maxRecDepth 40000
set_option maxHeartbeats 3200000
structure ActW where
  w : Int
  n : Int
  v : Int
  t : Bool
def actW (a : ActW) : List Val := [.int .i64 a.w, .int .u16 a.n, .int .u16 a.v, .bool a.t]
def actsW (l : List ActW) : List Val := (l.map actW).flatten
theorem actsW_len (l : List ActW) : (actsW l).length = l.length * 4 := by
  induction l with
  | nil => rfl
  | cons x l ih =>
    have : (actsW (x :: l)) = actW x ++ actsW l := rfl
    rw [this, List.length_append, ih, List.length_cons, Nat.succ_mul]
    show 4 + _ = _; omega
theorem actsW_append (x y : List ActW) : actsW (x ++ y) = actsW x ++ actsW y := by simp [actsW]
theorem part_actw {l : List ActW} {i : Nat} (h : i < l.length) {off : Nat} (ho : off = i * 4) : part? off 4 (actsW l) = some (actW l[i]) := by
  have e : actsW l = actsW (l.take i) ++ (actW l[i] ++ actsW (l.drop (i + 1))) := by
    conv => lhs; rw [← List.take_append_drop i l, List.drop_eq_getElem_cons h]
    rw [actsW_append]
    rfl
  rw [e]
  exact part_mid _ _ _ (by rw [ho, actsW_len, List.length_take, Nat.min_eq_left (by omega)]) rfl
theorem aggActW : aggB Try.prog 67 = some true := by kernel_rfl
theorem sizeActW : sizeB Try.prog 67 = some 4 := by kernel_rfl
theorem partActW {l : List ActW} {i : Nat} (h : i < l.length) {off : Nat} (ho : off = i * 4) : partV Try.prog 67 (actsW l) off = some (.agg (actW l[i])) := by
  unfold partV
  rw [aggActW, sizeActW]
  simp only [part_actw h ho, Option.map_some]
theorem loc_top (loc : List (List Val)) (H : List Blk) (cs : List Val) : Mem.get ⟨loc ++ [cs], H⟩ (.lo loc.length) = some cs := by simp [Mem.get]
theorem loc_set (loc : List (List Val)) (H : List Blk) (c cs : List Val) : Mem.get ⟨(loc ++ [c]).set loc.length cs, H⟩ (.lo loc.length) = some cs := by simp [Mem.get]
theorem sc_lo7 (loc : List (List Val)) (H : List Blk) (cs : List Val) (m : Nat) (hn : cs.length = m * 7) : sliceCells ⟨loc ++ [cs], H⟩ 7 (.sl (.lo loc.length) 0 m 7) = some cs := by
  show (Mem.get ⟨loc ++ [cs], H⟩ (.lo loc.length)).bind (part? 0 (m * 7)) = _
  rw [loc_top]
  have := part_mid [] cs [] (off := 0) (n := m * 7) rfl hn.symm
  simpa using this
theorem HasW.ap {H : List Blk} {wb : Nat} {R : List Int} {rv : Val} {n : Nat} {E : List Ev} {lv : Val} {eb : Nat} (h : HasW H wb R rv n E lv eb) {r : Nat} (B C : Blk) (h1 : r ≠ wb) (h2 : r ≠ eb) (h3 : ∀ b, rv = .sl (.hp b) 0 R.length 1 → b ≠ r) : HasW (H.set r B ++ [C]) wb R rv n E lv eb := by
  have hg : Grown (H.set r B) (H.set r B ++ [C]) := Grown.one _ _
  have a : HasW (H.set r B) wb R rv n E lv eb := by
    refine ⟨by rw [List.getElem?_set_ne h1]; exact h.hw, ?_, ?_, h.hn⟩
    · rcases h.hr with a | ⟨b, a1, a2, a3, a4⟩
      · exact .inl a
      · exact .inr ⟨b, a1, a2, a3, by rw [List.getElem?_set_ne (Ne.symm (h3 b a1))]; exact a4⟩
    · rcases h.he with a | ⟨a1, a2, a3⟩
      · exact .inl a
      · exact .inr ⟨a1, a2, by rw [List.getElem?_set_ne h2]; exact a3⟩
  exact a.keep hg
theorem HasW.rb_lt {H : List Blk} {wb : Nat} {R : List Int} {rv : Val} {n : Nat} {E : List Ev} {lv : Val} {eb : Nat} (h : HasW H wb R rv n E lv eb) : ∀ b, rv = .sl (.hp b) 0 R.length 1 → b < H.length := by
  intro b hb
  rcases h.hr with ⟨a, _⟩ | ⟨c, a1, _, _, a4⟩
  · rw [a] at hb; cases hb
  · rw [a1] at hb; cases hb; exact at_lt a4
theorem u8_wrap (x : Int) : U8 (IntKind.u8.wrap x) := by unfold U8; rw [wu8]; omega
theorem grown_keep {B H H' : List Blk} {wb eb : Nat} (g : Grown B H) (k : KeepW H H' wb eb) (h1 : B.length ≤ wb) (h2 : B.length ≤ eb) : Grown B H' :=
  grown_of (Nat.le_trans g.len k.1) fun b c e => by
    have := at_lt e
    exact k.2 b c (g.at e) (by omega) (by omega)
end Go.Proofs.Ytfllmggfbfjheaa.VM
