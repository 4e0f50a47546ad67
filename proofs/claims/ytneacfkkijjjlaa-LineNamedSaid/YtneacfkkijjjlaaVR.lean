/- A plain machine for the program's functions: what is told beside each. -/
import Derived.Test.YtneacfkkijjjlaaVQ
import Derived.Test.YtneacfkkijjjlaaProg
import Derived.Test.YtneacfkkijjjlaaShelf
import Derived.Test.YtneacfkkijjjlaaLexC
import Derived.KernelRfl
namespace Go.Proofs.Ytneacfkkijjjlaa.VM
open Go Go.RowKit
set_option linter.unusedVariables false
set_option linter.unusedSimpArgs false
def notes : List Note := [⟨[], [], []⟩,
   ⟨[], [], []⟩,
   ⟨[], [], []⟩,
   ⟨[6, 10, 18, 63, 74, 89, 102], [[1, 5, 6, 9]], []⟩,
   ⟨[8, 11], [], []⟩,
   ⟨[6, 8, 10, 12, 44], [], []⟩,
   ⟨[2], [], []⟩,
   ⟨[1, 3], [], []⟩,
   ⟨[2, 3], [[2, 3, 5], [2, 3, 6], [2, 3, 6, 7]], []⟩,
   ⟨[], [], []⟩,
   ⟨[], [[0, 3, 4]], []⟩,
   ⟨[6, 42, 55], [[3, 4, 11, 12, 13]], []⟩,
   ⟨[], [], []⟩,
   ⟨[5, 44], [[0, 4]], []⟩,
   ⟨[2], [], []⟩,
   ⟨[24], [[0, 1]], []⟩,
   ⟨[1], [], []⟩,
   ⟨[], [[6]], []⟩,
   ⟨[2], [], []⟩,
   ⟨[], [], []⟩,
   ⟨[], [[0, 3]], []⟩,
   ⟨[], [[3, 8, 9, 10]], []⟩,
   ⟨[], [], []⟩,
   ⟨[2], [], []⟩,
   ⟨[], [], []⟩,
   ⟨[], [], []⟩,
   ⟨[], [], []⟩,
   ⟨[], [[4, 5, 6, 24, 25, 26]], []⟩,
   ⟨[], [], []⟩,
   ⟨[], [], []⟩,
   ⟨[], [], []⟩,
   ⟨[], [], []⟩,
   ⟨[], [], []⟩,
   ⟨[], [], []⟩,
   ⟨[], [], []⟩,
   ⟨[], [], []⟩,
   ⟨[], [], []⟩,
   ⟨[], [], []⟩,
   ⟨[], [], []⟩,
   ⟨[], [], []⟩,
   ⟨[], [], []⟩,
   ⟨[], [], []⟩,
   ⟨[], [], []⟩,
   ⟨[], [], []⟩,
   ⟨[], [], []⟩,
   ⟨[], [], []⟩,
   ⟨[], [], []⟩]
def tbl (f : FuncId) : Note := (getAt f notes).getD ⟨[], [], []⟩
noncomputable def ann : FuncId → Option Ann := annOf Try.prog tbl
theorem follows : Try.prog.follows .mixedOrders = true := by kernel_rfl
theorem annok : AnnOk Try.prog ann := annOf_ok _ _ (by decide +kernel)
/-- The first place of a byte. -/
def idxB : List UInt8 → UInt8 → Int → Int
  | [], _, _ => -1
  | b :: l, c, i => bif Nat.beq b.toNat c.toNat then i else idxB l c (i + 1)
theorem idxB_eq : ∀ (l : List UInt8) (c : UInt8) (i : Int), idxB l c i = if Lib.indexByte l c = -1 then -1 else Lib.indexByte l c + i
  | [], _, _ => rfl
  | b :: l, c, i => by
    have hb : Nat.beq b.toNat c.toNat = (b == c) := by
      by_cases e : b = c
      · subst e; simp
      · have : ¬ b.toNat = c.toNat := fun z => e (UInt8.toNat_inj.1 z)
        rw [beq_eq_false_iff_ne.2 e]
        exact Bool.eq_false_iff.2 fun z => this (Nat.eq_of_beq_eq_true z)
    have hg := Lib.indexByte_ge l c
    unfold idxB Lib.indexByte
    rw [hb, idxB_eq l c (i + 1)]
    cases hbc : (b == c)
    · simp only [cond_false, Bool.false_eq_true, if_false, beq_iff_eq]
      by_cases h : Lib.indexByte l c = -1
      · simp [h]
      · simp only [h, if_false]
        rw [if_neg (by omega)]; omega
    · simp
/-- Are a line's letters plain ones? -/
def cleanV : List UInt8 → Bool
  | [] => true
  | b :: l => (Nat.ble 32 b.toNat && Nat.ble b.toNat 126 || Nat.beq b.toNat 9 || Nat.beq b.toNat 13) && cleanV l
theorem cleanV_eq : ∀ l : List UInt8, cleanV l = l.all fun c => My.okI (c.toNat : Int)
  | [] => rfl
  | b :: l => by
    rw [List.all_cons, ← cleanV_eq l, cleanV]
    refine congrArg (· && cleanV l) ?_
    unfold My.okI
    rw [Bool.eq_iff_iff]
    have h9 : ∀ m, (Nat.beq b.toNat m = true) = (b.toNat = m) := fun m => propext ⟨Nat.eq_of_beq_eq_true, fun h => by rw [h]; exact Nat.beq_refl m⟩
    simp only [Bool.or_eq_true, Bool.and_eq_true, Nat.ble_eq, h9, decide_eq_true_eq]
    omega
/-- strings.IndexByte, by the kit's contract; lex.clean, by one of our own. -/
def ext : Ext := fun f args => match Nat.beq f 25 with
  | true => (match args with
    | [.str s, .int .u8 c] => some (.int .i64 (idxB s.data.toList c.toNat.toUInt8 0))
    | _ => none)
  | false =>
    match Nat.beq f 17 with
    | true => (match args with
      | [.str s] => some (.bool (cleanV s.data.toList))
      | _ => none)
    | false =>
      none
theorem extok : ExtOk Try.prog ext := by
  intro f args r h
  unfold ext at h
  split at h
  · rename_i hf
    split at h
    · rename_i s c
      have hf := Nat.eq_of_beq_eq_true hf
      subst hf
      simp only [Option.some.injEq] at h
      subst h
      refine ⟨rfl, fun ρ w avs hr => ?_⟩
      match avs, hr with
      | [a, b], ⟨ha, hb, _⟩ =>
        have ha : a = .string s := ha
        have hb : b = .int .u8 c := hb
        subst ha; subst hb
        refine (Try.strings_IndexByte s c w).mono fun e w' z => ⟨_, z.1, ?_, z.2 ▸ Below.refl _ _⟩
        rw [idxB_eq]
        show _ = Value.int .i64 _
        congr 1
        split
        · rename_i h; exact h
        · omega
    · cases h
  · split at h
    · rename_i hf
      split at h
      · rename_i s
        have hf := Nat.eq_of_beq_eq_true hf
        subst hf
        simp only [Option.some.injEq] at h
        subst h
        refine ⟨rfl, fun ρ w avs hr => ?_⟩
        match avs, hr with
        | [a], ⟨ha, _⟩ =>
          have ha : a = .string s := ha
          subst ha
          refine (My.clean_c s w).mono fun e w' z => ⟨_, z.1, ?_, z.2⟩
          rw [cleanV_eq]
          rfl
      · cases h
    · cases h
noncomputable abbrev FF (mk : Mk) (k lo : Nat) (f : FuncId) (args : List Val) (H : List Blk) : Option (Val × List Blk) := F mk Try.prog ann ext k lo f args H
end Go.Proofs.Ytneacfkkijjjlaa.VM
