/- The law hansom/hansomlaw11.AddrSegs: for every input the call returns true, and each argument reads behind it as it read before. No condition. -/
import Derived.Test.YtponkdimnafppaaDoorRows
import Derived.Test.YtponkdimnafppaaDoorCards
import Derived.Test.YtponkdimnafppaaDoorTie
import Derived.Test.YtponkdimnafppaaDoorASi
import Derived.LaidMore
import Derived.Stop.Joined
import Derived.SevenTiedAt
import Derived.WalkKit
import Derived.ProofKit
import Derived.OpenShut
import Derived.ShutString
import Derived.ChangeOld
import Derived.Below
import Derived.Carry
import Derived.SliceStrings
import Derived.SizedLaws
namespace Go.Proofs.YtponkdimnafppaaDoor.MyAddrSegs
open Go.ChangeShapes Go.WideShapes Go.ChangeAt Go.RowKit
open Go.ChangeMaps (open_string shut_string)
set_option linter.unusedVariables false
set_option linter.unusedSimpArgs false
theorem own : ownKnob Tryd.prog.godebug = none := by kernel_rfl
theorem trodLt {H : Type} {enc : TypeId × Value → H} {P : Program} {W : World} {base : Nat} {spare : Nat → Bool} {held : Bool} {t : TypeId} {v : Value} {d : DataW H} {ps : List MemPlace} (h : DataW.Trod enc P W base spare held t v d ps) : ∀ x ∈ ps, x.block < W.heap.size := by
  obtain ⟨n, hf⟩ := h
  exact DataW.trod_lt n t _ _ hf
theorem cell_int {P : Program} {w : World} {r : Reach} {b : Nat} {u : TypeId} {k : IntKind} {v : Value} (hu : P.underlying u = some (.int k)) (h : Cell.okWide P w r b u v) : ∃ n, v = .int k n ∧ (Lit.int k n).wf = true := by
  simp only [Cell.okWide, hu] at h
  cases v <;> simp_all [Cell.ok, IntKind.has, Lit.wf]
theorem cell_bool {P : Program} {w : World} {r : Reach} {b : Nat} {u : TypeId} {v : Value} (hu : P.underlying u = some .bool) (h : Cell.okWide P w r b u v) : ∃ x, v = .bool x := by
  simp only [Cell.okWide, hu] at h
  cases v <;> simp_all [Cell.ok]
theorem cell_string {P : Program} {w : World} {r : Reach} {b : Nat} {u : TypeId} {v : Value} (hu : P.underlying u = some .string) (h : Cell.okWide P w r b u v) : ∃ s, v = .string s ∧ (s.size : Int) ≤ IntKind.i64.max := by
  simp only [Cell.okWide, hu] at h
  cases v <;> simp_all [Cell.ok]
theorem laidOut : laidOutB Tryd.prog = true := by kernel_rfl
theorem rr28 : Tryd.prog.readableRec 28 = true := by kernel_rfl
theorem rw28 : 28 < Tryd.prog.types.size := of_decide_eq_true (by kernel_rfl)
theorem ct0 : Tryd.prog.cellTypes Tryd.prog.depth 28 = some [22, 4, 22, 4, 22, 4, 22, 4, 22, 4, 22, 4, 22, 4, 22, 4, 22, 4, 22, 4, 22, 4, 22, 4, 22, 22] := by kernel_rfl
theorem cn0 : Tryd.prog.cellsOf 28 = 26 := by kernel_rfl
set_option maxRecDepth 100000 in
theorem openA0 {w : World} {r : Reach} {b0 : Nat} {v : Value} (hv : Value.okWide Tryd.prog w r b0 28 v) : ∃ (a0_0 : Int) (a0_1 : Bool) (a0_2 : Int) (a0_3 : Bool) (a0_4 : Int) (a0_5 : Bool) (a0_6 : Int) (a0_7 : Bool) (a0_8 : Int) (a0_9 : Bool) (a0_10 : Int) (a0_11 : Bool) (a0_12 : Int) (a0_13 : Bool) (a0_14 : Int) (a0_15 : Bool) (a0_16 : Int) (a0_17 : Bool) (a0_18 : Int) (a0_19 : Bool) (a0_20 : Int) (a0_21 : Bool) (a0_22 : Int) (a0_23 : Bool) (a0_24 : Int) (a0_25 : Int), v = .agg #[.int .u16 a0_0, .bool a0_1, .int .u16 a0_2, .bool a0_3, .int .u16 a0_4, .bool a0_5, .int .u16 a0_6, .bool a0_7, .int .u16 a0_8, .bool a0_9, .int .u16 a0_10, .bool a0_11, .int .u16 a0_12, .bool a0_13, .int .u16 a0_14, .bool a0_15, .int .u16 a0_16, .bool a0_17, .int .u16 a0_18, .bool a0_19, .int .u16 a0_20, .bool a0_21, .int .u16 a0_22, .bool a0_23, .int .u16 a0_24, .int .u16 a0_25] ∧ (Lit.int .u16 a0_0).wf = true ∧ (Lit.int .u16 a0_2).wf = true ∧ (Lit.int .u16 a0_4).wf = true ∧ (Lit.int .u16 a0_6).wf = true ∧ (Lit.int .u16 a0_8).wf = true ∧ (Lit.int .u16 a0_10).wf = true ∧ (Lit.int .u16 a0_12).wf = true ∧ (Lit.int .u16 a0_14).wf = true ∧ (Lit.int .u16 a0_16).wf = true ∧ (Lit.int .u16 a0_18).wf = true ∧ (Lit.int .u16 a0_20).wf = true ∧ (Lit.int .u16 a0_22).wf = true ∧ (Lit.int .u16 a0_24).wf = true ∧ (Lit.int .u16 a0_25).wf = true := by
  obtain ⟨cs, rfl, hsz, hrow⟩ : ∃ cs, v = .agg cs ∧ cs.size = Tryd.prog.cellsOf 28 ∧ Row.okWide Tryd.prog w r b0 28 cs := by
    unfold Value.okWide at hv; rw [Tryd.underlying28] at hv; exact hv
  obtain ⟨ts, hts, _, hc⟩ := hrow
  rw [ct0] at hts
  obtain rfl := Option.some.inj hts.symm
  rw [cn0] at hsz
  obtain ⟨l⟩ := cs
  match l, hsz, hc with
  | [c0, c1, c2, c3, c4, c5, c6, c7, c8, c9, c10, c11, c12, c13, c14, c15, c16, c17, c18, c19, c20, c21, c22, c23, c24, c25], _, hc =>
    obtain ⟨u0, hu0, hk0⟩ := hc 0 c0 rfl
    obtain rfl : 22 = u0 := Option.some.inj hu0
    obtain ⟨a0_0, rfl, w0_0⟩ := cell_int Tryd.underlying22 hk0
    obtain ⟨u1, hu1, hk1⟩ := hc 1 c1 rfl
    obtain rfl : 4 = u1 := Option.some.inj hu1
    obtain ⟨a0_1, rfl⟩ := cell_bool Tryd.underlying4 hk1
    obtain ⟨u2, hu2, hk2⟩ := hc 2 c2 rfl
    obtain rfl : 22 = u2 := Option.some.inj hu2
    obtain ⟨a0_2, rfl, w0_2⟩ := cell_int Tryd.underlying22 hk2
    obtain ⟨u3, hu3, hk3⟩ := hc 3 c3 rfl
    obtain rfl : 4 = u3 := Option.some.inj hu3
    obtain ⟨a0_3, rfl⟩ := cell_bool Tryd.underlying4 hk3
    obtain ⟨u4, hu4, hk4⟩ := hc 4 c4 rfl
    obtain rfl : 22 = u4 := Option.some.inj hu4
    obtain ⟨a0_4, rfl, w0_4⟩ := cell_int Tryd.underlying22 hk4
    obtain ⟨u5, hu5, hk5⟩ := hc 5 c5 rfl
    obtain rfl : 4 = u5 := Option.some.inj hu5
    obtain ⟨a0_5, rfl⟩ := cell_bool Tryd.underlying4 hk5
    obtain ⟨u6, hu6, hk6⟩ := hc 6 c6 rfl
    obtain rfl : 22 = u6 := Option.some.inj hu6
    obtain ⟨a0_6, rfl, w0_6⟩ := cell_int Tryd.underlying22 hk6
    obtain ⟨u7, hu7, hk7⟩ := hc 7 c7 rfl
    obtain rfl : 4 = u7 := Option.some.inj hu7
    obtain ⟨a0_7, rfl⟩ := cell_bool Tryd.underlying4 hk7
    obtain ⟨u8, hu8, hk8⟩ := hc 8 c8 rfl
    obtain rfl : 22 = u8 := Option.some.inj hu8
    obtain ⟨a0_8, rfl, w0_8⟩ := cell_int Tryd.underlying22 hk8
    obtain ⟨u9, hu9, hk9⟩ := hc 9 c9 rfl
    obtain rfl : 4 = u9 := Option.some.inj hu9
    obtain ⟨a0_9, rfl⟩ := cell_bool Tryd.underlying4 hk9
    obtain ⟨u10, hu10, hk10⟩ := hc 10 c10 rfl
    obtain rfl : 22 = u10 := Option.some.inj hu10
    obtain ⟨a0_10, rfl, w0_10⟩ := cell_int Tryd.underlying22 hk10
    obtain ⟨u11, hu11, hk11⟩ := hc 11 c11 rfl
    obtain rfl : 4 = u11 := Option.some.inj hu11
    obtain ⟨a0_11, rfl⟩ := cell_bool Tryd.underlying4 hk11
    obtain ⟨u12, hu12, hk12⟩ := hc 12 c12 rfl
    obtain rfl : 22 = u12 := Option.some.inj hu12
    obtain ⟨a0_12, rfl, w0_12⟩ := cell_int Tryd.underlying22 hk12
    obtain ⟨u13, hu13, hk13⟩ := hc 13 c13 rfl
    obtain rfl : 4 = u13 := Option.some.inj hu13
    obtain ⟨a0_13, rfl⟩ := cell_bool Tryd.underlying4 hk13
    obtain ⟨u14, hu14, hk14⟩ := hc 14 c14 rfl
    obtain rfl : 22 = u14 := Option.some.inj hu14
    obtain ⟨a0_14, rfl, w0_14⟩ := cell_int Tryd.underlying22 hk14
    obtain ⟨u15, hu15, hk15⟩ := hc 15 c15 rfl
    obtain rfl : 4 = u15 := Option.some.inj hu15
    obtain ⟨a0_15, rfl⟩ := cell_bool Tryd.underlying4 hk15
    obtain ⟨u16, hu16, hk16⟩ := hc 16 c16 rfl
    obtain rfl : 22 = u16 := Option.some.inj hu16
    obtain ⟨a0_16, rfl, w0_16⟩ := cell_int Tryd.underlying22 hk16
    obtain ⟨u17, hu17, hk17⟩ := hc 17 c17 rfl
    obtain rfl : 4 = u17 := Option.some.inj hu17
    obtain ⟨a0_17, rfl⟩ := cell_bool Tryd.underlying4 hk17
    obtain ⟨u18, hu18, hk18⟩ := hc 18 c18 rfl
    obtain rfl : 22 = u18 := Option.some.inj hu18
    obtain ⟨a0_18, rfl, w0_18⟩ := cell_int Tryd.underlying22 hk18
    obtain ⟨u19, hu19, hk19⟩ := hc 19 c19 rfl
    obtain rfl : 4 = u19 := Option.some.inj hu19
    obtain ⟨a0_19, rfl⟩ := cell_bool Tryd.underlying4 hk19
    obtain ⟨u20, hu20, hk20⟩ := hc 20 c20 rfl
    obtain rfl : 22 = u20 := Option.some.inj hu20
    obtain ⟨a0_20, rfl, w0_20⟩ := cell_int Tryd.underlying22 hk20
    obtain ⟨u21, hu21, hk21⟩ := hc 21 c21 rfl
    obtain rfl : 4 = u21 := Option.some.inj hu21
    obtain ⟨a0_21, rfl⟩ := cell_bool Tryd.underlying4 hk21
    obtain ⟨u22, hu22, hk22⟩ := hc 22 c22 rfl
    obtain rfl : 22 = u22 := Option.some.inj hu22
    obtain ⟨a0_22, rfl, w0_22⟩ := cell_int Tryd.underlying22 hk22
    obtain ⟨u23, hu23, hk23⟩ := hc 23 c23 rfl
    obtain rfl : 4 = u23 := Option.some.inj hu23
    obtain ⟨a0_23, rfl⟩ := cell_bool Tryd.underlying4 hk23
    obtain ⟨u24, hu24, hk24⟩ := hc 24 c24 rfl
    obtain rfl : 22 = u24 := Option.some.inj hu24
    obtain ⟨a0_24, rfl, w0_24⟩ := cell_int Tryd.underlying22 hk24
    obtain ⟨u25, hu25, hk25⟩ := hc 25 c25 rfl
    obtain rfl : 22 = u25 := Option.some.inj hu25
    obtain ⟨a0_25, rfl, w0_25⟩ := cell_int Tryd.underlying22 hk25
    exact ⟨a0_0, a0_1, a0_2, a0_3, a0_4, a0_5, a0_6, a0_7, a0_8, a0_9, a0_10, a0_11, a0_12, a0_13, a0_14, a0_15, a0_16, a0_17, a0_18, a0_19, a0_20, a0_21, a0_22, a0_23, a0_24, a0_25, rfl, w0_0, w0_2, w0_4, w0_6, w0_8, w0_10, w0_12, w0_14, w0_16, w0_18, w0_20, w0_22, w0_24, w0_25⟩
theorem rr30 : Tryd.prog.readableRec 30 = true := by kernel_rfl
theorem rw30 : 30 < Tryd.prog.types.size := of_decide_eq_true (by kernel_rfl)
theorem ct1 : Tryd.prog.cellTypes Tryd.prog.depth 30 = some [4, 3, 3, 5, 3, 3, 3, 22, 22, 22] := by kernel_rfl
theorem cn1 : Tryd.prog.cellsOf 30 = 10 := by kernel_rfl
set_option maxRecDepth 100000 in
theorem openA1 {w : World} {r : Reach} {b0 : Nat} {v : Value} (hv : Value.okWide Tryd.prog w r b0 30 v) : ∃ (a1_0 : Bool) (a1_1 : Int) (a1_2 : Int) (a1_3 : Int) (a1_4 : Int) (a1_5 : Int) (a1_6 : Int) (a1_7 : Int) (a1_8 : Int) (a1_9 : Int), v = .agg #[.bool a1_0, .int .i64 a1_1, .int .i64 a1_2, .int .u8 a1_3, .int .i64 a1_4, .int .i64 a1_5, .int .i64 a1_6, .int .u16 a1_7, .int .u16 a1_8, .int .u16 a1_9] ∧ (Lit.int .i64 a1_1).wf = true ∧ (Lit.int .i64 a1_2).wf = true ∧ (Lit.int .u8 a1_3).wf = true ∧ (Lit.int .i64 a1_4).wf = true ∧ (Lit.int .i64 a1_5).wf = true ∧ (Lit.int .i64 a1_6).wf = true ∧ (Lit.int .u16 a1_7).wf = true ∧ (Lit.int .u16 a1_8).wf = true ∧ (Lit.int .u16 a1_9).wf = true := by
  obtain ⟨cs, rfl, hsz, hrow⟩ : ∃ cs, v = .agg cs ∧ cs.size = Tryd.prog.cellsOf 30 ∧ Row.okWide Tryd.prog w r b0 30 cs := by
    unfold Value.okWide at hv; rw [Tryd.underlying30] at hv; exact hv
  obtain ⟨ts, hts, _, hc⟩ := hrow
  rw [ct1] at hts
  obtain rfl := Option.some.inj hts.symm
  rw [cn1] at hsz
  obtain ⟨l⟩ := cs
  match l, hsz, hc with
  | [c0, c1, c2, c3, c4, c5, c6, c7, c8, c9], _, hc =>
    obtain ⟨u0, hu0, hk0⟩ := hc 0 c0 rfl
    obtain rfl : 4 = u0 := Option.some.inj hu0
    obtain ⟨a1_0, rfl⟩ := cell_bool Tryd.underlying4 hk0
    obtain ⟨u1, hu1, hk1⟩ := hc 1 c1 rfl
    obtain rfl : 3 = u1 := Option.some.inj hu1
    obtain ⟨a1_1, rfl, w1_1⟩ := cell_int Tryd.underlying3 hk1
    obtain ⟨u2, hu2, hk2⟩ := hc 2 c2 rfl
    obtain rfl : 3 = u2 := Option.some.inj hu2
    obtain ⟨a1_2, rfl, w1_2⟩ := cell_int Tryd.underlying3 hk2
    obtain ⟨u3, hu3, hk3⟩ := hc 3 c3 rfl
    obtain rfl : 5 = u3 := Option.some.inj hu3
    obtain ⟨a1_3, rfl, w1_3⟩ := cell_int Tryd.underlying5 hk3
    obtain ⟨u4, hu4, hk4⟩ := hc 4 c4 rfl
    obtain rfl : 3 = u4 := Option.some.inj hu4
    obtain ⟨a1_4, rfl, w1_4⟩ := cell_int Tryd.underlying3 hk4
    obtain ⟨u5, hu5, hk5⟩ := hc 5 c5 rfl
    obtain rfl : 3 = u5 := Option.some.inj hu5
    obtain ⟨a1_5, rfl, w1_5⟩ := cell_int Tryd.underlying3 hk5
    obtain ⟨u6, hu6, hk6⟩ := hc 6 c6 rfl
    obtain rfl : 3 = u6 := Option.some.inj hu6
    obtain ⟨a1_6, rfl, w1_6⟩ := cell_int Tryd.underlying3 hk6
    obtain ⟨u7, hu7, hk7⟩ := hc 7 c7 rfl
    obtain rfl : 22 = u7 := Option.some.inj hu7
    obtain ⟨a1_7, rfl, w1_7⟩ := cell_int Tryd.underlying22 hk7
    obtain ⟨u8, hu8, hk8⟩ := hc 8 c8 rfl
    obtain rfl : 22 = u8 := Option.some.inj hu8
    obtain ⟨a1_8, rfl, w1_8⟩ := cell_int Tryd.underlying22 hk8
    obtain ⟨u9, hu9, hk9⟩ := hc 9 c9 rfl
    obtain rfl : 22 = u9 := Option.some.inj hu9
    obtain ⟨a1_9, rfl, w1_9⟩ := cell_int Tryd.underlying22 hk9
    exact ⟨a1_0, a1_1, a1_2, a1_3, a1_4, a1_5, a1_6, a1_7, a1_8, a1_9, rfl, w1_1, w1_2, w1_3, w1_4, w1_5, w1_6, w1_7, w1_8, w1_9⟩
theorem door_met (os : Os) (args : Array Value) : laidMetH Tryd.prog [("hansom/addr.bases", Rows.laid_hansom_addr_bases)] ((World.doorLaid Tryd.prog 400 os).forCall (fun _ _ => 0) ⟨#[], args, []⟩).memory :=
  laidMetH_of_parts3 (fuel := 8) (laidMet_of_run' 8 (by kernel_rfl) (by kernel_rfl)) (by kernel_rfl) (by kernel_rfl)
set_option maxHeartbeats 3200000 in
set_option maxRecDepth 100000 in
theorem lifted (os : Os) (started : os.Started) (H : Type) (enc : TypeId × Value → H) :
    ReturnsInHanded {} Tryd.checked os 4 .any (fun w args => (Rows.addrSegsSpec.pre enc Tryd.prog Tryd.f4 [] false w args ∧ laidMetH Tryd.prog [("hansom/addr.bases", Rows.laid_hansom_addr_bases)] w) ∧ sizedMet enc Tryd.prog Tryd.f4 (OpenSpec.ofChange Rows.addrSegsSpec) false w args)
      (Rows.addrSegsSpec.post enc Tryd.prog Tryd.f4 false true false false) := by
  refine returnsInHanded_of_change_and (C := Tryd.checked) (X := fun w _ => laidMetH Tryd.prog [("hansom/addr.bases", Rows.laid_hansom_addr_bases)] w) (fun _ _ _ hh h => h.of_heap hh) own started (by kernel_rfl) Tryd.func4
    (ChangeSpec.witness_shaped (enc := enc) (C := Tryd.checked) (os := os) (X := fun w _ => laidMetH Tryd.prog [("hansom/addr.bases", Rows.laid_hansom_addr_bases)] w) false (World.doorLaid Tryd.prog 400 os) #[.agg #[.int .u16 0, .bool false, .int .u16 0, .bool false, .int .u16 0, .bool false, .int .u16 0, .bool false, .int .u16 0, .bool false, .int .u16 0, .bool false, .int .u16 0, .bool false, .int .u16 0, .bool false, .int .u16 0, .bool false, .int .u16 0, .bool false, .int .u16 0, .bool false, .int .u16 0, .bool false, .int .u16 0, .int .u16 0], .agg #[.bool false, .int .i64 0, .int .i64 0, .int .u8 0, .int .i64 0, .int .i64 0, .int .i64 0, .int .u16 0, .int .u16 0, .int .u16 0]] 8 rfl (World.shaped_of_RefB (by kernel_rfl) (by kernel_rfl)) (by kernel_rfl) (by kernel_rfl) (by kernel_rfl) (door_met os _)) ?_
  intro W base args ds gs before hval0 hW hcnd _ hL _
  have hval : ∀ (j : Nat) t v, Tryd.f4.params[j]? = some t → args[j]? = some v → Value.okWide Tryd.prog W .any base t v := hval0
  have hW' := hW
  obtain ⟨p, q, hA0, hV, rfl, hfz, hnd⟩ := hW
  have hA : DataW.TrodAll enc Tryd.prog W 0 (fun _ => true) true Tryd.f4.params.toList args.toList ds p := hA0
  rw [Tryd.params4] at hA hval
  obtain ⟨v0, vs0, d0, ds0, p0, q0, hargs, rfl, rfl, h0, r0⟩ := trodAll_cons hA
  obtain ⟨v1, vs1, d1, ds1, p1, q1, rfl, rfl, rfl, h1, r1⟩ := trodAll_cons r0
  obtain ⟨rfl, rfl, rfl⟩ := trodAll_nil r1
  obtain rfl : args = #[v0, v1] := by cases args; simp_all
  obtain ⟨rfl, rfl⟩ := trodVars_none hV
  obtain ⟨a0_0, a0_1, a0_2, a0_3, a0_4, a0_5, a0_6, a0_7, a0_8, a0_9, a0_10, a0_11, a0_12, a0_13, a0_14, a0_15, a0_16, a0_17, a0_18, a0_19, a0_20, a0_21, a0_22, a0_23, a0_24, a0_25, rfl, w0_0, w0_2, w0_4, w0_6, w0_8, w0_10, w0_12, w0_14, w0_16, w0_18, w0_20, w0_22, w0_24, w0_25⟩ := openA0 (hval 0 28 v0 rfl rfl)
  obtain ⟨a1_0, a1_1, a1_2, a1_3, a1_4, a1_5, a1_6, a1_7, a1_8, a1_9, rfl, w1_1, w1_2, w1_3, w1_4, w1_5, w1_6, w1_7, w1_8, w1_9⟩ := openA1 (hval 1 30 v1 rfl rfl)
  clear hA0 hval0
  refine (Go.Proofs.YtponkdimnafppaaDoor.VM.addrSegs_w a0_0 a0_1 a0_2 a0_3 a0_4 a0_5 a0_6 a0_7 a0_8 a0_9 a0_10 a0_11 a0_12 a0_13 a0_14 a0_15 a0_16 a0_17 a0_18 a0_19 a0_20 a0_21 a0_22 a0_23 a0_24 a0_25 a1_0 a1_1 a1_2 a1_3 a1_4 a1_5 a1_6 a1_7 a1_8 a1_9 W w0_0 w0_2 w0_4 w0_6 w0_8 w0_10 w0_12 w0_14 w0_16 w0_18 w0_20 w0_22 w0_24 w0_25 w1_1 w1_2 w1_3 w1_4 w1_5 w1_6 w1_7 w1_8 w1_9 (VM.bases_in hL)).mono fun e W' ⟨he, bel⟩ => ?_
  subst he
  exact ⟨_, rfl, _, _, _, [], _, [], hW', trodAll_mk1 (shut_bool Tryd.underlying4 _), (trodAll_cons_mk (Below.trod laidOut rr28 rw28 h0 bel (trodLt h0)) (trodAll_cons_mk (Below.trod laidOut rr30 rw30 h1 bel (trodLt h1)) trodAll_mk0)), rfl, bel.frame _, fun h => by cases h⟩
theorem row_proved : Rows.AddrSegsSaid :=
  OpenClaim.holds_of_wide 4 Tryd.f4 rfl rfl rfl rfl rfl rfl rfl ⟨rfl, rfl, rfl, rfl, rfl⟩ rfl rfl rfl rfl rfl (by kernel_rfl) Tryd.func4 (by kernel_rfl)
    (of_decide_eq_true (by kernel_rfl)) (by unfold Func.isWrapper; first | (rw [if_pos (by decide +kernel)]; kernel_rfl) | (rw [if_neg (by decide +kernel)]; exact ⟨rfl, rfl⟩))
    (fun os started H enc _ => lifted os started H enc)
theorem proved : Rows.AddrSegsCardSaid :=
  Claim7.holds_tied_plain_at .later [] [.data] true (true, "1a147ad85db366df8d2edd6b870d26fecd8e5f79befd6b2c6e6a1f72bbbb198b") false
    row_proved (fun _ h => by cases h) (by kernel_rfl) (fun _ h => by cases h) addrSegs_row_tie rfl ⟨rfl, rfl⟩ (by kernel_rfl) rfl
    (fun f fn hf hfn => by
      obtain rfl : f = 4 := Option.some.inj ((show Tryd.prog.funcNamed "hansom/hansomlaw11.AddrSegs" = some 4 by kernel_rfl).symm.trans hf) |>.symm
      obtain rfl : fn = Tryd.f4 := (Option.some.inj (Tryd.func4.symm.trans hfn)).symm
      exact ⟨by kernel_rfl, fun j t ht => by
        rw [Tryd.params4] at ht
        have hm : t ∈ [28, 30] := by simpa using Array.mem_of_getElem? ht
        have hall : ([28, 30].all fun u => !Tryd.prog.wantsStandIn u) = true := by kernel_rfl
        exact (show Tryd.prog.wantsStandIn t = false by simpa using List.all_eq_true.1 hall t hm)⟩)
    (by kernel_rfl)
end Go.Proofs.YtponkdimnafppaaDoor.MyAddrSegs
namespace Go.Proofs.YtponkdimnafppaaDoor
/-- The law, under a short name. -/
theorem addrSegs_holds : Rows.AddrSegsCardSaid := MyAddrSegs.proved
#print axioms addrSegs_holds
end Go.Proofs.YtponkdimnafppaaDoor
