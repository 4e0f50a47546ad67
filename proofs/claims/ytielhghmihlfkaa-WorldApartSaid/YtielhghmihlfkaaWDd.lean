/- WorldApart by the plain machine: the law. -/
import Derived.Test.YtielhghmihlfkaaWDc
namespace Go.Proofs.Ytielhghmihlfkaa.VM
open Go Go.RowKit
set_option linter.unusedVariables false
set_option linter.unusedSimpArgs false
set_option maxRecDepth 100000
set_option maxHeartbeats 3200000
def isTrue (o : Option (Val × List Blk)) : Bool := match o with
  | some (.bool b, _) => b
  | _ => false
theorem ends_true {o : Option (Val × List Blk)} (h : isTrue o = true) : Ends o (fun r => r.1 = .bool true) := by
  unfold isTrue at h
  split at h
  · subst h; exact ⟨_, rfl, rfl⟩
  · cases h
theorem worldApart_n (a : Int) (e : Ev) : Ends (FF Mk.plain 100 0 7 [.nils, .int .i64 a, .agg (evV e)] []) (fun r => r.1 = .bool true) := by
  conv => enter [1]; whnf
  have h0 : ∀ x : Int, x.tmod (IntKind.i64.wrap (0 + 1)) = 0 := fun x => Int.tmod_one x
  rw [h0]
  exact ends_true (by kernel_rfl)
theorem toEv {el : List Val} (h : rowOk [.int .i64, .int .u16, .int .u16, .int .u16, .int .u16, .int .u16, .int .u16] el) : ∃ e : Ev, el = evV e := by
  match el, h with
  | [.int .i64 a0, .int .u16 a1, .int .u16 a2, .int .u16 a3, .int .u16 a4, .int .u16 a5, .int .u16 a6], _ => exact ⟨⟨a0, a1, a2, a3, a4, a5, a6⟩, rfl⟩
theorem toEvs : ∀ {els : List (List Val)} (h : ∀ el ∈ els, rowOk [.int .i64, .int .u16, .int .u16, .int .u16, .int .u16, .int .u16, .int .u16] el), ∃ l : List Ev, els = l.map evV
  | [], _ => ⟨[], rfl⟩
  | el :: els, h => by
    obtain ⟨e, rfl⟩ := toEv (h el (by simp))
    obtain ⟨l, rfl⟩ := toEvs (els := els) fun x hx => h x (by simp [hx])
    exact ⟨e :: l, rfl⟩
theorem worldApart_w (A0 : Option Addr) (len0 c0 : Nat) (els0 : List (List Val)) (a1 a2_0 a2_1 a2_2 a2_3 a2_4 a2_5 a2_6 : Int) (W : World) (hr0 : SlRow W A0 len0 c0 7 els0) (hw0 : ∀ el ∈ els0, rowOk [.int .i64, .int .u16, .int .u16, .int .u16, .int .u16, .int .u16, .int .u16] el) (hc0 : c0 ≤ maxLen) (w1 : (Lit.int .i64 a1).wf = true) (w2_0 : (Lit.int .i64 a2_0).wf = true) (w2_1 : (Lit.int .u16 a2_1).wf = true) (w2_2 : (Lit.int .u16 a2_2).wf = true) (w2_3 : (Lit.int .u16 a2_3).wf = true) (w2_4 : (Lit.int .u16 a2_4).wf = true) (w2_5 : (Lit.int .u16 a2_5).wf = true) (w2_6 : (Lit.int .u16 a2_6).wf = true) :
    Calls Try.prog 7 #[.slice A0 len0 c0, .int .i64 a1, .agg #[.int .i64 a2_0, .int .u16 a2_1, .int .u16 a2_2, .int .u16 a2_3, .int .u16 a2_4, .int .u16 a2_5, .int .u16 a2_6]] W fun e W' => e = .returned (.bool true) ∧ Below W.heap.size W W' := by
  obtain ⟨l, rfl⟩ := toEvs hw0
  have hl : l.length = len0 := by have := hr0.1; simpa using this
  subst hl
  have hev : ∀ ρ : Ren, rels (cellRel ρ) (evV ⟨a2_0, a2_1, a2_2, a2_3, a2_4, a2_5, a2_6⟩) [.int .i64 a2_0, .int .u16 a2_1, .int .u16 a2_2, .int .u16 a2_3, .int .u16 a2_4, .int .u16 a2_5, .int .u16 a2_6] := fun ρ => ⟨rfl, rfl, rfl, rfl, rfl, rfl, rfl, trivial⟩
  cases A0 with
  | none =>
    obtain ⟨_, ⟨_, h1, h2⟩ | ⟨_, _, _, _, _, h, _⟩⟩ := hr0
    · rw [h1, h2]
      obtain ⟨⟨v, H'⟩, he, hv⟩ := worldApart_n a1 ⟨a2_0, a2_1, a2_2, a2_3, a2_4, a2_5, a2_6⟩
      replace hv : v = .bool true := hv
      subst hv
      refine law_of (ρ := fun _ => none) (H0 := []) follows annok extok he (fun b c z => by cases z) (fun k c cs z => by cases z) (fun b c z => by cases z) ?_
      exact ⟨rfl, rfl, ⟨_, rfl, hev _⟩, trivial⟩
    · cases h
  | some x =>
    obtain ⟨⟨v, H'⟩, he, hv⟩ := worldApart_e Mk.plain l a1 ⟨a2_0, a2_1, a2_2, a2_3, a2_4, a2_5, a2_6⟩
    replace hv : v = .bool true := hv
    subst hv
    have hs7 : ∀ el ∈ l.map evV, el.length = 7 := by
      intro el hel
      simp only [List.mem_map] at hel
      obtain ⟨e, _, rfl⟩ := hel
      rfl
    have hat := fun ρ => slAt (ρ := ρ) hr0 hs7 (cb := ⟨x.block, if c0 = 0 then 0 else x.off, c0 * 7⟩) rfl
    let ρ : Ren := fun b => match b with
      | .hp 0 => slBlk 7 (some x) c0
      | _ => none
    have hρ : ∀ b c, ρ b = some c → b = .hp 0 ∧ c = ⟨x.block, if c0 = 0 then 0 else x.off, c0 * 7⟩ := by
      intro b c h
      simp only [ρ] at h
      split at h
      · exact ⟨rfl, (Option.some.inj h).symm⟩
      · cases h
    refine law_of (ρ := ρ) (H0 := [⟨evsV l, true⟩]) follows annok extok he (fun b c z => ⟨0, (hρ b c z).1, Nat.zero_lt_one⟩) (fun k c cs z hk => ?_) (fun b c z => by rw [(hρ b c z).2]; exact (hat ρ).1) ?_
    · obtain ⟨h0, rfl⟩ := hρ _ _ z
      cases h0
      obtain rfl : evsV l = cs := Option.some.inj hk
      exact ⟨evs_shared l, (hat ρ).2⟩
    · exact ⟨slRel hr0 rfl, rfl, ⟨_, rfl, hev _⟩, trivial⟩
end Go.Proofs.Ytielhghmihlfkaa.VM
