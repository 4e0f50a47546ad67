/- MemBytes by the plain machine: the law. -/
import Derived.Test.YtfflejhodmcoeaaMK
namespace Go.Proofs.Ytfflejhodmcoeaa.VM
open Go Go.RowKit
set_option linter.unusedVariables false
set_option linter.unusedSimpArgs false
set_option maxRecDepth 100000
set_option maxHeartbeats 3200000
theorem memBytes_w (a0 : Int) (A1 : Option Addr) (len1 c1 : Nat) (els1 : List (List Val)) (a2 : Int) (W : World) (w0 : (Lit.int .u32 a0).wf = true) (hr1 : SlRow W A1 len1 c1 1 els1) (hw1 : ∀ el ∈ els1, rowOk [.int .u8] el) (hc1 : c1 ≤ maxLen) (w2 : (Lit.int .i64 a2).wf = true) :
    Calls Try.prog 4 #[.int .u32 a0, .slice A1 len1 c1, .int .i64 a2] W fun e W' => e = .returned (.bool true) ∧ Below W.heap.size W W' := by
  obtain ⟨body, rfl⟩ := toBytes hw1
  have hr : 0 ≤ a0 ∧ a0 ≤ 4294967295 := by
    simp only [Lit.wf, IntKind.has, Bool.and_eq_true, decide_eq_true_eq] at w0
    exact ⟨w0.1, w0.2⟩
  have hl : body.length = len1 := by have := hr1.1; simpa using this
  subst hl
  obtain ⟨K, hK⟩ : ∃ K, K = 200 := ⟨_, rfl⟩
  cases A1 with
  | none =>
    obtain ⟨_, ⟨_, h1, h2⟩ | ⟨_, _, _, _, _, h, _⟩⟩ := hr1
    · rw [h1, h2]
      obtain ⟨⟨v, H'⟩, he, hv⟩ := memBytes_n Mk.plain K 0 hK rfl a0 a2 hr.1 (by omega) [] rfl [] (by simp)
      replace hv : v = .bool true := hv
      subst hv
      refine law_of (ρ := fun _ => none) (H0 := []) follows annok extok he (fun b c z => by cases z) (fun k c cs z => by cases z) (fun b c z => by cases z) ?_
      exact ⟨rfl, rfl, rfl, trivial⟩
    · cases h
  | some x =>
    have hb : bV body = [] ++ (bV (body.take 50) ++ bV (body.drop 50)) := by rw [List.nil_append, ← bV_append, List.take_append_drop]
    obtain ⟨⟨v, H'⟩, he, hv⟩ := memBytes_sl Mk.plain K 1 hK rfl a0 a2 hr.1 (by omega) (body.take 50) body.length (bV (body.drop 50)) (by rw [List.length_take]; omega) (by rw [List.length_take]; omega) (by rw [List.length_take]; split <;> omega) [⟨bV body, true⟩] (by simp) (by simp) (by rw [← hb]; rfl)
    replace hv : v = .bool true := hv
    subst hv
    have hs1 : ∀ el ∈ body.map (fun b => [Val.int .u8 b.toNat]), el.length = 1 := by
      intro el hel
      simp only [List.mem_map] at hel
      obtain ⟨e, _, rfl⟩ := hel
      rfl
    have hat := fun ρ => slAt (ρ := ρ) hr1 hs1 (cb := ⟨x.block, if c1 = 0 then 0 else x.off, c1 * 1⟩) rfl
    rw [flat_bV] at hat
    let ρ : Ren := fun b => match b with
      | .hp 0 => slBlk 1 (some x) c1
      | _ => none
    have hρ : ∀ b c, ρ b = some c → b = .hp 0 ∧ c = ⟨x.block, if c1 = 0 then 0 else x.off, c1 * 1⟩ := by
      intro b c h
      simp only [ρ] at h
      split at h
      · exact ⟨rfl, (Option.some.inj h).symm⟩
      · cases h
    refine law_of (ρ := ρ) (H0 := [⟨bV body, true⟩]) follows annok extok he (fun b c z => ⟨0, (hρ b c z).1, Nat.zero_lt_one⟩) (fun k c cs z hk => ?_) (fun b c z => by rw [(hρ b c z).2]; exact (hat ρ).1) ?_
    · obtain ⟨h0, rfl⟩ := hρ _ _ z
      cases h0
      obtain rfl : bV body = cs := Option.some.inj hk
      exact ⟨bV_shared body, (hat ρ).2⟩
    · exact ⟨rfl, slRel hr1 rfl, rfl, trivial⟩
end Go.Proofs.Ytfflejhodmcoeaa.VM
