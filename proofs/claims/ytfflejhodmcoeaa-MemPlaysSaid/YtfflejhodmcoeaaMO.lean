/- MemPlays by the plain machine: the law. -/
import Derived.Test.YtfflejhodmcoeaaMN
namespace Go.Proofs.Ytfflejhodmcoeaa.VM
open Go Go.RowKit
set_option linter.unusedVariables false
set_option linter.unusedSimpArgs false
set_option maxRecDepth 100000
set_option maxHeartbeats 3200000
theorem memPlays_n (mk : Mk) (K lo : Nat) (hK : K = 400) (H : List Blk) (hlo : lo ≤ H.length) : Ends (FF mk (K + 1) lo 3 [.nils] H) (fun r => r.1 = .bool true) := by
  obtain ⟨N, hN⟩ : ∃ N, N = 1048576 := ⟨_, rfl⟩
  conv => enter [1]; whnf
  refine Ends.callE (mnew_E mk K lo (by omega) hN H) (fun v H1 hv => ?_)
  obtain ⟨hv, g1, l1, h1⟩ := hv
  replace hv : v = .ptr (.hp (H.length + 2)) 0 := hv
  subst hv
  replace l1 : H1.length = H.length + 3 := l1
  conv => enter [1]; whnf
  refine Ends.loop (fun m T M => 0 < m ∧ T = [.nils, .undef, .undef, .ptr (.hp (H.length + 2)) 0, .sl (.hp H1.length) 0 0 3, .int .i64 0, .undef, .undef, .undef, .undef, .undef, .undef, .undef, .undef, .undef, .undef, .undef, .undef, .undef, .undef, .undef, .undef, .undef, .undef, .undef, .undef, .undef, .undef, .undef, .undef, .undef, .undef, .undef, .undef, .undef, .undef, .undef, .undef, .undef, .undef, .undef, .undef, .undef, .undef, .undef, .undef, .undef, .undef, .undef, .undef, .undef, .undef, .undef, .undef, .undef, .undef, .undef, .undef, .undef, .undef, .undef, .undef, .undef, .undef, .undef, .undef, .undef, .undef, .undef, .undef, .undef, .undef, .undef, .undef, .undef, .undef, .undef, .undef, .undef, .undef, .undef, .undef, .undef, .undef, .undef, .undef, .undef, .undef, .undef, .undef, .undef, .undef, .undef, .undef, .undef, .undef, .undef, .undef, .undef, .undef, .undef, .undef, .undef, .undef, .undef, .undef, .undef, .undef, .undef, .undef, .undef, .undef, .undef, .undef, .undef, .undef, .undef, .undef, .undef, .undef, .undef, .undef, .undef, .undef, .undef, .undef, .undef, .undef, .undef, .undef, .undef, .undef, .undef, .undef, .undef, .undef, .undef, .undef, .undef, .undef, .undef, .undef, .undef, .undef, .undef, .undef, .undef, .undef, .undef, .undef, .undef, .undef, .undef, .undef, .undef, .undef, .undef, .undef, .undef, .undef, .undef, .undef, .undef, .undef, .undef, .undef, .undef, .undef, .undef, .undef, .undef, .undef, .undef, .undef, .undef, .undef, .undef, .undef, .undef, .undef, .undef, .undef, .undef, .undef, .undef, .undef, .undef, .undef, .undef, .undef, .undef, .undef, .undef, .undef, .undef, .undef, .undef, .undef, .undef, .undef, .undef, .undef, .undef, .undef, .undef, .undef, .undef, .undef, .undef, .undef, .undef, .undef, .undef, .undef, .undef, .undef, .undef, .undef, .undef, .undef, .undef, .undef, .undef, .undef, .undef, .undef, .undef, .undef, .undef] ∧ M = ⟨[], H1 ++ [⟨[], true⟩]⟩) (fun T M ⟨h, _⟩ => by omega) ?_ _ _ ⟨by omega, rfl, rfl⟩
  rintro m T M L ⟨_, rfl, rfl⟩ hL
  conv => enter [1]; whnf
  refine Ends.callE (awake02_F mk K lo (by omega) _ (by rw [List.length_append]; omega)) (fun v H4 hv => ?_)
  obtain ⟨hv, g4⟩ := hv
  replace hv : v = .bool true := hv
  subst hv
  conv => enter [1]; whnf
  exact Ends.some' rfl
theorem u16_wf {n : Int} (h : (Lit.int .u16 n).wf = true) : U16 n := by
  simp only [Lit.wf, IntKind.has, Bool.and_eq_true, decide_eq_true_eq] at h
  obtain ⟨h1, h2⟩ := h
  have h3 : n ≤ 65535 := h2
  have h4 : 0 ≤ n := h1
  unfold U16; omega
theorem toAct {el : List Val} (h : rowOk [.int .i64, .int .u16, .int .u16, .int .u16, .bool] el) : ∃ a : ActV, el = actV a ∧ U16 a.sg ∧ U16 a.o ∧ U16 a.v := by
  match el, h with
  | [.int k0 a0, .int k1 a1, .int k2 a2, .int k3 a3, .bool a4], h =>
    obtain ⟨⟨rfl, w0⟩, ⟨rfl, w1⟩, ⟨rfl, w2⟩, ⟨rfl, w3⟩, _⟩ := h
    exact ⟨⟨a0, a1, a2, a3, a4⟩, rfl, u16_wf w1, u16_wf w2, u16_wf w3⟩
theorem toActs : ∀ {els : List (List Val)} (h : ∀ el ∈ els, rowOk [.int .i64, .int .u16, .int .u16, .int .u16, .bool] el), ∃ l : List ActV, els = l.map actV ∧ ∀ a ∈ l, U16 a.sg ∧ U16 a.o ∧ U16 a.v
  | [], _ => ⟨[], rfl, by simp⟩
  | el :: els, h => by
    obtain ⟨e, rfl, he⟩ := toAct (h el (by simp))
    obtain ⟨l, rfl, hl⟩ := toActs (els := els) fun x hx => h x (by simp [hx])
    refine ⟨e :: l, rfl, fun a ha => ?_⟩
    rcases List.mem_cons.1 ha with rfl | ha
    · exact he
    · exact hl a ha
theorem acts_shared (l : List ActV) : (actsV l).all shared = true := by
  rw [List.all_eq_true]
  intro v hv
  simp only [actsV, List.mem_flatten, List.mem_map] at hv
  obtain ⟨_, ⟨e, _, rfl⟩, hv⟩ := hv
  simp only [actV, List.mem_cons, List.not_mem_nil, or_false] at hv
  rcases hv with rfl | rfl | rfl | rfl | rfl <;> rfl
theorem memPlays_w (A0 : Option Addr) (len0 c0 : Nat) (els0 : List (List Val)) (W : World) (hr0 : SlRow W A0 len0 c0 5 els0) (hw0 : ∀ el ∈ els0, rowOk [.int .i64, .int .u16, .int .u16, .int .u16, .bool] el) (hc0 : c0 ≤ maxLen) :
    Calls Try.prog 3 #[.slice A0 len0 c0] W fun e W' => e = .returned (.bool true) ∧ Below W.heap.size W W' := by
  obtain ⟨l, rfl, hu⟩ := toActs hw0
  have hl : l.length = len0 := by have := hr0.1; simpa using this
  subst hl
  obtain ⟨K, hK⟩ : ∃ K, K = 400 := ⟨_, rfl⟩
  cases A0 with
  | none =>
    obtain ⟨_, ⟨_, h1, h2⟩ | ⟨_, _, _, _, _, h, _⟩⟩ := hr0
    · rw [h1, h2]
      obtain ⟨⟨v, H'⟩, he, hv⟩ := memPlays_n Mk.plain K 0 hK [] (by simp)
      replace hv : v = .bool true := hv
      subst hv
      refine law_of (ρ := fun _ => none) (H0 := []) follows annok extok he (fun b c z => by cases z) (fun k c cs z => by cases z) (fun b c z => by cases z) ?_
      exact ⟨rfl, trivial⟩
    · cases h
  | some x =>
    obtain ⟨⟨v, H'⟩, he, hv⟩ := memPlays_l Mk.plain K 1 hK rfl l hu [⟨actsV l, true⟩] (by simp) (by simp) rfl
    replace hv : v = .bool true := hv
    subst hv
    have hs1 : ∀ el ∈ l.map actV, el.length = 5 := by
      intro el hel
      simp only [List.mem_map] at hel
      obtain ⟨e, _, rfl⟩ := hel
      rfl
    have hat := fun ρ => slAt (ρ := ρ) hr0 hs1 (cb := ⟨x.block, if c0 = 0 then 0 else x.off, c0 * 5⟩) rfl
    let ρ : Ren := fun b => match b with
      | .hp 0 => slBlk 5 (some x) c0
      | _ => none
    have hρ : ∀ b c, ρ b = some c → b = .hp 0 ∧ c = ⟨x.block, if c0 = 0 then 0 else x.off, c0 * 5⟩ := by
      intro b c h
      simp only [ρ] at h
      split at h
      · exact ⟨rfl, (Option.some.inj h).symm⟩
      · cases h
    refine law_of (ρ := ρ) (H0 := [⟨actsV l, true⟩]) follows annok extok he (fun b c z => ⟨0, (hρ b c z).1, Nat.zero_lt_one⟩) (fun k c cs z hk => ?_) (fun b c z => by rw [(hρ b c z).2]; exact (hat ρ).1) ?_
    · obtain ⟨h0, rfl⟩ := hρ _ _ z
      cases h0
      obtain rfl : actsV l = cs := Option.some.inj hk
      exact ⟨acts_shared l, (hat ρ).2⟩
    · exact ⟨slRel hr0 rfl, trivial⟩
end Go.Proofs.Ytfflejhodmcoeaa.VM
