/- A plain machine for the program's functions: a law with one slice that comes in; with none. -/
import Derived.Test.YtponkdimnafppaaDoorVY
namespace Go.Proofs.YtponkdimnafppaaDoor.VM
open Go Go.RowKit Go.ChangeShapes Go.WideShapes
set_option linter.unusedVariables false
set_option linter.unusedSimpArgs false
theorem rowOk_shared {v : Val} : ∀ {ks : List CK} {el : List Val}, rowOk ks el → v ∈ el → shared v = true
  | [], [], _, h => by cases h
  | k :: ks, x :: xs, h, hv => by
    rcases List.mem_cons.1 hv with rfl | hv
    · have := h.1
      cases k <;> cases v <;> first | rfl | exact this.elim
    · exact rowOk_shared h.2 hv
  | [], _ :: _, h, _ => h.elim
  | _ :: _, [], h, _ => h.elim
theorem rows_shared {ks : List CK} {els : List (List Val)} (h : ∀ el ∈ els, rowOk ks el) : els.flatten.all shared = true := by
  rw [List.all_eq_true]
  intro v hv
  obtain ⟨el, h1, h2⟩ := List.mem_flatten.1 hv
  exact rowOk_shared (h el h1) h2
/-- One slice that came in: its block is the block 0. -/
theorem sl_ok {W : World} {x : Addr} {n c : Nat} {ks : List CK} {els : List (List Val)} (hr : SlRow W (some x) n c ks.length els) (hw : ∀ el ∈ els, rowOk ks el) :
    ∃ ρ : Ren, relV ρ (.sl (.hp 0) 0 n ks.length) (.slice (some x) n c) ∧ (∀ b c, ρ b = some c → ∃ k, b = .hp k ∧ k < ([⟨els.flatten, true⟩] : List Blk).length) ∧
    (∀ k c cs, ρ (.hp k) = some c → liveAt [⟨els.flatten, true⟩] k = some cs → cs.all shared = true ∧ ∃ arr ty fr, W.heap[c.blk]? = some (.cells arr ty fr) ∧ cs.length ≤ c.room ∧ c.off + cs.length ≤ arr.size ∧ (∀ i x, getAt i cs = some x → ∃ v, arr[c.off + i]? = some v ∧ cellRel ρ x v)) ∧
    (∀ b c, ρ b = some c → c.blk < W.heap.size) := by
  have hat := fun ρ => slAt (ρ := ρ) hr (fun el hel => rowOk_length (hw el hel)) (cb := ⟨x.block, if c = 0 then 0 else x.off, c * ks.length⟩) rfl
  let ρ : Ren := fun b => match b with
    | .hp 0 => slBlk ks.length (some x) c
    | _ => none
  have hρ : ∀ b cb, ρ b = some cb → b = .hp 0 ∧ cb = ⟨x.block, if c = 0 then 0 else x.off, c * ks.length⟩ := by
    intro b cb h
    simp only [ρ] at h
    split at h
    · exact ⟨rfl, (Option.some.inj h).symm⟩
    · cases h
  refine ⟨ρ, slRel hr rfl, fun b cb z => ⟨0, (hρ b cb z).1, Nat.zero_lt_one⟩, fun k cb cs z hk => ?_, fun b cb z => by rw [(hρ b cb z).2]; exact (hat ρ).1⟩
  obtain ⟨h0, rfl⟩ := hρ _ _ z
  cases h0
  obtain rfl : els.flatten = cs := Option.some.inj hk
  exact ⟨rows_shared hw, (hat ρ).2⟩
theorem no_slice {W : World} {n c sz : Nat} {els : List (List Val)} (hr : SlRow W none n c sz els) : els = [] ∧ n = 0 ∧ c = 0 := by
  obtain ⟨h0, ⟨_, h1, h2⟩ | ⟨_, _, _, _, _, h, _⟩⟩ := hr
  · exact ⟨List.length_eq_zero_iff.1 (h0.trans h1), h1, h2⟩
  · cases h
theorem no_nest {W : World} {n c sz : Nat} {rs : List (List Value)} (hr : NRow W none n c sz rs) : rs = [] ∧ n = 0 ∧ c = 0 := by
  obtain ⟨h0, ⟨_, h1, h2⟩ | ⟨_, _, _, _, _, h, _⟩⟩ := hr
  · exact ⟨List.length_eq_zero_iff.1 (h0.trans h1), h1, h2⟩
  · cases h
theorem u16_wf' {n : Int} (h : (Lit.int .u16 n).wf = true) : 0 ≤ n ∧ n < 65536 := by
  simp only [Lit.wf, IntKind.has, Bool.and_eq_true, decide_eq_true_eq] at h
  obtain ⟨h1, h2⟩ := h
  have h3 : n ≤ 65535 := h2
  have h4 : 0 ≤ n := h1
  omega
theorem i64_wf' {n : Int} (h : (Lit.int .i64 n).wf = true) : -9223372036854775808 ≤ n ∧ n < 9223372036854775808 := by
  simp only [Lit.wf, IntKind.has, Bool.and_eq_true, decide_eq_true_eq] at h
  obtain ⟨h1, h2⟩ := h
  have h3 : n ≤ 9223372036854775807 := h2
  have h4 : -9223372036854775808 ≤ n := h1
  omega
theorem u8_wf' {n : Int} (h : (Lit.int .u8 n).wf = true) : 0 ≤ n ∧ n < 256 := by
  simp only [Lit.wf, IntKind.has, Bool.and_eq_true, decide_eq_true_eq] at h
  obtain ⟨h1, h2⟩ := h
  have h3 : n ≤ 255 := h2
  have h4 : 0 ≤ n := h1
  omega
end Go.Proofs.YtponkdimnafppaaDoor.VM
