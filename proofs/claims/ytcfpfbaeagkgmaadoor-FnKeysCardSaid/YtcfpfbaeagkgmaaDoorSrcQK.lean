/-
  The laws' source of choices: what the printed functions give.
-/
import Derived.Test.YtcfpfbaeagkgmaaDoorPKx
import Derived.IntWalk
set_option linter.unusedSimpArgs false
set_option linter.unusedVariables false
namespace Go.Proofs.YtcfpfbaeagkgmaaDoor.PureK
open Go.RowKit Go.Proofs.YtcfpfbaeagkgmaaDoor.PK Go.Proofs.YtcfpfbaeagkgmaaDoorW.PrintWords Go.Proofs.YtcfpfbaeagkgmaaDoorW.PrintMore

theorem w64 {n : Int} (h1 : -9223372036854775808 ≤ n) (h2 : n ≤ 9223372036854775807) : wrap64 n = n := IntWalk.wrap64_in n ⟨h1, h2⟩

def Bytes (c : List Int) : Prop := ∀ x ∈ c, 0 ≤ x ∧ x ≤ 255
theorem Bytes.of_wf {c : List Int} (h : ∀ x ∈ c, (Lit.int .u8 x).wf = true) : Bytes c := fun x hx => by
  have := h x hx
  simp [Lit.wf, IntKind.min, IntKind.max, IntKind.bits, IntKind.signed] at this
  omega
theorem Bytes.rd_ {c : List Int} (h : Bytes c) (i : Int) : 0 ≤ rd c i ∧ rd c i ≤ 255 := by
  unfold rd
  rw [List.getD_eq_getElem?_getD]
  cases he : c[i.toNat]? with
  | none => simp
  | some x => simpa using h x (List.mem_of_getElem? he)

theorem and255 (X : Int) : 0 ≤ Go.bits .and .u64 X 255 ∧ Go.bits .and .u64 X 255 ≤ 255 := by
  have e : Go.bits .and .u64 X 255 = IntKind.u64.wrap ((BitVec.ofInt 64 X &&& BitVec.ofInt 64 255).toNat : Int) := rfl
  have h : (BitVec.ofInt 64 X &&& BitVec.ofInt 64 255).toNat ≤ 255 := by
    rw [BitVec.toNat_and]
    exact Nat.le_trans Nat.and_le_right (by decide)
  rw [e, IntKind.wrap_u64]
  omega

theorem next_f {c : List Int} (hc : Bytes c) {a s : Int} (h0 : 0 ≤ a) (h1 : a ≤ 1000000000) :
    ∃ v s', spec_l00Src_next.f c a s = some (v, a + 1, s') ∧ 0 ≤ v ∧ v ≤ 255 := by
  have hr := hc.rd_ a
  have e1 : wrap64 (a + 1) = a + 1 := w64 (by omega) (by omega)
  have e2 : wrap64 (rd c a) = rd c a := w64 (by omega) (by omega)
  unfold spec_l00Src_next.f
  rw [e1, e2]
  simp only [h0, if_true]
  split
  · split
    · exact ⟨_, _, rfl, hr.1, hr.2⟩
    · have := and255 ((IntKind.u64.wrap ((IntKind.u64.wrap ((IntKind.u64.wrap (s * 6364136223846793005)) + (IntKind.u64.wrap (rd c a)))) + 1442695040888963407)) / 1099511627776)
      refine ⟨_, _, rfl, ?_, ?_⟩ <;> rw [w64 (by omega) (by omega)] <;> omega
  · split
    · exact ⟨_, _, rfl, by omega, by omega⟩
    · have := and255 ((IntKind.u64.wrap ((IntKind.u64.wrap (IntKind.u64.wrap (s * 6364136223846793005))) + 1442695040888963407)) / 1099511627776)
      refine ⟨_, _, rfl, ?_, ?_⟩ <;> rw [w64 (by omega) (by omega)] <;> omega

theorem pick_f {c : List Int} (hc : Bytes c) {a s n : Int} (h0 : 0 ≤ a) (h1 : a ≤ 900000000) (hn : 1 ≤ n) (hn2 : n ≤ 1000000000) :
    ∃ v a' s', spec_l00Src_pick.f c a s n = some (v, a', s') ∧ 0 ≤ v ∧ v < n ∧ a ≤ a' ∧ a' ≤ a + 2 := by
  unfold spec_l00Src_pick.f
  by_cases h : n ≤ 1
  · rw [if_pos h]
    exact ⟨_, _, _, rfl, by omega, by omega, by omega, by omega⟩
  rw [if_neg h]
  obtain ⟨v, s1, e1, v0, v1⟩ := next_f hc (s := s) h0 (by omega)
  rw [e1]
  simp only [Option.bind_some]
  by_cases h200 : n > 200
  · rw [if_pos h200]
    obtain ⟨u, s2, e2, u0, u1⟩ := next_f hc (a := a + 1) (s := s1) (by omega) (by omega)
    rw [e2]
    simp only [Option.bind_some]
    rw [if_neg (by omega), w64 (n := v * 256) (by omega) (by omega), w64 (by omega) (by omega), Int.tmod_eq_emod_of_nonneg (by omega)]
    exact ⟨_, _, _, rfl, Int.emod_nonneg _ (by omega), Int.emod_lt_of_pos _ (by omega), by omega, by omega⟩
  · rw [if_neg h200, if_neg (by omega), Int.tmod_eq_emod_of_nonneg (by omega)]
    exact ⟨_, _, _, rfl, Int.emod_nonneg _ (by omega), Int.emod_lt_of_pos _ (by omega), by omega, by omega⟩

theorem b10At_f {c : List Int} (hc : Bytes c) {i n : Int} (hi : 0 ≤ i) (hi2 : i ≤ 1000000) (hn : 1 ≤ n) : ∃ v, laws_b10At.f c i n = some v ∧ 0 ≤ v ∧ v < n := by
  unfold laws_b10At.f
  by_cases h : n ≤ 1
  · rw [if_pos h]; exact ⟨_, rfl, by omega, by omega⟩
  have hr := hc.rd_ i
  rw [if_neg h]
  simp only [hi, if_true]
  split
  · rw [if_neg (by omega), w64 (by omega) (by omega), Int.tmod_eq_emod_of_nonneg (by omega)]
    exact ⟨_, rfl, Int.emod_nonneg _ (by omega), Int.emod_lt_of_pos _ (by omega)⟩
  · rw [if_neg (by omega), w64 (n := i * 37) (by omega) (by omega), w64 (by omega) (by omega), Int.tmod_eq_emod_of_nonneg (by omega)]
    exact ⟨_, rfl, Int.emod_nonneg _ (by omega), Int.emod_lt_of_pos _ (by omega)⟩
theorem b10Long_f (a b : List Int) : ∃ r, laws_b10Long.f a b = some r := by
  unfold laws_b10Long.f
  split <;> exact ⟨_, rfl⟩
theorem l00From_f (c : List Int) : spec_l00From.f c = some (c, 0, 0) := rfl
end Go.Proofs.YtcfpfbaeagkgmaaDoor.PureK
