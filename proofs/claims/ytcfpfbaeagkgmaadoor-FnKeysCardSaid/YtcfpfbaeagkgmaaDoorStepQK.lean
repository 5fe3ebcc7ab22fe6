/-
  Places and steps: what the printed functions give.
-/
import Derived.Test.YtcfpfbaeagkgmaaDoorPKx
import Derived.Test.YtcfpfbaeagkgmaaDoorExact
set_option linter.unusedSimpArgs false
set_option linter.unusedVariables false
namespace Go.Proofs.YtcfpfbaeagkgmaaDoor.PureK
open Go.RowKit Go.Proofs.YtcfpfbaeagkgmaaDoor.PK Go.Proofs.YtcfpfbaeagkgmaaDoorW.PrintWords FL

theorem fv_c24 : FV D 4715268809856909312 16777216 := ⟨by decide +kernel, by decide +kernel⟩
theorem fv_half : FV D 4602678819172646912 (1/2) := ⟨by decide +kernel, by decide +kernel⟩
theorem fv_s24 : FV S 1266679808 16777216 := ⟨by decide +kernel, by decide +kernel⟩
theorem fv_128 : FV S 1124073472 128 := ⟨by decide +kernel, by decide +kernel⟩
theorem fv_m4 : FV S 3196059648 (-1/4) := ⟨by decide +kernel, by decide +kernel⟩
theorem fv_p4 : FV S 1048576000 (1/4) := ⟨by decide +kernel, by decide +kernel⟩
theorem fv_m2 : FV S 3204448256 (-1/2) := ⟨by decide +kernel, by decide +kernel⟩
theorem fv_p2 : FV S 1056964608 (1/2) := ⟨by decide +kernel, by decide +kernel⟩

theorem within_f (a b c : Int) : impl_within.f a b c = some (decide (b ≤ a) && decide (a ≤ c)) := by
  unfold impl_within.f
  by_cases h : b ≤ a <;> simp [h]

/-- the word of n steps -/
def stepW (n : Int) : Nat := fdiv S (ofI S n) 1266679808
theorem stepW_fv {n : Int} (h : n.natAbs < 16777216) : S.div (ofI S n) 1266679808 = some (stepW n) ∧ FV S (stepW n) ((n : Rat) / 16777216) :=
  FV.div (FV.ofS h) fv_s24 (by decide) (by have := repS (n := n) 24 h (by omega); simpa using this)

theorem PlaceOfSteps_f {n e : Int} (h1 : -4194304 ≤ n) (h2 : n ≤ 4194304) (h3 : -8388608 ≤ e) (h4 : e ≤ 8388607) :
    impl_PlaceOfSteps.f n e = some (stepW n, stepW e, true) := by
  unfold impl_PlaceOfSteps.f
  rw [within_f, within_f]
  have e1 : (decide (-4194304 ≤ n) && decide (n ≤ 4194304)) = true := by simp; omega
  have e2 : (decide (-8388608 ≤ e) && decide (e ≤ 8388607)) = true := by simp; omega
  simp only [e1, e2, Option.bind_some, if_true]
  rw [(stepW_fv (n := n) (by omega)).1, (stepW_fv (n := e) (by omega)).1]
  rfl

theorem stepOf_f {x : Nat} {n : Int} (hx : FV S x ((n : Rat) / 16777216)) (h : n.natAbs ≤ 16777216) : impl_stepOf.f x = some n := by
  unfold impl_stepOf.f
  have e1 : cvtO x = some (cvt x) := by unfold cvtO; rw [if_pos hx.fin]
  have c1 : FV D (cvt x) ((n : Rat) / 16777216) := hx.cvt
  have m1 := FV.mul c1 fv_c24 (by
    have := repD (n := n) 0 (by omega) (by omega)
    have e : (n : Rat) / 16777216 * 16777216 = (n : Rat) / ((2 ^ 0 : Nat) : Rat) := by grind
    rwa [e])
  have e2 : (n : Rat) / 16777216 * 16777216 = (n : Rat) := by grind
  rw [e2] at m1
  have a1 := FV.add m1.2 fv_half (by
    have := repD (n := 2 * n + 1) 1 (by omega) (by omega)
    have e : (n : Rat) + 1/2 = ((2 * n + 1 : Int) : Rat) / ((2 ^ 1 : Nat) : Rat) := by
      rw [Rat.intCast_add, Rat.intCast_mul]; grind
    rwa [e])
  have hb1 : (-16777216 : Rat) ≤ (n : Rat) := by
    have : ((-16777216 : Int) : Rat) ≤ (n : Rat) := Rat.intCast_le_intCast.2 (by omega)
    exact this
  have hb2 : (n : Rat) ≤ 16777216 := by
    have : (n : Rat) ≤ ((16777216 : Int) : Rat) := Rat.intCast_le_intCast.2 (by omega)
    exact this
  have f1 := FV.floor a1.2 (by grind) (by grind)
  have fe : ((n : Rat) + 1/2).floor = n := floor_eq (by grind) (by grind)
  rw [fe] at f1
  have e3 : floorO (fadd D (fmul D (cvt x) 4715268809856909312) 4602678819172646912) = some (ffloor (fadd D (fmul D (cvt x) 4715268809856909312) 4602678819172646912)) := by
    unfold floorO; rw [if_pos a1.2.fin]
  have e4 : toIO .i64 (ffloor (fadd D (fmul D (cvt x) 4715268809856909312) 4602678819172646912)) = some n := by
    unfold toIO
    rw [f1.val, truncR_int, if_pos ⟨f1.fin, by omega, by omega, rfl⟩]
  rw [e1]
  simp only [Option.bind_some]
  rw [m1.1]
  simp only [Option.bind_some]
  rw [a1.1]
  simp only [Option.bind_some, math_Floor.f]
  rw [e3]
  simp only [Option.bind_some]
  rw [e4]
  rfl

theorem ratdiv_le {a b : Int} : (a : Rat) / 16777216 ≤ (b : Rat) / 16777216 ↔ a ≤ b := by
  rw [← Rat.intCast_le_intCast]
  constructor <;> intro h <;> grind
theorem ratdiv_lt {a b : Int} : (a : Rat) / 16777216 < (b : Rat) / 16777216 ↔ a < b := by
  rw [← Rat.intCast_lt_intCast]
  constructor <;> intro h <;> grind

/-- A place of n and e steps. -/
structure PS (p q : Nat) (n e : Int) : Prop where
  vn : FV S p ((n : Rat) / 16777216)
  ve : FV S q ((e : Rat) / 16777216)
  n1 : -4194304 ≤ n
  n2 : n ≤ 4194304
  e1 : -8388608 ≤ e
  e2 : e ≤ 8388607

theorem ValidPlace_f {p q : Nat} {n e : Int} (h : PS p q n e) : impl_ValidPlace.f p q = some true := by
  unfold impl_ValidPlace.f impl_inside.f
  have q1 : (-1/4 : Rat) = ((-4194304 : Int) : Rat) / 16777216 := by decide +kernel
  have q2 : (1/4 : Rat) = ((4194304 : Int) : Rat) / 16777216 := by decide +kernel
  have q3 : (-1/2 : Rat) = ((-8388608 : Int) : Rat) / 16777216 := by decide +kernel
  have q4 : (1/2 : Rat) = ((8388608 : Int) : Rat) / 16777216 := by decide +kernel
  have t1 : fge S p 3196059648 = true := by rw [h.vn.fge fv_m4, q1]; exact decide_eq_true (ratdiv_le.2 h.n1)
  have t2 : fle S p 1048576000 = true := by rw [h.vn.fle fv_p4, q2]; exact decide_eq_true (ratdiv_le.2 h.n2)
  have t3 : fge S q 3204448256 = true := by rw [h.ve.fge fv_m2, q3]; exact decide_eq_true (ratdiv_le.2 h.e1)
  have t4 : flt S q 1056964608 = true := by rw [h.ve.flt fv_p2, q4]; exact decide_eq_true (ratdiv_lt.2 (by have := h.e2; omega))
  simp [t1, t2, t3, t4]

theorem StepsOf_f {p q : Nat} {n e : Int} (h : PS p q n e) : impl_StepsOf.f p q = some (n, e, true) := by
  unfold impl_StepsOf.f
  have := h.n1; have := h.n2; have := h.e1; have := h.e2
  rw [ValidPlace_f h, stepOf_f h.vn (by omega), stepOf_f h.ve (by omega)]
  simp only [Option.bind_some, if_true]
  rw [if_neg (by omega)]
end Go.Proofs.YtcfpfbaeagkgmaaDoor.PureK
