/-
  Exact arithmetic of floats: numbers that the format has, and operations that give one. No program in sight.
-/
import Derived.Test.YtcfpfbaeagkgmaaDoorFloat
set_option linter.unusedSimpArgs false
set_option linter.unusedVariables false
namespace Go.Proofs.YtcfpfbaeagkgmaaDoor.FL
open Ieee

/-- x is finite and its value is v. -/
structure FV (f : Format) (x : Nat) (v : Rat) : Prop where
  fin : fin f x = true
  val : val f x = v

variable {f : Format} {x y : Nat} {a b v : Rat}
theorem FV.of_fin (h : FL.fin f x = true) : FV f x (FL.val f x) := ⟨h, rfl⟩
theorem FV.eq (h : FV f x a) (e : a = b) : FV f x b := e ▸ h
theorem FV.add (hx : FV f x a) (hy : FV f y b) (hr : Rep f (a + b)) : f.add x y = some (fadd f x y) ∧ FV f (fadd f x y) (a + b) := by
  have h := add_ok hx.fin hy.fin
  rw [hx.val, hy.val] at h
  have h2 := h.2 hr.inR
  exact ⟨h.1, h2.fin, h2.exact hr⟩
theorem FV.sub (hx : FV f x a) (hy : FV f y b) (hr : Rep f (a - b)) : f.sub x y = some (fsub f x y) ∧ FV f (fsub f x y) (a - b) := by
  have h := sub_ok hx.fin hy.fin
  rw [hx.val, hy.val] at h
  have h2 := h.2 hr.inR
  exact ⟨h.1, h2.fin, h2.exact hr⟩
theorem FV.mul (hx : FV f x a) (hy : FV f y b) (hr : Rep f (a * b)) : f.mul x y = some (fmul f x y) ∧ FV f (fmul f x y) (a * b) := by
  have h := mul_ok hx.fin hy.fin
  rw [hx.val, hy.val] at h
  have h2 := h.2 hr.inR
  exact ⟨h.1, h2.fin, h2.exact hr⟩
theorem FV.div (hx : FV f x a) (hy : FV f y b) (h0 : b ≠ 0) (hr : Rep f (a / b)) : f.div x y = some (fdiv f x y) ∧ FV f (fdiv f x y) (a / b) := by
  have h := div_ok hx.fin hy.fin (by rw [hy.val]; exact h0)
  rw [hx.val, hy.val] at h
  have h2 := h.2 hr.inR
  exact ⟨h.1, h2.fin, h2.exact hr⟩
theorem FV.cvt (hx : FV S x a) : FV D (cvt x) a := ⟨(cvt_ok hx.fin).1, (cvt_ok hx.fin).2.trans hx.val⟩
theorem FV.nar (hx : FV D x a) (hr : Rep S a) : FV S (nar x) a := by
  have h := nar_ok hx.fin (by rw [hx.val]; exact hr.inR)
  rw [hx.val] at h
  exact ⟨h.fin, h.exact hr⟩
theorem FV.flt (hx : FV f x a) (hy : FV f y b) : flt f x y = decide (a < b) := by rw [flt_val hx.fin hy.fin, hx.val, hy.val]
theorem FV.fle (hx : FV f x a) (hy : FV f y b) : fle f x y = decide (a ≤ b) := by rw [fle_val hx.fin hy.fin, hx.val, hy.val]
theorem FV.fgt (hx : FV f x a) (hy : FV f y b) : fgt f x y = decide (b < a) := by rw [fgt_val hx.fin hy.fin, hx.val, hy.val]
theorem FV.fge (hx : FV f x a) (hy : FV f y b) : fge f x y = decide (b ≤ a) := by rw [fge_val hx.fin hy.fin, hx.val, hy.val]
theorem FV.feq (hx : FV f x a) (hy : FV f y b) : feq f x y = decide (a = b) := by rw [feq_val hx.fin hy.fin, hx.val, hy.val]

theorem p2_negn (k : Nat) : p2 (-(k : Int)) = 1 / ((2 ^ k : Nat) : Rat) := by
  have h := p2_neg (k : Int)
  rw [p2_nat] at h
  have h0 : ((2 ^ k : Nat) : Rat) ≠ 0 := by
    have := p2_pos (k : Int); rw [p2_nat] at this; grind
  grind
/-- n / 2^k is a number of the format. -/
theorem rep_q {n : Int} {k : Nat} (hn : n.natAbs < 2 * f.binade) (hl : f.leastPlace ≤ -(k : Int)) (ht : -(k : Int) ≤ top f) : Rep f ((n : Rat) / ((2 ^ k : Nat) : Rat)) := by
  refine ⟨decide (n < 0), n.natAbs, -(k : Int), ?_, hn, hl, ht⟩
  have h := intval n (decide (n < 0)) (fun _ => rfl)
  have h2 : sgn (decide (n < 0)) * ((n.natAbs : Rat) * p2 0) = (n : Rat) := h
  rw [p2_zero] at h2
  rw [p2_negn, ← h2]
  grind
theorem repS {n : Int} (k : Nat) (hn : n.natAbs < 16777216) (hk : k ≤ 149) : Rep S ((n : Rat) / ((2 ^ k : Nat) : Rat)) :=
  rep_q (by have : (2 * S.binade) = 16777216 := by decide
            omega) (by have : S.leastPlace = -149 := by decide
                       omega) (by have : top S = 104 := by decide
                                  omega)
theorem repD {n : Int} (k : Nat) (hn : n.natAbs < 9007199254740992) (hk : k ≤ 1000) : Rep D ((n : Rat) / ((2 ^ k : Nat) : Rat)) :=
  rep_q (by have : (2 * D.binade) = 9007199254740992 := by decide
            omega) (by have : D.leastPlace = -1074 := by decide
                       omega) (by have : top D = 971 := by decide
                                  omega)
theorem FV.ofS {n : Int} (hn : n.natAbs < 16777216) : FV S (ofI S n) (n : Rat) := by
  have h := ofI_ok (f := S) (n := n) (by have : (2 * S.binade) = 16777216 := by decide
                                         omega) (by decide) (by decide)
  exact ⟨h.1, h.2⟩
theorem FV.ofD {n : Int} (hn : n.natAbs < 9007199254740992) : FV D (ofI D n) (n : Rat) := by
  have h := ofI_ok (f := D) (n := n) (by have : (2 * D.binade) = 9007199254740992 := by decide
                                         omega) (by decide) (by decide)
  exact ⟨h.1, h.2⟩
theorem FV.floor (hx : FV D x a) (h1 : -(4503599627370496:Rat) ≤ a) (h2 : a ≤ 4503599627370496) : FV D (ffloor x) (a.floor : Rat) := by
  have h := ffloor_ok hx.fin (by rw [hx.val]; exact h1) (by rw [hx.val]; exact h2)
  rw [hx.val] at h
  exact ⟨h.1, h.2⟩
/-- A sum is no less than a summand that is a number of the format, where the other is not below 0. -/
theorem FV.add_ge (hx : FV f x a) (hy : FV f y b) (he : 2 ≤ f.exponentBits) (h0 : 0 ≤ b) (hr : InR f (a + b)) : f.add x y = some (fadd f x y) ∧ FL.fin f (fadd f x y) = true ∧ a ≤ FL.val f (fadd f x y) := by
  have h := add_ok hx.fin hy.fin
  rw [hx.val, hy.val] at h
  have h2 := h.2 hr
  refine ⟨h.1, h2.fin, h2.ge a ?_ (by grind)⟩
  have := rep_val he hx.fin
  rwa [hx.val] at this
end Go.Proofs.YtcfpfbaeagkgmaaDoor.FL
