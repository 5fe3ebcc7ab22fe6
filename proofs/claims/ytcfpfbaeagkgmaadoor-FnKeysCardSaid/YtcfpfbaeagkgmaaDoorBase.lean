/-
  What every walk of this seat uses: laws of the walk for numbers, words on memory.
-/
import Derived.Test.YtcfpfbaeagkgmaaDoorChecked
import Derived.Test.YtcfpfbaeagkgmaaDoorFloat
import Derived.WalkKit
import Derived.WalkLawsBesides
import Derived.WalkSpells
import Derived.KernelRfl
import Derived.Deep.QuietTactic
import Derived.BigQuiet
import Derived.Lib.Hide
set_option linter.unusedSimpArgs false
set_option linter.unusedVariables false
namespace Go.Proofs.YtcfpfbaeagkgmaaDoor
open Go.RowKit FL

/-- The call hands back v; what there was in memory is as it was. -/
def Ret (v : Value) (w : World) (e : Ending) (w' : World) : Prop := e = .returned v ∧ Below w.heap.size w w'

theorem bcell {W w1 : World} (hb : Below W.heap.size W w1) : (∀ b o, b < W.heap.size → w1.cell? ⟨b, o, none⟩ = W.cell? ⟨b, o, none⟩) ∧ (∀ b o, b < W.heap.size → w1.frozen? ⟨b, o, none⟩ = W.frozen? ⟨b, o, none⟩) :=
  ⟨fun b o h => hb.cell (p := ⟨b, o, none⟩) h, fun b o h => hb.frozen (p := ⟨b, o, none⟩) h⟩

section
variable {P : Program} (w : World) (t : TypeId)
theorem w_add64 {x y : Nat} (hx : fin D x = true) (hy : fin D y = true) : (binOp .add t (.float .f64 x) (.float .f64 y)).run P w = .ok (.float .f64 (fadd D x y)) w :=
  run_float_arith w .add t .f64 x y _ (add_ok hx hy).1
theorem w_sub64 {x y : Nat} (hx : fin D x = true) (hy : fin D y = true) : (binOp .sub t (.float .f64 x) (.float .f64 y)).run P w = .ok (.float .f64 (fsub D x y)) w :=
  run_float_arith w .sub t .f64 x y _ (sub_ok hx hy).1
theorem w_mul64 {x y : Nat} (hx : fin D x = true) (hy : fin D y = true) : (binOp .mul t (.float .f64 x) (.float .f64 y)).run P w = .ok (.float .f64 (fmul D x y)) w :=
  run_float_arith w .mul t .f64 x y _ (mul_ok hx hy).1
theorem w_add32 {x y : Nat} (hx : fin S x = true) (hy : fin S y = true) : (binOp .add t (.float .f32 x) (.float .f32 y)).run P w = .ok (.float .f32 (fadd S x y)) w :=
  run_float_arith w .add t .f32 x y _ (add_ok hx hy).1
theorem w_sub32 {x y : Nat} (hx : fin S x = true) (hy : fin S y = true) : (binOp .sub t (.float .f32 x) (.float .f32 y)).run P w = .ok (.float .f32 (fsub S x y)) w :=
  run_float_arith w .sub t .f32 x y _ (sub_ok hx hy).1
theorem w_mul32 {x y : Nat} (hx : fin S x = true) (hy : fin S y = true) : (binOp .mul t (.float .f32 x) (.float .f32 y)).run P w = .ok (.float .f32 (fmul S x y)) w :=
  run_float_arith w .mul t .f32 x y _ (mul_ok hx hy).1
/-- what may be divided by -/
def nz (f : Ieee.Format) (y : Nat) : Bool := decide (val f y ≠ 0)
theorem nz_of {f : Ieee.Format} {y : Nat} (h : val f y ≠ 0) : nz f y = true := decide_eq_true h
theorem w_div64 {x y : Nat} (hx : fin D x = true) (hy : fin D y = true) (h : nz D y = true) : (binOp .quo t (.float .f64 x) (.float .f64 y)).run P w = .ok (.float .f64 (fdiv D x y)) w :=
  run_float_arith w .quo t .f64 x y _ (div_ok hx hy (of_decide_eq_true h)).1
theorem w_div32 {x y : Nat} (hx : fin S x = true) (hy : fin S y = true) (h : nz S y = true) : (binOp .quo t (.float .f32 x) (.float .f32 y)).run P w = .ok (.float .f32 (fdiv S x y)) w :=
  run_float_arith w .quo t .f32 x y _ (div_ok hx hy (of_decide_eq_true h)).1
end

section
variable (t : TypeId) (a b : Nat)
theorem w_eq64 : (FloatKind.f64.format.order a b == some .eq) = feq D a b := rfl
theorem w_lt64 : (FloatKind.f64.format.order a b == some .lt) = flt D a b := rfl
theorem w_gt64 : (FloatKind.f64.format.order a b == some .gt) = fgt D a b := rfl
theorem w_eq32 : (FloatKind.f32.format.order a b == some .eq) = feq S a b := rfl
theorem w_lt32 : (FloatKind.f32.format.order a b == some .lt) = flt S a b := rfl
theorem w_gt32 : (FloatKind.f32.format.order a b == some .gt) = fgt S a b := rfl
theorem w_ge64 : (fgt D a b || feq D a b) = fge D a b := rfl
theorem w_le64 : (flt D a b || feq D a b) = fle D a b := rfl
theorem w_ge32 : (fgt S a b || feq S a b) = fge S a b := rfl
theorem w_le32 : (flt S a b || feq S a b) = fle S a b := rfl
theorem w_ne64 : (FloatKind.f64.format.order a b != some .eq) = !feq D a b := rfl
theorem w_ne32 : (FloatKind.f32.format.order a b != some .eq) = !feq S a b := rfl
end

/-- a float32 made narrower or wider -/
theorem w_cvt {P : Program} (w : World) (s d : TypeId) {x : Nat} (hs : (P.underlying s).isSome = true) (hd : P.underlying d = some (.float .f64)) (hx : fin S x = true) :
    (convert s d (.float .f32 x)).run P w = .ok (.float .f64 (cvt x)) w := by
  refine run_convert_float_float w s d .f32 .f64 x _ hs hd ?_
  obtain ⟨g, m, e, h1, _⟩ := fin_num hx
  have h2 := fin_not_inf (cvt_ok hx).1
  have e1 : FloatKind.f32.decode x = .number g m e := h1
  have e2 : FloatKind.f64.encode (.number g m e) = cvt x := by unfold cvt; rw [h1]; rfl
  unfold floatToFloatBits
  rw [if_neg (by decide), e1]
  simp only
  rw [e2, if_neg]
  show ¬ (FloatKind.f64.decode (cvt x)).isInfinity = true
  rw [show (FloatKind.f64.decode (cvt x)).isInfinity = false from h2]; decide

theorem w_nar {P : Program} (w : World) (s d : TypeId) {x : Nat} (hs : (P.underlying s).isSome = true) (hd : P.underlying d = some (.float .f32)) (hx : fin D x = true) (hn : fin S (nar x) = true) :
    (convert s d (.float .f64 x)).run P w = .ok (.float .f32 (nar x)) w := by
  refine run_convert_float_float w s d .f64 .f32 x _ hs hd ?_
  obtain ⟨g, m, e, h1, _⟩ := fin_num hx
  have h2 := fin_not_inf hn
  have e1 : FloatKind.f64.decode x = .number g m e := h1
  have e2 : FloatKind.f32.encode (.number g m e) = nar x := by unfold nar; rw [h1]; rfl
  unfold floatToFloatBits
  rw [if_neg (by decide), e1]
  simp only
  rw [e2, if_neg]
  show ¬ (FloatKind.f32.decode (nar x)).isInfinity = true
  rw [show (FloatKind.f32.decode (nar x)).isInfinity = false from h2]; decide

theorem w_ofI64 (n : Int) : floatOfInt .f64 n = ofI D n := rfl
theorem w_ofI32 (n : Int) : floatOfInt .f32 n = ofI S n := rfl

theorem w_toInt {P : Program} (w : World) (s d : TypeId) {x : Nat} (hs : (P.underlying s).isSome = true) (hd : P.underlying d = some (.int .i64)) (hx : fin D x = true)
    (h1 : -9223372036854775808 ≤ truncR (val D x)) (h2 : truncR (val D x) ≤ 9223372036854775807) :
    (convert s d (.float .f64 x)).run P w = .ok (.int .i64 (truncR (val D x))) w := by
  refine run_convert_float_int w s d .f64 .i64 x _ hs hd ?_
  unfold floatToIntVal
  have e : (FloatKind.f64.decode x).toInt .zero = some (truncR (val D x)) := toInt_ok hx
  rw [e]
  simp only
  rw [if_pos]
  exact ⟨h1, h2⟩


theorem w_divs64 {P : Program} (w : World) (t : TypeId) {x y : Nat} (h : (D.div x y).isSome = true) : (binOp .quo t (.float .f64 x) (.float .f64 y)).run P w = .ok (.float .f64 (fdiv D x y)) w := by
  obtain ⟨r, hr⟩ := Option.isSome_iff_exists.1 h
  refine run_float_arith w .quo t .f64 x y _ ?_
  have e : fdiv D x y = r := by unfold fdiv; rw [hr]; rfl
  rw [e]; exact hr
theorem w_divs32 {P : Program} (w : World) (t : TypeId) {x y : Nat} (h : (S.div x y).isSome = true) : (binOp .quo t (.float .f32 x) (.float .f32 y)).run P w = .ok (.float .f32 (fdiv S x y)) w := by
  obtain ⟨r, hr⟩ := Option.isSome_iff_exists.1 h
  refine run_float_arith w .quo t .f32 x y _ ?_
  have e : fdiv S x y = r := by unfold fdiv; rw [hr]; rfl
  rw [e]; exact hr
theorem w_neg64 {P : Program} (x : Nat) (w : World) : (Op.unary .neg (.float .f64 x)).run P w = .ok (.float .f64 (Op.negFloat .f64 x)) w := rfl
theorem w_neg32 {P : Program} (x : Nat) (w : World) : (Op.unary .neg (.float .f32 x)).run P w = .ok (.float .f32 (Op.negFloat .f32 x)) w := rfl

/-! ### a slice that reads as a list -/
theorem block_of_add (a : Addr) (n : Nat) : (a.add n).block = a.block := by unfold Addr.add; split <;> rfl
theorem add_of_add (a : Addr) (i j : Nat) : (a.add i).add j = a.add (i + j) := by
  unfold Addr.add
  by_cases hi : i = 0 <;> by_cases hj : j = 0 <;> simp [hi, hj, Nat.add_assoc]

/-- The slice value of the address A reads as the list l, each element of sz cells; it lies below block B. -/
def RdL {α : Type} (w : World) (B sz : Nat) (enc : α → Nat → Value) (A : Option Addr) (l : List α) : Prop :=
  ∀ k (h : k < l.length), ∃ ad, A = some ad ∧ ad.block < B ∧ ∀ j, j < sz → w.cell? (ad.add (k * sz + j)) = some (enc l[k] j)

section
variable {α : Type} {w w' : World} {B B' sz : Nat} {enc : α → Nat → Value} {A : Option Addr} {l : List α}
theorem RdL.nil : RdL w B sz enc A ([] : List α) := fun k h => by simp at h
theorem RdL.keep (h : RdL w B sz enc A l) (hk : ∀ p : Addr, p.block < B → w'.cell? p = w.cell? p) : RdL w' B sz enc A l := fun k hlt => by
  obtain ⟨ad, e, hb, hc⟩ := h k hlt
  exact ⟨ad, e, hb, fun j hj => (hk _ (by rw [block_of_add]; exact hb)).trans (hc j hj)⟩
theorem RdL.more (h : RdL w B sz enc A l) (hB : B ≤ B') : RdL w B' sz enc A l := fun k hlt => by
  obtain ⟨ad, e, hb, hc⟩ := h k hlt
  exact ⟨ad, e, Nat.lt_of_lt_of_le hb hB, hc⟩
theorem RdL.below {w' : World} (h : RdL w B sz enc A l) (hb : Below B w w') : RdL w' B sz enc A l := h.keep fun _ hp => hb.cell hp
theorem RdL.drew (h : RdL w B sz enc A l) : RdL w.drew B sz enc A l := h
theorem RdL.alloc (h : RdL w B sz enc A l) (hB : B ≤ w.heap.size) (o : Obj) : RdL (w.alloc o) B sz enc A l := h.keep fun p hp => World.cell?_alloc_lt w o p (Nat.lt_of_lt_of_le hp hB)
theorem RdL.setCell (h : RdL w B sz enc A l) {p : Addr} (hB : B ≤ p.block) (u : Value) : RdL (w.setCell p u) B sz enc A l :=
  h.keep fun q hq => World.cell?_setCell_other w p q u (fun e => by subst e; omega)
end
/-- how elements lie in memory -/
def encF32 (x : Nat) (_ : Nat) : Value := .float .f32 x
def encI64 (x : Int) (_ : Nat) : Value := .int .i64 x
end Go.Proofs.YtcfpfbaeagkgmaaDoor
