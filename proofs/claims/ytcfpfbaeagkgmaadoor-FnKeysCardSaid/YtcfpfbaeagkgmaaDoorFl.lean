/-
  Floats for the printed walks: operations on words as partial functions (none: a not-a-number comes out, or is met), with what the model does where they tell a word.
-/
import Derived.Test.YtcfpfbaeagkgmaaDoorBase
import Derived.Test.YtcfpfbaeagkgmaaDoorWMore
import Derived.Test.YtcfpfbaeagkgmaaDoorWFoot
import Derived.Laws.Entries
set_option linter.unusedSimpArgs false
set_option linter.unusedVariables false
namespace Go.Proofs.YtcfpfbaeagkgmaaDoor
open Go.RowKit FL

namespace FL
def cvtO (x : Nat) : Option Nat := if fin S x = true then some (cvt x) else none
def narO (x : Nat) : Option Nat := if fin D x = true ∧ fin S (nar x) = true then some (nar x) else none
def toIO (k : IntKind) (x : Nat) : Option Int := if fin D x = true ∧ -9223372036854775808 ≤ truncR (val D x) ∧ truncR (val D x) ≤ 9223372036854775807 ∧ k = .i64 then some (truncR (val D x)) else none
def floorO (x : Nat) : Option Nat := if fin D x = true then some (ffloor x) else none
def truncO (x : Nat) : Option Nat := if fin D x = true then some (ftrunc x) else none

section
variable {P : Program} (w : World) {x y r : Nat}
theorem r_add64 (h : D.add x y = some r) (t : TypeId) : (binOp .add t (.float .f64 x) (.float .f64 y)).run P w = .ok (.float .f64 r) w := run_float_arith w .add t .f64 x y _ h
theorem r_sub64 (h : D.sub x y = some r) (t : TypeId) : (binOp .sub t (.float .f64 x) (.float .f64 y)).run P w = .ok (.float .f64 r) w := run_float_arith w .sub t .f64 x y _ h
theorem r_mul64 (h : D.mul x y = some r) (t : TypeId) : (binOp .mul t (.float .f64 x) (.float .f64 y)).run P w = .ok (.float .f64 r) w := run_float_arith w .mul t .f64 x y _ h
theorem r_div64 (h : D.div x y = some r) (t : TypeId) : (binOp .quo t (.float .f64 x) (.float .f64 y)).run P w = .ok (.float .f64 r) w := run_float_arith w .quo t .f64 x y _ h
theorem r_add32 (h : S.add x y = some r) (t : TypeId) : (binOp .add t (.float .f32 x) (.float .f32 y)).run P w = .ok (.float .f32 r) w := run_float_arith w .add t .f32 x y _ h
theorem r_sub32 (h : S.sub x y = some r) (t : TypeId) : (binOp .sub t (.float .f32 x) (.float .f32 y)).run P w = .ok (.float .f32 r) w := run_float_arith w .sub t .f32 x y _ h
theorem r_mul32 (h : S.mul x y = some r) (t : TypeId) : (binOp .mul t (.float .f32 x) (.float .f32 y)).run P w = .ok (.float .f32 r) w := run_float_arith w .mul t .f32 x y _ h
theorem r_div32 (h : S.div x y = some r) (t : TypeId) : (binOp .quo t (.float .f32 x) (.float .f32 y)).run P w = .ok (.float .f32 r) w := run_float_arith w .quo t .f32 x y _ h
theorem cvtO_spec (h : cvtO x = some r) : fin S x = true ∧ r = cvt x := by
  unfold cvtO at h; split at h
  · exact ⟨by assumption, (Option.some.inj h).symm⟩
  · cases h
theorem narO_spec (h : narO x = some r) : fin D x = true ∧ fin S (nar x) = true ∧ r = nar x := by
  unfold narO at h; split at h
  · rename_i hc; exact ⟨hc.1, hc.2, (Option.some.inj h).symm⟩
  · cases h
theorem toIO_spec {k : IntKind} {n : Int} (h : toIO k x = some n) : k = .i64 ∧ fin D x = true ∧ -9223372036854775808 ≤ truncR (val D x) ∧ truncR (val D x) ≤ 9223372036854775807 ∧ n = truncR (val D x) := by
  unfold toIO at h; split at h
  · rename_i hc; exact ⟨hc.2.2.2, hc.1, hc.2.1, hc.2.2.1, (Option.some.inj h).symm⟩
  · cases h
end
section
variable {P : Program} {x r : Nat}
theorem r_cvt (s d : TypeId) (hs : P.underlying s = some (.float .f32)) (hd : P.underlying d = some (.float .f64)) (w : World) (h : cvtO x = some r) :
    (convert s d (.float .f32 x)).run P w = .ok (.float .f64 r) w := by
  obtain ⟨hx, rfl⟩ := cvtO_spec h
  exact w_cvt w s d (by rw [hs]; rfl) hd hx
theorem r_nar (s d : TypeId) (hs : P.underlying s = some (.float .f64)) (hd : P.underlying d = some (.float .f32)) (w : World) (h : narO x = some r) :
    (convert s d (.float .f64 x)).run P w = .ok (.float .f32 r) w := by
  obtain ⟨hx, hn, rfl⟩ := narO_spec h
  exact w_nar w s d (by rw [hs]; rfl) hd hx hn
theorem r_toI {k : IntKind} {n : Int} (s d : TypeId) (hs : P.underlying s = some (.float .f64)) (hd : P.underlying d = some (.int k)) (w : World) (h : toIO k x = some n) :
    (convert s d (.float .f64 x)).run P w = .ok (.int k n) w := by
  obtain ⟨rfl, hx, h1, h2, rfl⟩ := toIO_spec h
  exact w_toInt w s d (by rw [hs]; rfl) hd hx h1 h2
end

/-! ### functions without a body -/
theorem integral_num (name : String) (way : Ieee.Toward) (x : Nat) {s : Bool} {m : Nat} {i : Int} (h : FloatKind.f64.decode x = .number s m i) :
    Extern.MathFloor.toIntegral name way #[.float .f64 x] = pure (.float .f64 (FloatKind.f64.encode ((Ieee.Datum.number s m i).integral way))) := by
  have e : Extern.MathFloor.toIntegral name way #[.float .f64 x] = (match FloatKind.f64.decode x with
    | .nan s t =>
      if FloatKind.f64.format.quiet t = t then pure (.float .f64 x) else do
      let kept ← choose (.extern "math.Floor,Ceil,Trunc,RoundToEven.signallingNaN kept" 2)
      pure (.float .f64 (if kept == 1 then x else FloatKind.f64.encode (.nan s (FloatKind.f64.format.quiet t))))
    | d => pure (.float .f64 (FloatKind.f64.encode (d.integral way)))) := rfl
  rw [e, h]
theorem sqrt_some (x r : Nat) (h : FloatKind.f64.format.sqrt x = some r) : Extern.MathSqrt.sqrt #[.float .f64 x] = pure (.float .f64 r) := by
  have e : Extern.MathSqrt.sqrt #[.float .f64 x] = (match FloatKind.f64.format.sqrt x with
    | some r => pure (.float .f64 r)
    | none => do pure (.float .f64 (← choose (.nanBits .f64 x x)))) := rfl
  rw [e, h]
theorem r_trunc {P : Program} (w : World) {x r : Nat} (h : truncO x = some r) : (callFunc 199 #[.float .f64 x]).run Tryd.prog w = .ok (.value (.float .f64 r)) w := by
  unfold truncO at h
  split at h
  · rename_i hx
    obtain rfl := Option.some.inj h
    rw [run_callFunc_extern (e := Extern.MathFloor.toIntegral "math.archTrunc" .zero) Tryd.func199 (by kernel_rfl) (by kernel_rfl) (by kernel_rfl) (by kernel_rfl)]
    obtain ⟨s, m, i, h, _⟩ := fin_num hx
    have h' : FloatKind.f64.decode x = .number s m i := h
    rw [integral_num _ _ _ h']
    unfold ftrunc
    rw [h]; rfl
  · cases h
theorem r_floor {P : Program} (w : World) {x r : Nat} (h : floorO x = some r) : (callFunc 145 #[.float .f64 x]).run Tryd.prog w = .ok (.value (.float .f64 r)) w := by
  unfold floorO at h
  split at h
  · rename_i hx
    obtain rfl := Option.some.inj h
    rw [run_callFunc_extern (e := Extern.MathFloor.toIntegral "math.archFloor" .down) Tryd.func145 (by kernel_rfl) (by kernel_rfl) (by kernel_rfl) (by kernel_rfl)]
    obtain ⟨s, m, i, h, _⟩ := fin_num hx
    have h' : FloatKind.f64.decode x = .number s m i := h
    rw [integral_num _ _ _ h']
    unfold ffloor
    rw [h]; rfl
  · cases h
theorem x_bits64 (x : Nat) (w : World) : (callFunc 198 #[.float .f64 x]).run Tryd.prog w = .ok (.value (.int .u64 x)) w := by
  rw [run_callFunc_extern (e := Extern.MathFloatBits.float64bits) Tryd.func198 (by kernel_rfl) (by kernel_rfl) (by kernel_rfl) (by kernel_rfl)]
  rfl
theorem x_from64 (n : Int) (w : World) : (callFunc 197 #[.int .u64 n]).run Tryd.prog w = .ok (.value (.float .f64 n.toNat)) w := by
  rw [run_callFunc_extern (e := Extern.MathFloatBits.float64frombits) Tryd.func197 (by kernel_rfl) (by kernel_rfl) (by kernel_rfl) (by kernel_rfl)]
  rfl
theorem x_bits32 (x : Nat) (w : World) : (callFunc 137 #[.float .f32 x]).run Tryd.prog w = .ok (.value (.int .u32 x)) w := by
  rw [run_callFunc_extern (e := Extern.MathFloatBits.float32bits) Tryd.func137 (by kernel_rfl) (by kernel_rfl) (by kernel_rfl) (by kernel_rfl)]
  rfl
theorem x_from32 (n : Int) (w : World) : (callFunc 129 #[.int .u32 n]).run Tryd.prog w = .ok (.value (.float .f32 n.toNat)) w := by
  rw [run_callFunc_extern (e := Extern.MathFloatBits.float32frombits) Tryd.func129 (by kernel_rfl) (by kernel_rfl) (by kernel_rfl) (by kernel_rfl)]
  rfl
theorem run_store_float (P : Program) (w : World) (a : Addr) (m : Mode) (k : FloatKind) (b : Nat) : (store a (.float k b) m).run P w = stored P w a (.float k b) m := run_store P w a _ m rfl
end FL
end Go.Proofs.YtcfpfbaeagkgmaaDoor

/-! ### floats as elements of rows -/
namespace Go.Proofs.YtcfpfbaeagkgmaaDoorW.PrintWords
namespace Kd
def flt (k : FloatKind) : Kd Nat := scalar (Value.float k) (fun _ => rfl)
theorem heap_flt (k : FloatKind) : Heap (Kd.flt k) := ⟨fun _ h => h⟩
section
variable {w : World} {A : Option Addr} {n : Nat}
theorem at_flt {k : FloatKind} {xs : List Nat} (h : (Kd.flt k).C w A n xs) (i : Int) (h0 : 0 ≤ i) (h1 : i < n) : ∃ ad, A = some ad ∧ w.cell? (ad.add i.toNat) = some (.float k (rdOf (0 : Nat) xs i)) :=
  ReadsOf.at_ (reads_of_C (enc := Value.float k) (d := (0 : Nat)) (h1 := fun _ => rfl) h) i h0 h1
theorem foot_flt {k : FloatKind} {ad : Addr} {l : List Nat} (h : (Kd.flt k).C w (some ad) n l) (i : Int) (h0 : 0 ≤ i) (h1 : i < n) : w.cell? (ad.add i.toNat) = some (.float k (rdOf (0 : Nat) l i)) := by
  obtain ⟨ad', he, hc⟩ := at_flt h i h0 h1
  injection he with he
  subst he
  exact hc
end
end Kd
end Go.Proofs.YtcfpfbaeagkgmaaDoorW.PrintWords
