/- Walks of Go functions, laid by this session's own program: for each function its Lean form (some r: Go returns r; none: not told) and the proof that the call returns what the form tells. -/
import Derived.Test.YtcfpfbaeagkgmaaDoorPKm3
set_option maxRecDepth 100000
namespace Go.Proofs.YtcfpfbaeagkgmaaDoor.PK
open Go.Proofs.YtcfpfbaeagkgmaaDoor
attribute [local go_sem] w_neg64 w_neg32 w_eq64 w_lt64 w_gt64 w_eq32 w_lt32 w_gt32 w_ne64 w_ne32 w_ge64 w_le64 w_ge32 w_le32 w_ofI64 w_ofI32 FL.run_store_float FL.x_bits64 FL.x_from64 FL.x_bits32 FL.x_from32
open Go.RowKit Go.Proofs.YtcfpfbaeagkgmaaDoorW.PrintWords Go.Proofs.YtcfpfbaeagkgmaaDoorW.PrintLast Go.Proofs.YtcfpfbaeagkgmaaDoorW.PrintMore
attribute [local go_sem] max2_int min2_int max_two min_two max_three min_three max_four min_four   -- for this text's walks alone
set_option linter.unusedVariables false
set_option linter.unusedSimpArgs false

/-! ### laws_FnKeys: function 3 -/
mutual
def laws_FnKeys.j0 : Nat → List Int → Int → ByteArray → Bool → Nat → Nat → Nat → Nat → Nat → Nat → Option (Bool)
  | 0, _, _, _, _, _, _, _, _, _, _ => none
  | k + 1, x1, x6, x7, x128, x203000, x203001, x217000, x217001, x218000, x218001 => if x128 = true then (some false) else ((impl_KeyOf.f k x217000 x217001 x6).bind fun bt225 => ((impl_KeyOf.f k x218000 x218001 x6).bind fun bt227 => (if bt225.2 = true then (if bt227.2 = true then (if bt225.1.toList = x7.toList then (laws_FnKeys.j1 k x1 x6 x7 (bt227.1.toList != x7.toList) x203000 x203001) else (laws_FnKeys.j1 k x1 x6 x7 true x203000 x203001)) else (laws_FnKeys.j1 k x1 x6 x7 true x203000 x203001)) else (laws_FnKeys.j1 k x1 x6 x7 true x203000 x203001))))
def laws_FnKeys.j1 : Nat → List Int → Int → ByteArray → Bool → Nat → Nat → Option (Bool)
  | 0, _, _, _, _, _, _ => none
  | k + 1, x1, x6, x7, x156, x203000, x203001 => if x156 = true then (some false) else ((laws_b10At.f x1 1 21).bind fun t229 => ((laws_b10At.f x1 2 7).bind fun t230 => ((spec_KeyBeside.f k x7 (wrap64 (t229 - 10)) (wrap64 (t230 - 3))).bind fun bt231 => ((impl_KeyBeside.f k x7 (wrap64 (t229 - 10)) (wrap64 (t230 - 3))).bind fun bt233 => (if (bt233.2 != bt231.2) = true then (some false) else (if bt233.2 = true then ((impl_KeyBeside.f k bt233.1 (wrap64 (-(wrap64 (t229 - 10)))) (wrap64 (-(wrap64 (t230 - 3))))).bind fun bt235 => (if bt235.2 = true then (if bt235.1.toList = x7.toList then (laws_FnKeys.j2 k x6 x7 x203000 x203001) else (some false)) else (some false))) else (laws_FnKeys.j2 k x6 x7 x203000 x203001)))))))
def laws_FnKeys.j2 : Nat → Int → ByteArray → Nat → Nat → Option (Bool)
  | 0, _, _, _, _ => none
  | k + 1, x6, x7, x203000, x203001 => (impl_KeyParent.f x7).bind fun bt237 => (if x6 = 0 then (some (!bt237.2)) else ((impl_KeyOf.f k x203000 x203001 (wrap64 (x6 - 1))).bind fun bt239 => (if bt237.2 = true then (if bt239.2 = true then (some (bt237.1.toList == bt239.1.toList)) else (some false)) else (some false))))
end
def laws_FnKeys.f (k : Nat) (l0 : List Int) (l1 : List Int) : Option (Bool) := (laws_b10Long.f l0 l1).bind fun t199 => (if t199 = true then (some true) else ((spec_B10Place.f l0).bind fun bt200 => ((laws_b10At.f l1 0 21).bind fun t203 => ((impl_KeyOf.f k bt200.1 bt200.2 t203).bind fun bt204 => ((impl_KeyTile.f k bt204.1).bind fun bt206 => ((impl_TileKey.f k t203 bt206.1 bt206.2.1).bind fun bt209 => ((impl_KeyBox.f k bt204.1).bind fun bt211 => (if bt204.2 = true then (if bt206.2.2 = true then (if bt209.2 = true then (if bt211.2.2.2.2 = true then ((impl_IsKey.f bt204.1).bind fun t218 => (if t218 = true then (if (bt204.1.size : Int) = t203 then (if bt209.1.toList = bt204.1.toList then (if (FL.flt FL.S bt200.1 bt211.1) = true then (laws_FnKeys.j0 k l1 t203 bt204.1 true bt200.1 bt200.2 bt211.1 bt211.2.1 bt211.2.2.1 bt211.2.2.2.1) else (if (FL.flt FL.S bt200.2 bt211.2.1) = true then (laws_FnKeys.j0 k l1 t203 bt204.1 true bt200.1 bt200.2 bt211.1 bt211.2.1 bt211.2.2.1 bt211.2.2.2.1) else ((FL.cvtO bt200.1).bind fun t219 => ((FL.cvtO bt211.2.2.1).bind fun t220 => ((FL.D.add t220 4517329193108106637).bind fun t221 => (if (FL.fgt FL.D t219 t221) = true then (laws_FnKeys.j0 k l1 t203 bt204.1 true bt200.1 bt200.2 bt211.1 bt211.2.1 bt211.2.2.1 bt211.2.2.2.1) else ((FL.cvtO bt200.2).bind fun t222 => ((FL.cvtO bt211.2.2.2.1).bind fun t223 => ((FL.D.add t223 4517329193108106637).bind fun t224 => (laws_FnKeys.j0 k l1 t203 bt204.1 (FL.fgt FL.D t222 t224) bt200.1 bt200.2 bt211.1 bt211.2.1 bt211.2.2.1 bt211.2.2.2.1)))))))))) else (laws_FnKeys.j0 k l1 t203 bt204.1 true bt200.1 bt200.2 bt211.1 bt211.2.1 bt211.2.2.1 bt211.2.2.2.1)) else (laws_FnKeys.j0 k l1 t203 bt204.1 true bt200.1 bt200.2 bt211.1 bt211.2.1 bt211.2.2.1 bt211.2.2.2.1)) else (laws_FnKeys.j0 k l1 t203 bt204.1 true bt200.1 bt200.2 bt211.1 bt211.2.1 bt211.2.2.1 bt211.2.2.2.1))) else (laws_FnKeys.j0 k l1 t203 bt204.1 true bt200.1 bt200.2 bt211.1 bt211.2.1 bt211.2.2.1 bt211.2.2.2.1)) else (laws_FnKeys.j0 k l1 t203 bt204.1 true bt200.1 bt200.2 bt211.1 bt211.2.1 bt211.2.2.1 bt211.2.2.2.1)) else (laws_FnKeys.j0 k l1 t203 bt204.1 true bt200.1 bt200.2 bt211.1 bt211.2.1 bt211.2.2.1 bt211.2.2.2.1)) else (laws_FnKeys.j0 k l1 t203 bt204.1 true bt200.1 bt200.2 bt211.1 bt211.2.1 bt211.2.2.1 bt211.2.2.2.1)))))))))
theorem laws_FnKeys.mono_l : ∀ k, (∀ y0 y1 y2 y3 y4 y5 y6 y7 y8 y9, LeO (laws_FnKeys.j0 k y0 y1 y2 y3 y4 y5 y6 y7 y8 y9) (laws_FnKeys.j0 (k + 1) y0 y1 y2 y3 y4 y5 y6 y7 y8 y9)) ∧ (∀ y0 y1 y2 y3 y4 y5, LeO (laws_FnKeys.j1 k y0 y1 y2 y3 y4 y5) (laws_FnKeys.j1 (k + 1) y0 y1 y2 y3 y4 y5)) ∧ (∀ y0 y1 y2 y3, LeO (laws_FnKeys.j2 k y0 y1 y2 y3) (laws_FnKeys.j2 (k + 1) y0 y1 y2 y3))
  | 0 => ⟨fun _ _ _ _ _ _ _ _ _ _ r h => by simp [laws_FnKeys.j0] at h, fun _ _ _ _ _ _ r h => by simp [laws_FnKeys.j1] at h, fun _ _ _ _ r h => by simp [laws_FnKeys.j2] at h⟩
  | k + 1 => by
    obtain ⟨ih0, ih1, ih2⟩ := laws_FnKeys.mono_l k
    refine ⟨?_, ?_, ?_⟩
    · intro y0 y1 y2 y3 y4 y5 y6 y7 y8 y9
      unfold laws_FnKeys.j0
      repeat' first
      | (with_reducible exact ih0 _ _ _ _ _ _ _ _ _ _)
      | (with_reducible exact ih1 _ _ _ _ _ _)
      | (with_reducible exact ih2 _ _ _ _)
      | (with_reducible exact impl_KeyBeside.mono _ _ _ _)
      | (with_reducible exact impl_KeyBox.mono _ _)
      | (with_reducible exact impl_KeyOf.mono _ _ _ _)
      | (with_reducible exact impl_KeyTile.mono _ _)
      | (with_reducible exact impl_TileKey.mono _ _ _ _)
      | (with_reducible exact spec_KeyBeside.mono _ _ _ _)
      | (with_reducible exact LeO.refl _)
      | (with_reducible exact LeO.none _)
      | (with_reducible refine LeO.ite ?_ ?_)
      | (with_reducible refine LeO.bind ?_ (fun _ => ?_))
      | exact ih0 _ _ _ _ _ _ _ _ _ _
      | exact ih1 _ _ _ _ _ _
      | exact ih2 _ _ _ _
      | exact impl_KeyBeside.mono _ _ _ _
      | exact impl_KeyBox.mono _ _
      | exact impl_KeyOf.mono _ _ _ _
      | exact impl_KeyTile.mono _ _
      | exact impl_TileKey.mono _ _ _ _
      | exact spec_KeyBeside.mono _ _ _ _
      | exact LeO.none _
      | refine LeO.ite ?_ ?_
      | refine LeO.bind ?_ (fun _ => ?_)
    · intro y0 y1 y2 y3 y4 y5
      unfold laws_FnKeys.j1
      repeat' first
      | (with_reducible exact ih0 _ _ _ _ _ _ _ _ _ _)
      | (with_reducible exact ih1 _ _ _ _ _ _)
      | (with_reducible exact ih2 _ _ _ _)
      | (with_reducible exact impl_KeyBeside.mono _ _ _ _)
      | (with_reducible exact impl_KeyBox.mono _ _)
      | (with_reducible exact impl_KeyOf.mono _ _ _ _)
      | (with_reducible exact impl_KeyTile.mono _ _)
      | (with_reducible exact impl_TileKey.mono _ _ _ _)
      | (with_reducible exact spec_KeyBeside.mono _ _ _ _)
      | (with_reducible exact LeO.refl _)
      | (with_reducible exact LeO.none _)
      | (with_reducible refine LeO.ite ?_ ?_)
      | (with_reducible refine LeO.bind ?_ (fun _ => ?_))
      | exact ih0 _ _ _ _ _ _ _ _ _ _
      | exact ih1 _ _ _ _ _ _
      | exact ih2 _ _ _ _
      | exact impl_KeyBeside.mono _ _ _ _
      | exact impl_KeyBox.mono _ _
      | exact impl_KeyOf.mono _ _ _ _
      | exact impl_KeyTile.mono _ _
      | exact impl_TileKey.mono _ _ _ _
      | exact spec_KeyBeside.mono _ _ _ _
      | exact LeO.none _
      | refine LeO.ite ?_ ?_
      | refine LeO.bind ?_ (fun _ => ?_)
    · intro y0 y1 y2 y3
      unfold laws_FnKeys.j2
      repeat' first
      | (with_reducible exact ih0 _ _ _ _ _ _ _ _ _ _)
      | (with_reducible exact ih1 _ _ _ _ _ _)
      | (with_reducible exact ih2 _ _ _ _)
      | (with_reducible exact impl_KeyBeside.mono _ _ _ _)
      | (with_reducible exact impl_KeyBox.mono _ _)
      | (with_reducible exact impl_KeyOf.mono _ _ _ _)
      | (with_reducible exact impl_KeyTile.mono _ _)
      | (with_reducible exact impl_TileKey.mono _ _ _ _)
      | (with_reducible exact spec_KeyBeside.mono _ _ _ _)
      | (with_reducible exact LeO.refl _)
      | (with_reducible exact LeO.none _)
      | (with_reducible refine LeO.ite ?_ ?_)
      | (with_reducible refine LeO.bind ?_ (fun _ => ?_))
      | exact ih0 _ _ _ _ _ _ _ _ _ _
      | exact ih1 _ _ _ _ _ _
      | exact ih2 _ _ _ _
      | exact impl_KeyBeside.mono _ _ _ _
      | exact impl_KeyBox.mono _ _
      | exact impl_KeyOf.mono _ _ _ _
      | exact impl_KeyTile.mono _ _
      | exact impl_TileKey.mono _ _ _ _
      | exact spec_KeyBeside.mono _ _ _ _
      | exact LeO.none _
      | refine LeO.ite ?_ ?_
      | refine LeO.bind ?_ (fun _ => ?_)
theorem laws_FnKeys.mono : ∀ a0 a1 k, LeO (laws_FnKeys.f k a0 a1) (laws_FnKeys.f (k + 1) a0 a1) := by
  intro a0 a1 k
  obtain ⟨ih0, ih1, ih2⟩ := laws_FnKeys.mono_l k
  unfold laws_FnKeys.f
  repeat' first
      | (with_reducible exact ih0 _ _ _ _ _ _ _ _ _ _)
      | (with_reducible exact ih1 _ _ _ _ _ _)
      | (with_reducible exact ih2 _ _ _ _)
      | (with_reducible exact impl_KeyBeside.mono _ _ _ _)
      | (with_reducible exact impl_KeyBox.mono _ _)
      | (with_reducible exact impl_KeyOf.mono _ _ _ _)
      | (with_reducible exact impl_KeyTile.mono _ _)
      | (with_reducible exact impl_TileKey.mono _ _ _ _)
      | (with_reducible exact spec_KeyBeside.mono _ _ _ _)
      | (with_reducible exact LeO.refl _)
      | (with_reducible exact LeO.none _)
      | (with_reducible refine LeO.ite ?_ ?_)
      | (with_reducible refine LeO.bind ?_ (fun _ => ?_))
      | exact ih0 _ _ _ _ _ _ _ _ _ _
      | exact ih1 _ _ _ _ _ _
      | exact ih2 _ _ _ _
      | exact impl_KeyBeside.mono _ _ _ _
      | exact impl_KeyBox.mono _ _
      | exact impl_KeyOf.mono _ _ _ _
      | exact impl_KeyTile.mono _ _
      | exact impl_TileKey.mono _ _ _ _
      | exact spec_KeyBeside.mono _ _ _ _
      | exact LeO.none _
      | refine LeO.ite ?_ ?_
      | refine LeO.bind ?_ (fun _ => ?_)
set_option maxHeartbeats 8000000 in
set_option maxRecDepth 100000 in
theorem laws_FnKeys.calls (k : Nat) (A0 : Option Addr) (c0 : Nat) (l0 : List Int) (A1 : Option Addr) (c1 : Nat) (l1 : List Int) (r : Bool) (w : World) (hr0 : Kd.C (Kd.int .u8) w A0 l0.length l0) (hc0 : l0.length ≤ c0) (hr1 : Kd.C (Kd.int .u8) w A1 l1.length l1) (hc1 : l1.length ≤ c1) (h : laws_FnKeys.f k l0 l1 = some r) :
    Calls Tryd.prog 3 #[.slice A0 l0.length c0, .slice A1 l1.length c1] w fun e w' => e = .returned (.bool r) ∧ Below w.heap.size w w' := by
  have hu26 := Tryd.underlying26
  have HR0 := Aside0.mk hr0
  have HC0 := Aside0.mk hc0
  clear hr0 hc0
  have HR1 := Aside0.mk hr1
  have HC1 := Aside0.mk hc1
  clear hr1 hc1
  have HB := Aside0.mk (Below.refl w.heap.size w)
  have H : ((laws_b10Long.f l0 l1).bind fun t199 => (if t199 = true then (some true) else ((spec_B10Place.f l0).bind fun bt200 => ((laws_b10At.f l1 0 21).bind fun t203 => ((impl_KeyOf.f k bt200.1 bt200.2 t203).bind fun bt204 => ((impl_KeyTile.f k bt204.1).bind fun bt206 => ((impl_TileKey.f k t203 bt206.1 bt206.2.1).bind fun bt209 => ((impl_KeyBox.f k bt204.1).bind fun bt211 => (if bt204.2 = true then (if bt206.2.2 = true then (if bt209.2 = true then (if bt211.2.2.2.2 = true then ((impl_IsKey.f bt204.1).bind fun t218 => (if t218 = true then (if (bt204.1.size : Int) = t203 then (if bt209.1.toList = bt204.1.toList then (if (FL.flt FL.S bt200.1 bt211.1) = true then (laws_FnKeys.j0 k l1 t203 bt204.1 true bt200.1 bt200.2 bt211.1 bt211.2.1 bt211.2.2.1 bt211.2.2.2.1) else (if (FL.flt FL.S bt200.2 bt211.2.1) = true then (laws_FnKeys.j0 k l1 t203 bt204.1 true bt200.1 bt200.2 bt211.1 bt211.2.1 bt211.2.2.1 bt211.2.2.2.1) else ((FL.cvtO bt200.1).bind fun t219 => ((FL.cvtO bt211.2.2.1).bind fun t220 => ((FL.D.add t220 4517329193108106637).bind fun t221 => (if (FL.fgt FL.D t219 t221) = true then (laws_FnKeys.j0 k l1 t203 bt204.1 true bt200.1 bt200.2 bt211.1 bt211.2.1 bt211.2.2.1 bt211.2.2.2.1) else ((FL.cvtO bt200.2).bind fun t222 => ((FL.cvtO bt211.2.2.2.1).bind fun t223 => ((FL.D.add t223 4517329193108106637).bind fun t224 => (laws_FnKeys.j0 k l1 t203 bt204.1 (FL.fgt FL.D t222 t224) bt200.1 bt200.2 bt211.1 bt211.2.1 bt211.2.2.1 bt211.2.2.2.1)))))))))) else (laws_FnKeys.j0 k l1 t203 bt204.1 true bt200.1 bt200.2 bt211.1 bt211.2.1 bt211.2.2.1 bt211.2.2.2.1)) else (laws_FnKeys.j0 k l1 t203 bt204.1 true bt200.1 bt200.2 bt211.1 bt211.2.1 bt211.2.2.1 bt211.2.2.2.1)) else (laws_FnKeys.j0 k l1 t203 bt204.1 true bt200.1 bt200.2 bt211.1 bt211.2.1 bt211.2.2.1 bt211.2.2.2.1))) else (laws_FnKeys.j0 k l1 t203 bt204.1 true bt200.1 bt200.2 bt211.1 bt211.2.1 bt211.2.2.1 bt211.2.2.2.1)) else (laws_FnKeys.j0 k l1 t203 bt204.1 true bt200.1 bt200.2 bt211.1 bt211.2.1 bt211.2.2.1 bt211.2.2.2.1)) else (laws_FnKeys.j0 k l1 t203 bt204.1 true bt200.1 bt200.2 bt211.1 bt211.2.1 bt211.2.2.1 bt211.2.2.2.1)) else (laws_FnKeys.j0 k l1 t203 bt204.1 true bt200.1 bt200.2 bt211.1 bt211.2.1 bt211.2.2.1 bt211.2.2.2.1)))))))))) = some r := h
  clear h
  replace H := Option.bind_eq_some_iff.mp H
  obtain ⟨t199, A30, H⟩ := H
  replace H : (if t199 = true then (some true) else ((spec_B10Place.f l0).bind fun bt200 => ((laws_b10At.f l1 0 21).bind fun t203 => ((impl_KeyOf.f k bt200.1 bt200.2 t203).bind fun bt204 => ((impl_KeyTile.f k bt204.1).bind fun bt206 => ((impl_TileKey.f k t203 bt206.1 bt206.2.1).bind fun bt209 => ((impl_KeyBox.f k bt204.1).bind fun bt211 => (if bt204.2 = true then (if bt206.2.2 = true then (if bt209.2 = true then (if bt211.2.2.2.2 = true then ((impl_IsKey.f bt204.1).bind fun t218 => (if t218 = true then (if (bt204.1.size : Int) = t203 then (if bt209.1.toList = bt204.1.toList then (if (FL.flt FL.S bt200.1 bt211.1) = true then (laws_FnKeys.j0 k l1 t203 bt204.1 true bt200.1 bt200.2 bt211.1 bt211.2.1 bt211.2.2.1 bt211.2.2.2.1) else (if (FL.flt FL.S bt200.2 bt211.2.1) = true then (laws_FnKeys.j0 k l1 t203 bt204.1 true bt200.1 bt200.2 bt211.1 bt211.2.1 bt211.2.2.1 bt211.2.2.2.1) else ((FL.cvtO bt200.1).bind fun t219 => ((FL.cvtO bt211.2.2.1).bind fun t220 => ((FL.D.add t220 4517329193108106637).bind fun t221 => (if (FL.fgt FL.D t219 t221) = true then (laws_FnKeys.j0 k l1 t203 bt204.1 true bt200.1 bt200.2 bt211.1 bt211.2.1 bt211.2.2.1 bt211.2.2.2.1) else ((FL.cvtO bt200.2).bind fun t222 => ((FL.cvtO bt211.2.2.2.1).bind fun t223 => ((FL.D.add t223 4517329193108106637).bind fun t224 => (laws_FnKeys.j0 k l1 t203 bt204.1 (FL.fgt FL.D t222 t224) bt200.1 bt200.2 bt211.1 bt211.2.1 bt211.2.2.1 bt211.2.2.2.1)))))))))) else (laws_FnKeys.j0 k l1 t203 bt204.1 true bt200.1 bt200.2 bt211.1 bt211.2.1 bt211.2.2.1 bt211.2.2.2.1)) else (laws_FnKeys.j0 k l1 t203 bt204.1 true bt200.1 bt200.2 bt211.1 bt211.2.1 bt211.2.2.1 bt211.2.2.2.1)) else (laws_FnKeys.j0 k l1 t203 bt204.1 true bt200.1 bt200.2 bt211.1 bt211.2.1 bt211.2.2.1 bt211.2.2.2.1))) else (laws_FnKeys.j0 k l1 t203 bt204.1 true bt200.1 bt200.2 bt211.1 bt211.2.1 bt211.2.2.1 bt211.2.2.2.1)) else (laws_FnKeys.j0 k l1 t203 bt204.1 true bt200.1 bt200.2 bt211.1 bt211.2.1 bt211.2.2.1 bt211.2.2.2.1)) else (laws_FnKeys.j0 k l1 t203 bt204.1 true bt200.1 bt200.2 bt211.1 bt211.2.1 bt211.2.2.1 bt211.2.2.2.1)) else (laws_FnKeys.j0 k l1 t203 bt204.1 true bt200.1 bt200.2 bt211.1 bt211.2.1 bt211.2.2.1 bt211.2.2.2.1))))))))) = some r := H
  have A3 := Aside0.mk A30
  clear A30
  by_cases c4 : t199 = true
  · subst c4
    have H1 : (some true) = some r := by rw [if_pos rfl] at H; exact H
    clear H
    have H := H1
    clear H1
    as_aux_lemma =>
      obtain rfl := Option.some.inj H
      go_enter Tryd.func3, Tryd.ntmps3
      go_wp2_with (first | ((with_reducible refine gate_callee (f := 8) rfl ?_); refine goesL_ (some 35) rfl rfl Tryd.func8 (by kernel_rfl) rfl #[.slice A0 l0.length c0, .slice A1 l1.length c1] rfl (by (try simp only [List.map_toArray, List.map_cons, List.map_nil]); first | done | rfl | (simp only [List.length_drop, List.length_take]; rfl)) ?_; (with_reducible refine (laws_b10Long.calls _ _ l0 _ _ l1 true _ ?side1 ?side2 ?side3 ?side4 A3.out).mono ?_); (case side1 => repeat (first | exact HR0.out | (with_reducible refine Kd.C_alloc ?_ _) | (with_reducible refine Kd.C_drewN ?_ _) | (with_reducible refine Kd.C_drew ?_))); (case side2 => exact HC0.out); (case side3 => repeat (first | exact HR1.out | (with_reducible refine Kd.C_alloc ?_ _) | (with_reducible refine Kd.C_drewN ?_ _) | (with_reducible refine Kd.C_drew ?_))); (case side4 => exact HC1.out); rintro e w' ⟨rfl, ⟨nd, rfl⟩⟩; refine ⟨_, rfl, ?_⟩))
      go_ret
      exact ⟨by first | rfl | (simp [errW_none, errW_some] <;> rfl) | (simp [*, errW_none, errW_some] <;> rfl), by repeat (first | (with_reducible first | exact HB.out | apply below_alloc | apply pw_below_drewN | apply below_drew1) | exact HB.out)⟩
  · replace c4 := Bool.eq_false_iff.mpr c4
    subst c4
    have H1 : ((spec_B10Place.f l0).bind fun bt200 => ((laws_b10At.f l1 0 21).bind fun t203 => ((impl_KeyOf.f k bt200.1 bt200.2 t203).bind fun bt204 => ((impl_KeyTile.f k bt204.1).bind fun bt206 => ((impl_TileKey.f k t203 bt206.1 bt206.2.1).bind fun bt209 => ((impl_KeyBox.f k bt204.1).bind fun bt211 => (if bt204.2 = true then (if bt206.2.2 = true then (if bt209.2 = true then (if bt211.2.2.2.2 = true then ((impl_IsKey.f bt204.1).bind fun t218 => (if t218 = true then (if (bt204.1.size : Int) = t203 then (if bt209.1.toList = bt204.1.toList then (if (FL.flt FL.S bt200.1 bt211.1) = true then (laws_FnKeys.j0 k l1 t203 bt204.1 true bt200.1 bt200.2 bt211.1 bt211.2.1 bt211.2.2.1 bt211.2.2.2.1) else (if (FL.flt FL.S bt200.2 bt211.2.1) = true then (laws_FnKeys.j0 k l1 t203 bt204.1 true bt200.1 bt200.2 bt211.1 bt211.2.1 bt211.2.2.1 bt211.2.2.2.1) else ((FL.cvtO bt200.1).bind fun t219 => ((FL.cvtO bt211.2.2.1).bind fun t220 => ((FL.D.add t220 4517329193108106637).bind fun t221 => (if (FL.fgt FL.D t219 t221) = true then (laws_FnKeys.j0 k l1 t203 bt204.1 true bt200.1 bt200.2 bt211.1 bt211.2.1 bt211.2.2.1 bt211.2.2.2.1) else ((FL.cvtO bt200.2).bind fun t222 => ((FL.cvtO bt211.2.2.2.1).bind fun t223 => ((FL.D.add t223 4517329193108106637).bind fun t224 => (laws_FnKeys.j0 k l1 t203 bt204.1 (FL.fgt FL.D t222 t224) bt200.1 bt200.2 bt211.1 bt211.2.1 bt211.2.2.1 bt211.2.2.2.1)))))))))) else (laws_FnKeys.j0 k l1 t203 bt204.1 true bt200.1 bt200.2 bt211.1 bt211.2.1 bt211.2.2.1 bt211.2.2.2.1)) else (laws_FnKeys.j0 k l1 t203 bt204.1 true bt200.1 bt200.2 bt211.1 bt211.2.1 bt211.2.2.1 bt211.2.2.2.1)) else (laws_FnKeys.j0 k l1 t203 bt204.1 true bt200.1 bt200.2 bt211.1 bt211.2.1 bt211.2.2.1 bt211.2.2.2.1))) else (laws_FnKeys.j0 k l1 t203 bt204.1 true bt200.1 bt200.2 bt211.1 bt211.2.1 bt211.2.2.1 bt211.2.2.2.1)) else (laws_FnKeys.j0 k l1 t203 bt204.1 true bt200.1 bt200.2 bt211.1 bt211.2.1 bt211.2.2.1 bt211.2.2.2.1)) else (laws_FnKeys.j0 k l1 t203 bt204.1 true bt200.1 bt200.2 bt211.1 bt211.2.1 bt211.2.2.1 bt211.2.2.2.1)) else (laws_FnKeys.j0 k l1 t203 bt204.1 true bt200.1 bt200.2 bt211.1 bt211.2.1 bt211.2.2.1 bt211.2.2.2.1)))))))) = some r := by rw [if_neg (show ¬ (false = true) by decide)] at H; exact H
    clear H
    have H := H1
    clear H1
    replace H := Option.bind_eq_some_iff.mp H
    obtain ⟨⟨t200, t201⟩, A50, H⟩ := H
    replace H : ((laws_b10At.f l1 0 21).bind fun t203 => ((impl_KeyOf.f k t200 t201 t203).bind fun bt204 => ((impl_KeyTile.f k bt204.1).bind fun bt206 => ((impl_TileKey.f k t203 bt206.1 bt206.2.1).bind fun bt209 => ((impl_KeyBox.f k bt204.1).bind fun bt211 => (if bt204.2 = true then (if bt206.2.2 = true then (if bt209.2 = true then (if bt211.2.2.2.2 = true then ((impl_IsKey.f bt204.1).bind fun t218 => (if t218 = true then (if (bt204.1.size : Int) = t203 then (if bt209.1.toList = bt204.1.toList then (if (FL.flt FL.S t200 bt211.1) = true then (laws_FnKeys.j0 k l1 t203 bt204.1 true t200 t201 bt211.1 bt211.2.1 bt211.2.2.1 bt211.2.2.2.1) else (if (FL.flt FL.S t201 bt211.2.1) = true then (laws_FnKeys.j0 k l1 t203 bt204.1 true t200 t201 bt211.1 bt211.2.1 bt211.2.2.1 bt211.2.2.2.1) else ((FL.cvtO t200).bind fun t219 => ((FL.cvtO bt211.2.2.1).bind fun t220 => ((FL.D.add t220 4517329193108106637).bind fun t221 => (if (FL.fgt FL.D t219 t221) = true then (laws_FnKeys.j0 k l1 t203 bt204.1 true t200 t201 bt211.1 bt211.2.1 bt211.2.2.1 bt211.2.2.2.1) else ((FL.cvtO t201).bind fun t222 => ((FL.cvtO bt211.2.2.2.1).bind fun t223 => ((FL.D.add t223 4517329193108106637).bind fun t224 => (laws_FnKeys.j0 k l1 t203 bt204.1 (FL.fgt FL.D t222 t224) t200 t201 bt211.1 bt211.2.1 bt211.2.2.1 bt211.2.2.2.1)))))))))) else (laws_FnKeys.j0 k l1 t203 bt204.1 true t200 t201 bt211.1 bt211.2.1 bt211.2.2.1 bt211.2.2.2.1)) else (laws_FnKeys.j0 k l1 t203 bt204.1 true t200 t201 bt211.1 bt211.2.1 bt211.2.2.1 bt211.2.2.2.1)) else (laws_FnKeys.j0 k l1 t203 bt204.1 true t200 t201 bt211.1 bt211.2.1 bt211.2.2.1 bt211.2.2.2.1))) else (laws_FnKeys.j0 k l1 t203 bt204.1 true t200 t201 bt211.1 bt211.2.1 bt211.2.2.1 bt211.2.2.2.1)) else (laws_FnKeys.j0 k l1 t203 bt204.1 true t200 t201 bt211.1 bt211.2.1 bt211.2.2.1 bt211.2.2.2.1)) else (laws_FnKeys.j0 k l1 t203 bt204.1 true t200 t201 bt211.1 bt211.2.1 bt211.2.2.1 bt211.2.2.2.1)) else (laws_FnKeys.j0 k l1 t203 bt204.1 true t200 t201 bt211.1 bt211.2.1 bt211.2.2.1 bt211.2.2.2.1))))))) = some r := H
    have A5 := Aside0.mk A50
    clear A50
    replace H := Option.bind_eq_some_iff.mp H
    obtain ⟨t203, A60, H⟩ := H
    replace H : ((impl_KeyOf.f k t200 t201 t203).bind fun bt204 => ((impl_KeyTile.f k bt204.1).bind fun bt206 => ((impl_TileKey.f k t203 bt206.1 bt206.2.1).bind fun bt209 => ((impl_KeyBox.f k bt204.1).bind fun bt211 => (if bt204.2 = true then (if bt206.2.2 = true then (if bt209.2 = true then (if bt211.2.2.2.2 = true then ((impl_IsKey.f bt204.1).bind fun t218 => (if t218 = true then (if (bt204.1.size : Int) = t203 then (if bt209.1.toList = bt204.1.toList then (if (FL.flt FL.S t200 bt211.1) = true then (laws_FnKeys.j0 k l1 t203 bt204.1 true t200 t201 bt211.1 bt211.2.1 bt211.2.2.1 bt211.2.2.2.1) else (if (FL.flt FL.S t201 bt211.2.1) = true then (laws_FnKeys.j0 k l1 t203 bt204.1 true t200 t201 bt211.1 bt211.2.1 bt211.2.2.1 bt211.2.2.2.1) else ((FL.cvtO t200).bind fun t219 => ((FL.cvtO bt211.2.2.1).bind fun t220 => ((FL.D.add t220 4517329193108106637).bind fun t221 => (if (FL.fgt FL.D t219 t221) = true then (laws_FnKeys.j0 k l1 t203 bt204.1 true t200 t201 bt211.1 bt211.2.1 bt211.2.2.1 bt211.2.2.2.1) else ((FL.cvtO t201).bind fun t222 => ((FL.cvtO bt211.2.2.2.1).bind fun t223 => ((FL.D.add t223 4517329193108106637).bind fun t224 => (laws_FnKeys.j0 k l1 t203 bt204.1 (FL.fgt FL.D t222 t224) t200 t201 bt211.1 bt211.2.1 bt211.2.2.1 bt211.2.2.2.1)))))))))) else (laws_FnKeys.j0 k l1 t203 bt204.1 true t200 t201 bt211.1 bt211.2.1 bt211.2.2.1 bt211.2.2.2.1)) else (laws_FnKeys.j0 k l1 t203 bt204.1 true t200 t201 bt211.1 bt211.2.1 bt211.2.2.1 bt211.2.2.2.1)) else (laws_FnKeys.j0 k l1 t203 bt204.1 true t200 t201 bt211.1 bt211.2.1 bt211.2.2.1 bt211.2.2.2.1))) else (laws_FnKeys.j0 k l1 t203 bt204.1 true t200 t201 bt211.1 bt211.2.1 bt211.2.2.1 bt211.2.2.2.1)) else (laws_FnKeys.j0 k l1 t203 bt204.1 true t200 t201 bt211.1 bt211.2.1 bt211.2.2.1 bt211.2.2.2.1)) else (laws_FnKeys.j0 k l1 t203 bt204.1 true t200 t201 bt211.1 bt211.2.1 bt211.2.2.1 bt211.2.2.2.1)) else (laws_FnKeys.j0 k l1 t203 bt204.1 true t200 t201 bt211.1 bt211.2.1 bt211.2.2.1 bt211.2.2.2.1)))))) = some r := H
    have A6 := Aside0.mk A60
    clear A60
    replace H := Option.bind_eq_some_iff.mp H
    obtain ⟨⟨t204, t205⟩, A70, H⟩ := H
    replace H : ((impl_KeyTile.f k t204).bind fun bt206 => ((impl_TileKey.f k t203 bt206.1 bt206.2.1).bind fun bt209 => ((impl_KeyBox.f k t204).bind fun bt211 => (if t205 = true then (if bt206.2.2 = true then (if bt209.2 = true then (if bt211.2.2.2.2 = true then ((impl_IsKey.f t204).bind fun t218 => (if t218 = true then (if (t204.size : Int) = t203 then (if bt209.1.toList = t204.toList then (if (FL.flt FL.S t200 bt211.1) = true then (laws_FnKeys.j0 k l1 t203 t204 true t200 t201 bt211.1 bt211.2.1 bt211.2.2.1 bt211.2.2.2.1) else (if (FL.flt FL.S t201 bt211.2.1) = true then (laws_FnKeys.j0 k l1 t203 t204 true t200 t201 bt211.1 bt211.2.1 bt211.2.2.1 bt211.2.2.2.1) else ((FL.cvtO t200).bind fun t219 => ((FL.cvtO bt211.2.2.1).bind fun t220 => ((FL.D.add t220 4517329193108106637).bind fun t221 => (if (FL.fgt FL.D t219 t221) = true then (laws_FnKeys.j0 k l1 t203 t204 true t200 t201 bt211.1 bt211.2.1 bt211.2.2.1 bt211.2.2.2.1) else ((FL.cvtO t201).bind fun t222 => ((FL.cvtO bt211.2.2.2.1).bind fun t223 => ((FL.D.add t223 4517329193108106637).bind fun t224 => (laws_FnKeys.j0 k l1 t203 t204 (FL.fgt FL.D t222 t224) t200 t201 bt211.1 bt211.2.1 bt211.2.2.1 bt211.2.2.2.1)))))))))) else (laws_FnKeys.j0 k l1 t203 t204 true t200 t201 bt211.1 bt211.2.1 bt211.2.2.1 bt211.2.2.2.1)) else (laws_FnKeys.j0 k l1 t203 t204 true t200 t201 bt211.1 bt211.2.1 bt211.2.2.1 bt211.2.2.2.1)) else (laws_FnKeys.j0 k l1 t203 t204 true t200 t201 bt211.1 bt211.2.1 bt211.2.2.1 bt211.2.2.2.1))) else (laws_FnKeys.j0 k l1 t203 t204 true t200 t201 bt211.1 bt211.2.1 bt211.2.2.1 bt211.2.2.2.1)) else (laws_FnKeys.j0 k l1 t203 t204 true t200 t201 bt211.1 bt211.2.1 bt211.2.2.1 bt211.2.2.2.1)) else (laws_FnKeys.j0 k l1 t203 t204 true t200 t201 bt211.1 bt211.2.1 bt211.2.2.1 bt211.2.2.2.1)) else (laws_FnKeys.j0 k l1 t203 t204 true t200 t201 bt211.1 bt211.2.1 bt211.2.2.1 bt211.2.2.2.1))))) = some r := H
    have A7 := Aside0.mk A70
    clear A70
    replace H := Option.bind_eq_some_iff.mp H
    obtain ⟨⟨t206, t207, t208⟩, A80, H⟩ := H
    replace H : ((impl_TileKey.f k t203 t206 t207).bind fun bt209 => ((impl_KeyBox.f k t204).bind fun bt211 => (if t205 = true then (if t208 = true then (if bt209.2 = true then (if bt211.2.2.2.2 = true then ((impl_IsKey.f t204).bind fun t218 => (if t218 = true then (if (t204.size : Int) = t203 then (if bt209.1.toList = t204.toList then (if (FL.flt FL.S t200 bt211.1) = true then (laws_FnKeys.j0 k l1 t203 t204 true t200 t201 bt211.1 bt211.2.1 bt211.2.2.1 bt211.2.2.2.1) else (if (FL.flt FL.S t201 bt211.2.1) = true then (laws_FnKeys.j0 k l1 t203 t204 true t200 t201 bt211.1 bt211.2.1 bt211.2.2.1 bt211.2.2.2.1) else ((FL.cvtO t200).bind fun t219 => ((FL.cvtO bt211.2.2.1).bind fun t220 => ((FL.D.add t220 4517329193108106637).bind fun t221 => (if (FL.fgt FL.D t219 t221) = true then (laws_FnKeys.j0 k l1 t203 t204 true t200 t201 bt211.1 bt211.2.1 bt211.2.2.1 bt211.2.2.2.1) else ((FL.cvtO t201).bind fun t222 => ((FL.cvtO bt211.2.2.2.1).bind fun t223 => ((FL.D.add t223 4517329193108106637).bind fun t224 => (laws_FnKeys.j0 k l1 t203 t204 (FL.fgt FL.D t222 t224) t200 t201 bt211.1 bt211.2.1 bt211.2.2.1 bt211.2.2.2.1)))))))))) else (laws_FnKeys.j0 k l1 t203 t204 true t200 t201 bt211.1 bt211.2.1 bt211.2.2.1 bt211.2.2.2.1)) else (laws_FnKeys.j0 k l1 t203 t204 true t200 t201 bt211.1 bt211.2.1 bt211.2.2.1 bt211.2.2.2.1)) else (laws_FnKeys.j0 k l1 t203 t204 true t200 t201 bt211.1 bt211.2.1 bt211.2.2.1 bt211.2.2.2.1))) else (laws_FnKeys.j0 k l1 t203 t204 true t200 t201 bt211.1 bt211.2.1 bt211.2.2.1 bt211.2.2.2.1)) else (laws_FnKeys.j0 k l1 t203 t204 true t200 t201 bt211.1 bt211.2.1 bt211.2.2.1 bt211.2.2.2.1)) else (laws_FnKeys.j0 k l1 t203 t204 true t200 t201 bt211.1 bt211.2.1 bt211.2.2.1 bt211.2.2.2.1)) else (laws_FnKeys.j0 k l1 t203 t204 true t200 t201 bt211.1 bt211.2.1 bt211.2.2.1 bt211.2.2.2.1)))) = some r := H
    have A8 := Aside0.mk A80
    clear A80
    replace H := Option.bind_eq_some_iff.mp H
    obtain ⟨⟨t209, t210⟩, A90, H⟩ := H
    replace H : ((impl_KeyBox.f k t204).bind fun bt211 => (if t205 = true then (if t208 = true then (if t210 = true then (if bt211.2.2.2.2 = true then ((impl_IsKey.f t204).bind fun t218 => (if t218 = true then (if (t204.size : Int) = t203 then (if t209.toList = t204.toList then (if (FL.flt FL.S t200 bt211.1) = true then (laws_FnKeys.j0 k l1 t203 t204 true t200 t201 bt211.1 bt211.2.1 bt211.2.2.1 bt211.2.2.2.1) else (if (FL.flt FL.S t201 bt211.2.1) = true then (laws_FnKeys.j0 k l1 t203 t204 true t200 t201 bt211.1 bt211.2.1 bt211.2.2.1 bt211.2.2.2.1) else ((FL.cvtO t200).bind fun t219 => ((FL.cvtO bt211.2.2.1).bind fun t220 => ((FL.D.add t220 4517329193108106637).bind fun t221 => (if (FL.fgt FL.D t219 t221) = true then (laws_FnKeys.j0 k l1 t203 t204 true t200 t201 bt211.1 bt211.2.1 bt211.2.2.1 bt211.2.2.2.1) else ((FL.cvtO t201).bind fun t222 => ((FL.cvtO bt211.2.2.2.1).bind fun t223 => ((FL.D.add t223 4517329193108106637).bind fun t224 => (laws_FnKeys.j0 k l1 t203 t204 (FL.fgt FL.D t222 t224) t200 t201 bt211.1 bt211.2.1 bt211.2.2.1 bt211.2.2.2.1)))))))))) else (laws_FnKeys.j0 k l1 t203 t204 true t200 t201 bt211.1 bt211.2.1 bt211.2.2.1 bt211.2.2.2.1)) else (laws_FnKeys.j0 k l1 t203 t204 true t200 t201 bt211.1 bt211.2.1 bt211.2.2.1 bt211.2.2.2.1)) else (laws_FnKeys.j0 k l1 t203 t204 true t200 t201 bt211.1 bt211.2.1 bt211.2.2.1 bt211.2.2.2.1))) else (laws_FnKeys.j0 k l1 t203 t204 true t200 t201 bt211.1 bt211.2.1 bt211.2.2.1 bt211.2.2.2.1)) else (laws_FnKeys.j0 k l1 t203 t204 true t200 t201 bt211.1 bt211.2.1 bt211.2.2.1 bt211.2.2.2.1)) else (laws_FnKeys.j0 k l1 t203 t204 true t200 t201 bt211.1 bt211.2.1 bt211.2.2.1 bt211.2.2.2.1)) else (laws_FnKeys.j0 k l1 t203 t204 true t200 t201 bt211.1 bt211.2.1 bt211.2.2.1 bt211.2.2.2.1))) = some r := H
    have A9 := Aside0.mk A90
    clear A90
    replace H := Option.bind_eq_some_iff.mp H
    obtain ⟨⟨t211, t212, t213, t214, t215⟩, A100, H⟩ := H
    replace H : (if t205 = true then (if t208 = true then (if t210 = true then (if t215 = true then ((impl_IsKey.f t204).bind fun t218 => (if t218 = true then (if (t204.size : Int) = t203 then (if t209.toList = t204.toList then (if (FL.flt FL.S t200 t211) = true then (laws_FnKeys.j0 k l1 t203 t204 true t200 t201 t211 t212 t213 t214) else (if (FL.flt FL.S t201 t212) = true then (laws_FnKeys.j0 k l1 t203 t204 true t200 t201 t211 t212 t213 t214) else ((FL.cvtO t200).bind fun t219 => ((FL.cvtO t213).bind fun t220 => ((FL.D.add t220 4517329193108106637).bind fun t221 => (if (FL.fgt FL.D t219 t221) = true then (laws_FnKeys.j0 k l1 t203 t204 true t200 t201 t211 t212 t213 t214) else ((FL.cvtO t201).bind fun t222 => ((FL.cvtO t214).bind fun t223 => ((FL.D.add t223 4517329193108106637).bind fun t224 => (laws_FnKeys.j0 k l1 t203 t204 (FL.fgt FL.D t222 t224) t200 t201 t211 t212 t213 t214)))))))))) else (laws_FnKeys.j0 k l1 t203 t204 true t200 t201 t211 t212 t213 t214)) else (laws_FnKeys.j0 k l1 t203 t204 true t200 t201 t211 t212 t213 t214)) else (laws_FnKeys.j0 k l1 t203 t204 true t200 t201 t211 t212 t213 t214))) else (laws_FnKeys.j0 k l1 t203 t204 true t200 t201 t211 t212 t213 t214)) else (laws_FnKeys.j0 k l1 t203 t204 true t200 t201 t211 t212 t213 t214)) else (laws_FnKeys.j0 k l1 t203 t204 true t200 t201 t211 t212 t213 t214)) else (laws_FnKeys.j0 k l1 t203 t204 true t200 t201 t211 t212 t213 t214)) = some r := H
    have A10 := Aside0.mk A100
    clear A100
    have HC11 := Aside0.mk H
    clear H
    go_enter Tryd.func3, Tryd.ntmps3
    go_upto_region 9 with (first | ((with_reducible refine gate_callee (f := 8) rfl ?_); refine goesL_ (some 35) rfl rfl Tryd.func8 (by kernel_rfl) rfl #[.slice A0 l0.length c0, .slice A1 l1.length c1] rfl (by (try simp only [List.map_toArray, List.map_cons, List.map_nil]); first | done | rfl | (simp only [List.length_drop, List.length_take]; rfl)) ?_; (with_reducible refine (laws_b10Long.calls _ _ l0 _ _ l1 false _ ?side1 ?side2 ?side3 ?side4 A3.out).mono ?_); (case side1 => repeat (first | exact HR0.out | (with_reducible refine Kd.C_alloc ?_ _) | (with_reducible refine Kd.C_drewN ?_ _) | (with_reducible refine Kd.C_drew ?_))); (case side2 => exact HC0.out); (case side3 => repeat (first | exact HR1.out | (with_reducible refine Kd.C_alloc ?_ _) | (with_reducible refine Kd.C_drewN ?_ _) | (with_reducible refine Kd.C_drew ?_))); (case side4 => exact HC1.out); rintro e w' ⟨rfl, ⟨nd, rfl⟩⟩; refine ⟨_, rfl, ?_⟩) | ((with_reducible refine gate_callee (f := 9) rfl ?_); refine goesL_ (some 37) rfl rfl Tryd.func9 (by kernel_rfl) rfl #[.slice A0 l0.length c0] rfl (by (try simp only [List.map_toArray, List.map_cons, List.map_nil]); first | done | rfl | (simp only [List.length_drop, List.length_take]; rfl)) ?_; (with_reducible refine (spec_B10Place.calls _ _ l0 t200 t201 _ ?side1 ?side2 A5.out).mono ?_); (case side1 => repeat (first | exact HR0.out | (with_reducible refine Kd.C_alloc ?_ _) | (with_reducible refine Kd.C_drewN ?_ _) | (with_reducible refine Kd.C_drew ?_))); (case side2 => exact HC0.out); rintro e w12 ⟨rfl, hb⟩; refine ⟨_, rfl, ?_⟩; have n0_ := Aside0.mk (below_step (by repeat (first | (with_reducible first | exact HB.out | apply below_alloc | apply pw_below_drewN | apply below_drew1) | exact HB.out)) hb); clear HB; have HB := n0_; clear n0_; (try clear hb); (try clear hb2); (try clear hk); (try clear hi)) | ((with_reducible refine gate_dst (N := 5) rfl ?_); (try (refine gate_guard (by rfl) ?_; dsimp only)); refine box_event ?hg (N := 5) ?hd (cs := #[.float .f32 0, .float .f32 0]) (t := 26) ?hr ?_; (case hd => rfl); (case hg => rfl); (case hr => first | (go_simp; done) | (go_simp; rfl)); intro gb202 hg w13 hbox hb; have n0_ := Aside0.mk (below_step (by repeat (first | (with_reducible first | exact HB.out | apply below_alloc | apply pw_below_drewN | apply below_drew1) | exact HB.out)) hb); have n1_ := Aside0.mk (hbox); have n2_ := Aside0.mk ((by rw [hg]; exact (below_size (by repeat (first | (with_reducible first | exact HB.out | apply below_alloc | apply pw_below_drewN | apply below_drew1) | exact HB.out))) : w.heap.size ≤ gb202)); have n3_ := Aside0.mk ((by rw [hg]; exact (below_size (by repeat (first | (with_reducible first | exact HB.out | apply below_alloc | apply pw_below_drewN | apply below_drew1) | exact HB.out))) : w.heap.size ≤ gb202)); clear HB; have HB := n0_; have BK202 := n1_; have GW202 := n2_; have GE202 := n3_; clear n0_ n1_ n2_ n3_; clear hb hbox hg; have hcz14_0 : w13.cell? ⟨gb202, 0, none⟩ = some (.float .f32 0) := (blk_cell BK202.out 0).trans rfl; have hcz14_1 : w13.cell? ⟨gb202, 1, none⟩ = some (.float .f32 0) := (blk_cell BK202.out 1).trans rfl; have hfz14_0 := blk_frozen BK202.out 0; have hfz14_1 := blk_frozen BK202.out 1) | ((with_reducible refine gate_callee (f := 10) rfl ?_); refine goesL_ (some 39) rfl rfl Tryd.func10 (by kernel_rfl) rfl #[.slice A1 l1.length c1, .int .i64 0, .int .i64 21] rfl (by (try simp only [List.map_toArray, List.map_cons, List.map_nil]); first | done | rfl | (simp only [List.length_drop, List.length_take]; rfl)) ?_; (with_reducible refine (laws_b10At.calls _ _ l1 0 21 t203 _ ?side1 ?side2 A6.out).mono ?_); (case side1 => exact Kd.C_below HR1.out (by repeat (first | (with_reducible first | exact HB.out | apply below_alloc | apply pw_below_drewN | apply below_drew1 | refine below_set ?_ GE202.out) | exact HB.out))); (case side2 => exact HC1.out); rintro e w' ⟨rfl, ⟨nd, rfl⟩⟩; refine ⟨_, rfl, ?_⟩) | ((with_reducible refine gate_callee (f := 11) rfl ?_); refine goesL_ (some 43) rfl rfl Tryd.func11 (by kernel_rfl) rfl #[.agg #[.float .f32 t200, .float .f32 t201], .int .i64 t203] rfl (by (try simp only [List.map_toArray, List.map_cons, List.map_nil]); first | done | rfl | (simp only [List.length_drop, List.length_take]; rfl)) ?_; (with_reducible refine (impl_KeyOf.calls k t200 t201 t203 t204 t205 _ A7.out).mono ?_); rintro e w15 ⟨rfl, hb⟩; refine ⟨_, rfl, ?_⟩; have n0_ := Aside0.mk (blk_below (g := gb202) (o := .cells #[.float .f32 t200, .float .f32 t201] 26 (0, 0)) (by (with_reducible repeat (first | refine blk_drewN ?_ _ | refine blk_drew ?_ | refine blk_alloc ?_ _)); refine blk_put (cs := #[.float .f32 t200, .float .f32 0]) ?_ 1 _ rfl; (with_reducible repeat (first | refine blk_drewN ?_ _ | refine blk_drew ?_ | refine blk_alloc ?_ _)); refine blk_put (cs := #[.float .f32 0, .float .f32 0]) ?_ 0 _ rfl; (with_reducible repeat (first | refine blk_drewN ?_ _ | refine blk_drew ?_ | refine blk_alloc ?_ _)); exact BK202.out) hb); have n1_ := Aside0.mk (below_step (by repeat (first | (with_reducible first | exact HB.out | apply below_alloc | apply pw_below_drewN | apply below_drew1 | refine below_set ?_ GE202.out) | exact HB.out)) hb); clear BK202; clear HB; have BK202 := n0_; have HB := n1_; clear n0_ n1_; (try clear hb); (try clear hb2); (try clear hk); (try clear hi)) | ((with_reducible refine gate_callee (f := 12) rfl ?_); refine goesL_ (some 48) rfl rfl Tryd.func12 (by kernel_rfl) rfl #[.string t204] rfl (by (try simp only [List.map_toArray, List.map_cons, List.map_nil]); first | done | rfl | (simp only [List.length_drop, List.length_take]; rfl)) ?_; (with_reducible refine (impl_KeyTile.calls k t204 t206 t207 t208 _ A8.out).mono ?_); rintro e w16 ⟨rfl, hb⟩; refine ⟨_, rfl, ?_⟩; have n0_ := Aside0.mk (blk_below (g := gb202) (o := .cells #[.float .f32 t200, .float .f32 t201] 26 (0, 0)) (by (with_reducible repeat (first | refine blk_drewN ?_ _ | refine blk_drew ?_ | refine blk_alloc ?_ _)); exact BK202.out) hb); have n1_ := Aside0.mk (below_step (by repeat (first | (with_reducible first | exact HB.out | apply below_alloc | apply pw_below_drewN | apply below_drew1 | refine below_set ?_ GE202.out) | exact HB.out)) hb); clear BK202; clear HB; have BK202 := n0_; have HB := n1_; clear n0_ n1_; (try clear hb); (try clear hb2); (try clear hk); (try clear hi)) | ((with_reducible refine gate_callee (f := 13) rfl ?_); refine goesL_ (some 56) rfl rfl Tryd.func13 (by kernel_rfl) rfl #[.int .i64 t203, .int .i64 t206, .int .i64 t207] rfl (by (try simp only [List.map_toArray, List.map_cons, List.map_nil]); first | done | rfl | (simp only [List.length_drop, List.length_take]; rfl)) ?_; (with_reducible refine (impl_TileKey.calls k t203 t206 t207 t209 t210 _ A9.out).mono ?_); rintro e w17 ⟨rfl, hb⟩; refine ⟨_, rfl, ?_⟩; have n0_ := Aside0.mk (blk_below (g := gb202) (o := .cells #[.float .f32 t200, .float .f32 t201] 26 (0, 0)) (by (with_reducible repeat (first | refine blk_drewN ?_ _ | refine blk_drew ?_ | refine blk_alloc ?_ _)); exact BK202.out) hb); have n1_ := Aside0.mk (below_step (by repeat (first | (with_reducible first | exact HB.out | apply below_alloc | apply pw_below_drewN | apply below_drew1 | refine below_set ?_ GE202.out) | exact HB.out)) hb); clear BK202; clear HB; have BK202 := n0_; have HB := n1_; clear n0_ n1_; (try clear hb); (try clear hb2); (try clear hk); (try clear hi)) | ((with_reducible refine gate_callee (f := 14) rfl ?_); refine goesL_ (some 61) rfl rfl Tryd.func14 (by kernel_rfl) rfl #[.string t204] rfl (by (try simp only [List.map_toArray, List.map_cons, List.map_nil]); first | done | rfl | (simp only [List.length_drop, List.length_take]; rfl)) ?_; (with_reducible refine (impl_KeyBox.calls k t204 t211 t212 t213 t214 t215 _ A10.out).mono ?_); rintro e w18 ⟨rfl, hb⟩; refine ⟨_, rfl, ?_⟩; have n0_ := Aside0.mk (blk_below (g := gb202) (o := .cells #[.float .f32 t200, .float .f32 t201] 26 (0, 0)) (by (with_reducible repeat (first | refine blk_drewN ?_ _ | refine blk_drew ?_ | refine blk_alloc ?_ _)); exact BK202.out) hb); have n1_ := Aside0.mk (below_step (by repeat (first | (with_reducible first | exact HB.out | apply below_alloc | apply pw_below_drewN | apply below_drew1 | refine below_set ?_ GE202.out) | exact HB.out)) hb); clear BK202; clear HB; have BK202 := n0_; have HB := n1_; clear n0_ n1_; (try clear hb); (try clear hb2); (try clear hk); (try clear hi)) | ((with_reducible refine gate_dst (N := 14) rfl ?_); (try (refine gate_guard (by rfl) ?_; dsimp only)); refine box_event ?hg (N := 14) ?hd (cs := #[.float .f32 0, .float .f32 0]) (t := 26) ?hr ?_; (case hd => rfl); (case hg => rfl); (case hr => first | (go_simp; done) | (go_simp; rfl)); intro gb216 hg w19 hbox hb; have n0_ := Aside0.mk (blk_below (g := gb202) (o := .cells #[.float .f32 t200, .float .f32 t201] 26 (0, 0)) (by (with_reducible repeat (first | refine blk_drewN ?_ _ | refine blk_drew ?_ | refine blk_alloc ?_ _)); exact BK202.out) hb); have n1_ := Aside0.mk (below_step (by repeat (first | (with_reducible first | exact HB.out | apply below_alloc | apply pw_below_drewN | apply below_drew1 | refine below_set ?_ GE202.out) | exact HB.out)) hb); have n2_ := Aside0.mk (hbox); have n3_ := Aside0.mk ((by rw [hg]; exact (below_size (by repeat (first | (with_reducible first | exact HB.out | apply below_alloc | apply pw_below_drewN | apply below_drew1 | refine below_set ?_ GE202.out) | exact HB.out))) : w.heap.size ≤ gb216)); have n4_ := Aside0.mk ((by rw [hg]; exact (below_size (by repeat (first | (with_reducible first | exact HB.out | apply below_alloc | apply pw_below_drewN | apply below_drew1 | refine below_set ?_ GE202.out) | exact HB.out))) : w.heap.size ≤ gb216)); have n5_ := Aside0.mk ((by rw [hg]; exact Nat.ne_of_lt (blk_lt (g := gb202) (o := .cells #[.float .f32 t200, .float .f32 t201] 26 (0, 0)) (by (with_reducible repeat (first | refine blk_drewN ?_ _ | refine blk_drew ?_ | refine blk_alloc ?_ _)); exact BK202.out)) : gb202 ≠ gb216)); have n6_ := Aside0.mk ((by rw [hg]; exact Nat.ne_of_gt (blk_lt (g := gb202) (o := .cells #[.float .f32 t200, .float .f32 t201] 26 (0, 0)) (by (with_reducible repeat (first | refine blk_drewN ?_ _ | refine blk_drew ?_ | refine blk_alloc ?_ _)); exact BK202.out)) : gb216 ≠ gb202)); clear BK202; clear HB; have BK202 := n0_; have HB := n1_; have BK216 := n2_; have GW216 := n3_; have GE216 := n4_; have NB202_216 := n5_; have NB216_202 := n6_; clear n0_ n1_ n2_ n3_ n4_ n5_ n6_; clear hb hbox hg) | ((with_reducible refine gate_dst (N := 15) rfl ?_); (try (refine gate_guard (by rfl) ?_; dsimp only)); refine box_event ?hg (N := 15) ?hd (cs := #[.float .f32 0, .float .f32 0]) (t := 26) ?hr ?_; (case hd => rfl); (case hg => rfl); (case hr => first | (go_simp; done) | (go_simp; rfl)); intro gb217 hg w20 hbox hb; have n0_ := Aside0.mk (blk_below (g := gb202) (o := .cells #[.float .f32 t200, .float .f32 t201] 26 (0, 0)) (by (with_reducible repeat (first | refine blk_drewN ?_ _ | refine blk_drew ?_ | refine blk_alloc ?_ _)); exact BK202.out) hb); have n1_ := Aside0.mk (blk_below (g := gb216) (o := .cells #[.float .f32 0, .float .f32 0] 26 (0, 0)) (by (with_reducible repeat (first | refine blk_drewN ?_ _ | refine blk_drew ?_ | refine blk_alloc ?_ _)); exact BK216.out) hb); have n2_ := Aside0.mk (below_step (by repeat (first | (with_reducible first | exact HB.out | apply below_alloc | apply pw_below_drewN | apply below_drew1 | refine below_set ?_ GE202.out | refine below_set ?_ GE216.out) | exact HB.out)) hb); have n3_ := Aside0.mk (hbox); have n4_ := Aside0.mk ((by rw [hg]; exact (below_size (by repeat (first | (with_reducible first | exact HB.out | apply below_alloc | apply pw_below_drewN | apply below_drew1 | refine below_set ?_ GE202.out | refine below_set ?_ GE216.out) | exact HB.out))) : w.heap.size ≤ gb217)); have n5_ := Aside0.mk ((by rw [hg]; exact (below_size (by repeat (first | (with_reducible first | exact HB.out | apply below_alloc | apply pw_below_drewN | apply below_drew1 | refine below_set ?_ GE202.out | refine below_set ?_ GE216.out) | exact HB.out))) : w.heap.size ≤ gb217)); have n6_ := Aside0.mk ((by rw [hg]; exact Nat.ne_of_lt (blk_lt (g := gb202) (o := .cells #[.float .f32 t200, .float .f32 t201] 26 (0, 0)) (by (with_reducible repeat (first | refine blk_drewN ?_ _ | refine blk_drew ?_ | refine blk_alloc ?_ _)); exact BK202.out)) : gb202 ≠ gb217)); have n7_ := Aside0.mk ((by rw [hg]; exact Nat.ne_of_gt (blk_lt (g := gb202) (o := .cells #[.float .f32 t200, .float .f32 t201] 26 (0, 0)) (by (with_reducible repeat (first | refine blk_drewN ?_ _ | refine blk_drew ?_ | refine blk_alloc ?_ _)); exact BK202.out)) : gb217 ≠ gb202)); have n8_ := Aside0.mk ((by rw [hg]; exact Nat.ne_of_lt (blk_lt (g := gb216) (o := .cells #[.float .f32 0, .float .f32 0] 26 (0, 0)) (by (with_reducible repeat (first | refine blk_drewN ?_ _ | refine blk_drew ?_ | refine blk_alloc ?_ _)); exact BK216.out)) : gb216 ≠ gb217)); have n9_ := Aside0.mk ((by rw [hg]; exact Nat.ne_of_gt (blk_lt (g := gb216) (o := .cells #[.float .f32 0, .float .f32 0] 26 (0, 0)) (by (with_reducible repeat (first | refine blk_drewN ?_ _ | refine blk_drew ?_ | refine blk_alloc ?_ _)); exact BK216.out)) : gb217 ≠ gb216)); clear BK202; clear BK216; clear HB; have BK202 := n0_; have BK216 := n1_; have HB := n2_; have BK217 := n3_; have GW217 := n4_; have GE217 := n5_; have NB202_217 := n6_; have NB217_202 := n7_; have NB216_217 := n8_; have NB217_216 := n9_; clear n0_ n1_ n2_ n3_ n4_ n5_ n6_ n7_ n8_ n9_; clear hb hbox hg; have hnb21 := NB216_202.out; have hnc21 := NB202_216.out; have hnb22 := NB216_217.out; have hnc22 := NB217_216.out; have hcz23_0 : w20.cell? ⟨gb216, 0, none⟩ = some (.float .f32 0) := (blk_cell BK216.out 0).trans rfl; have hcz23_1 : w20.cell? ⟨gb216, 1, none⟩ = some (.float .f32 0) := (blk_cell BK216.out 1).trans rfl; have hfz23_0 := blk_frozen BK216.out 0; have hfz23_1 := blk_frozen BK216.out 1; have hnb24 := NB217_202.out; have hnc24 := NB202_217.out; have hcz25_0 : w20.cell? ⟨gb217, 0, none⟩ = some (.float .f32 0) := (blk_cell BK217.out 0).trans rfl; have hcz25_1 : w20.cell? ⟨gb217, 1, none⟩ = some (.float .f32 0) := (blk_cell BK217.out 1).trans rfl; have hfz25_0 := blk_frozen BK217.out 0; have hfz25_1 := blk_frozen BK217.out 1))
    (try simp only [Act.put, List.setIfInBounds_toArray, List.set_cons_zero, List.set_cons_succ])
    go_cut [128] (fun v128 wc => ∃ (kq : Nat) (x128_10 : Bool), v128 = .bool x128_10 ∧ Aside0 (laws_FnKeys.j0 kq l1 t203 t204 x128_10 t200 t201 t211 t212 t213 t214 = some r) ∧ Aside0 (kq ≤ k) ∧ Aside0 (wc.heap[gb202]? = some (.cells #[.float .f32 t200, .float .f32 t201] 26 (0, 0))) ∧ Aside0 (wc.heap[gb216]? = some (.cells #[.float .f32 t211, .float .f32 t212] 26 (0, 0))) ∧ Aside0 (wc.heap[gb217]? = some (.cells #[.float .f32 t213, .float .f32 t214] 26 (0, 0))) ∧ Aside0 (Below w.heap.size w wc))
    case first =>
      have H := HC11.out
      clear HC11
      by_cases c26 : t205 = true
      · subst c26
        have H1 : (if t208 = true then (if t210 = true then (if t215 = true then ((impl_IsKey.f t204).bind fun t218 => (if t218 = true then (if (t204.size : Int) = t203 then (if t209.toList = t204.toList then (if (FL.flt FL.S t200 t211) = true then (laws_FnKeys.j0 k l1 t203 t204 true t200 t201 t211 t212 t213 t214) else (if (FL.flt FL.S t201 t212) = true then (laws_FnKeys.j0 k l1 t203 t204 true t200 t201 t211 t212 t213 t214) else ((FL.cvtO t200).bind fun t219 => ((FL.cvtO t213).bind fun t220 => ((FL.D.add t220 4517329193108106637).bind fun t221 => (if (FL.fgt FL.D t219 t221) = true then (laws_FnKeys.j0 k l1 t203 t204 true t200 t201 t211 t212 t213 t214) else ((FL.cvtO t201).bind fun t222 => ((FL.cvtO t214).bind fun t223 => ((FL.D.add t223 4517329193108106637).bind fun t224 => (laws_FnKeys.j0 k l1 t203 t204 (FL.fgt FL.D t222 t224) t200 t201 t211 t212 t213 t214)))))))))) else (laws_FnKeys.j0 k l1 t203 t204 true t200 t201 t211 t212 t213 t214)) else (laws_FnKeys.j0 k l1 t203 t204 true t200 t201 t211 t212 t213 t214)) else (laws_FnKeys.j0 k l1 t203 t204 true t200 t201 t211 t212 t213 t214))) else (laws_FnKeys.j0 k l1 t203 t204 true t200 t201 t211 t212 t213 t214)) else (laws_FnKeys.j0 k l1 t203 t204 true t200 t201 t211 t212 t213 t214)) else (laws_FnKeys.j0 k l1 t203 t204 true t200 t201 t211 t212 t213 t214)) = some r := by rw [if_pos rfl] at H; exact H
        clear H
        have H := H1
        clear H1
        by_cases c27 : t208 = true
        · subst c27
          have H1 : (if t210 = true then (if t215 = true then ((impl_IsKey.f t204).bind fun t218 => (if t218 = true then (if (t204.size : Int) = t203 then (if t209.toList = t204.toList then (if (FL.flt FL.S t200 t211) = true then (laws_FnKeys.j0 k l1 t203 t204 true t200 t201 t211 t212 t213 t214) else (if (FL.flt FL.S t201 t212) = true then (laws_FnKeys.j0 k l1 t203 t204 true t200 t201 t211 t212 t213 t214) else ((FL.cvtO t200).bind fun t219 => ((FL.cvtO t213).bind fun t220 => ((FL.D.add t220 4517329193108106637).bind fun t221 => (if (FL.fgt FL.D t219 t221) = true then (laws_FnKeys.j0 k l1 t203 t204 true t200 t201 t211 t212 t213 t214) else ((FL.cvtO t201).bind fun t222 => ((FL.cvtO t214).bind fun t223 => ((FL.D.add t223 4517329193108106637).bind fun t224 => (laws_FnKeys.j0 k l1 t203 t204 (FL.fgt FL.D t222 t224) t200 t201 t211 t212 t213 t214)))))))))) else (laws_FnKeys.j0 k l1 t203 t204 true t200 t201 t211 t212 t213 t214)) else (laws_FnKeys.j0 k l1 t203 t204 true t200 t201 t211 t212 t213 t214)) else (laws_FnKeys.j0 k l1 t203 t204 true t200 t201 t211 t212 t213 t214))) else (laws_FnKeys.j0 k l1 t203 t204 true t200 t201 t211 t212 t213 t214)) else (laws_FnKeys.j0 k l1 t203 t204 true t200 t201 t211 t212 t213 t214)) = some r := by rw [if_pos rfl] at H; exact H
          clear H
          have H := H1
          clear H1
          by_cases c28 : t210 = true
          · subst c28
            have H1 : (if t215 = true then ((impl_IsKey.f t204).bind fun t218 => (if t218 = true then (if (t204.size : Int) = t203 then (if t209.toList = t204.toList then (if (FL.flt FL.S t200 t211) = true then (laws_FnKeys.j0 k l1 t203 t204 true t200 t201 t211 t212 t213 t214) else (if (FL.flt FL.S t201 t212) = true then (laws_FnKeys.j0 k l1 t203 t204 true t200 t201 t211 t212 t213 t214) else ((FL.cvtO t200).bind fun t219 => ((FL.cvtO t213).bind fun t220 => ((FL.D.add t220 4517329193108106637).bind fun t221 => (if (FL.fgt FL.D t219 t221) = true then (laws_FnKeys.j0 k l1 t203 t204 true t200 t201 t211 t212 t213 t214) else ((FL.cvtO t201).bind fun t222 => ((FL.cvtO t214).bind fun t223 => ((FL.D.add t223 4517329193108106637).bind fun t224 => (laws_FnKeys.j0 k l1 t203 t204 (FL.fgt FL.D t222 t224) t200 t201 t211 t212 t213 t214)))))))))) else (laws_FnKeys.j0 k l1 t203 t204 true t200 t201 t211 t212 t213 t214)) else (laws_FnKeys.j0 k l1 t203 t204 true t200 t201 t211 t212 t213 t214)) else (laws_FnKeys.j0 k l1 t203 t204 true t200 t201 t211 t212 t213 t214))) else (laws_FnKeys.j0 k l1 t203 t204 true t200 t201 t211 t212 t213 t214)) = some r := by rw [if_pos rfl] at H; exact H
            clear H
            have H := H1
            clear H1
            by_cases c29 : t215 = true
            · subst c29
              have H1 : ((impl_IsKey.f t204).bind fun t218 => (if t218 = true then (if (t204.size : Int) = t203 then (if t209.toList = t204.toList then (if (FL.flt FL.S t200 t211) = true then (laws_FnKeys.j0 k l1 t203 t204 true t200 t201 t211 t212 t213 t214) else (if (FL.flt FL.S t201 t212) = true then (laws_FnKeys.j0 k l1 t203 t204 true t200 t201 t211 t212 t213 t214) else ((FL.cvtO t200).bind fun t219 => ((FL.cvtO t213).bind fun t220 => ((FL.D.add t220 4517329193108106637).bind fun t221 => (if (FL.fgt FL.D t219 t221) = true then (laws_FnKeys.j0 k l1 t203 t204 true t200 t201 t211 t212 t213 t214) else ((FL.cvtO t201).bind fun t222 => ((FL.cvtO t214).bind fun t223 => ((FL.D.add t223 4517329193108106637).bind fun t224 => (laws_FnKeys.j0 k l1 t203 t204 (FL.fgt FL.D t222 t224) t200 t201 t211 t212 t213 t214)))))))))) else (laws_FnKeys.j0 k l1 t203 t204 true t200 t201 t211 t212 t213 t214)) else (laws_FnKeys.j0 k l1 t203 t204 true t200 t201 t211 t212 t213 t214)) else (laws_FnKeys.j0 k l1 t203 t204 true t200 t201 t211 t212 t213 t214))) = some r := by rw [if_pos rfl] at H; exact H
              clear H
              have H := H1
              clear H1
              replace H := Option.bind_eq_some_iff.mp H
              obtain ⟨t218, A300, H⟩ := H
              replace H : (if t218 = true then (if (t204.size : Int) = t203 then (if t209.toList = t204.toList then (if (FL.flt FL.S t200 t211) = true then (laws_FnKeys.j0 k l1 t203 t204 true t200 t201 t211 t212 t213 t214) else (if (FL.flt FL.S t201 t212) = true then (laws_FnKeys.j0 k l1 t203 t204 true t200 t201 t211 t212 t213 t214) else ((FL.cvtO t200).bind fun t219 => ((FL.cvtO t213).bind fun t220 => ((FL.D.add t220 4517329193108106637).bind fun t221 => (if (FL.fgt FL.D t219 t221) = true then (laws_FnKeys.j0 k l1 t203 t204 true t200 t201 t211 t212 t213 t214) else ((FL.cvtO t201).bind fun t222 => ((FL.cvtO t214).bind fun t223 => ((FL.D.add t223 4517329193108106637).bind fun t224 => (laws_FnKeys.j0 k l1 t203 t204 (FL.fgt FL.D t222 t224) t200 t201 t211 t212 t213 t214)))))))))) else (laws_FnKeys.j0 k l1 t203 t204 true t200 t201 t211 t212 t213 t214)) else (laws_FnKeys.j0 k l1 t203 t204 true t200 t201 t211 t212 t213 t214)) else (laws_FnKeys.j0 k l1 t203 t204 true t200 t201 t211 t212 t213 t214)) = some r := H
              have A30 := Aside0.mk A300
              clear A300
              by_cases c31 : t218 = true
              · subst c31
                have H1 : (if (t204.size : Int) = t203 then (if t209.toList = t204.toList then (if (FL.flt FL.S t200 t211) = true then (laws_FnKeys.j0 k l1 t203 t204 true t200 t201 t211 t212 t213 t214) else (if (FL.flt FL.S t201 t212) = true then (laws_FnKeys.j0 k l1 t203 t204 true t200 t201 t211 t212 t213 t214) else ((FL.cvtO t200).bind fun t219 => ((FL.cvtO t213).bind fun t220 => ((FL.D.add t220 4517329193108106637).bind fun t221 => (if (FL.fgt FL.D t219 t221) = true then (laws_FnKeys.j0 k l1 t203 t204 true t200 t201 t211 t212 t213 t214) else ((FL.cvtO t201).bind fun t222 => ((FL.cvtO t214).bind fun t223 => ((FL.D.add t223 4517329193108106637).bind fun t224 => (laws_FnKeys.j0 k l1 t203 t204 (FL.fgt FL.D t222 t224) t200 t201 t211 t212 t213 t214)))))))))) else (laws_FnKeys.j0 k l1 t203 t204 true t200 t201 t211 t212 t213 t214)) else (laws_FnKeys.j0 k l1 t203 t204 true t200 t201 t211 t212 t213 t214)) = some r := by rw [if_pos rfl] at H; exact H
                clear H
                have H := H1
                clear H1
                by_cases c32 : (t204.size : Int) = t203
                · rw [if_pos c32] at H
                  have c32b0 : ((t204.size : Int) == t203) = true := beq_iff_eq.mpr c32
                  have c32b1 : ((t204.size : Int) != t203) = false := bne_eq_false_iff_eq.mpr c32
                  clear c32
                  (first | rw [c32b0] | (simp only [i64_w, i32_w]; rw [c32b0]) | skip)
                  by_cases c33 : t209.toList = t204.toList
                  · rw [if_pos c33] at H
                    have c33b0 : (t209.toList == t204.toList) = true := beq_iff_eq.mpr c33
                    have c33b1 : (t209.toList != t204.toList) = false := bne_eq_false_iff_eq.mpr c33
                    clear c33
                    by_cases c34 : (FL.flt FL.S t200 t211) = true
                    · rw [if_pos c34] at H
                      have c34b0 : (FL.flt FL.S t200 t211) = true := c34
                      clear c34
                      as_aux_lemma =>
                        have H' := Aside0.mk H
                        clear H
                        go_wp2_with (first | (go_at_call 15; (with_reducible refine (impl_IsKey.calls t204 true _ A30.out).mono ?_); rintro e w35 ⟨rfl, hb⟩; have n0_ := Aside0.mk (blk_below (g := gb202) (o := .cells #[.float .f32 t200, .float .f32 t201] 26 (0, 0)) (by (with_reducible repeat (first | refine blk_drewN ?_ _ | refine blk_drew ?_ | refine blk_alloc ?_ _)); refine blk_far ?_ NB202_217.out _; (with_reducible repeat (first | refine blk_drewN ?_ _ | refine blk_drew ?_ | refine blk_alloc ?_ _)); refine blk_far ?_ NB202_217.out _; (with_reducible repeat (first | refine blk_drewN ?_ _ | refine blk_drew ?_ | refine blk_alloc ?_ _)); refine blk_far ?_ NB202_216.out _; (with_reducible repeat (first | refine blk_drewN ?_ _ | refine blk_drew ?_ | refine blk_alloc ?_ _)); refine blk_far ?_ NB202_216.out _; (with_reducible repeat (first | refine blk_drewN ?_ _ | refine blk_drew ?_ | refine blk_alloc ?_ _)); exact BK202.out) hb); have n1_ := Aside0.mk (blk_below (g := gb216) (o := .cells #[.float .f32 t211, .float .f32 t212] 26 (0, 0)) (by (with_reducible repeat (first | refine blk_drewN ?_ _ | refine blk_drew ?_ | refine blk_alloc ?_ _)); refine blk_far ?_ NB216_217.out _; (with_reducible repeat (first | refine blk_drewN ?_ _ | refine blk_drew ?_ | refine blk_alloc ?_ _)); refine blk_far ?_ NB216_217.out _; (with_reducible repeat (first | refine blk_drewN ?_ _ | refine blk_drew ?_ | refine blk_alloc ?_ _)); refine blk_put (cs := #[.float .f32 t211, .float .f32 0]) ?_ 1 _ rfl; (with_reducible repeat (first | refine blk_drewN ?_ _ | refine blk_drew ?_ | refine blk_alloc ?_ _)); refine blk_put (cs := #[.float .f32 0, .float .f32 0]) ?_ 0 _ rfl; (with_reducible repeat (first | refine blk_drewN ?_ _ | refine blk_drew ?_ | refine blk_alloc ?_ _)); exact BK216.out) hb); have n2_ := Aside0.mk (blk_below (g := gb217) (o := .cells #[.float .f32 t213, .float .f32 t214] 26 (0, 0)) (by (with_reducible repeat (first | refine blk_drewN ?_ _ | refine blk_drew ?_ | refine blk_alloc ?_ _)); refine blk_put (cs := #[.float .f32 t213, .float .f32 0]) ?_ 1 _ rfl; (with_reducible repeat (first | refine blk_drewN ?_ _ | refine blk_drew ?_ | refine blk_alloc ?_ _)); refine blk_put (cs := #[.float .f32 0, .float .f32 0]) ?_ 0 _ rfl; (with_reducible repeat (first | refine blk_drewN ?_ _ | refine blk_drew ?_ | refine blk_alloc ?_ _)); refine blk_far ?_ NB217_216.out _; (with_reducible repeat (first | refine blk_drewN ?_ _ | refine blk_drew ?_ | refine blk_alloc ?_ _)); refine blk_far ?_ NB217_216.out _; (with_reducible repeat (first | refine blk_drewN ?_ _ | refine blk_drew ?_ | refine blk_alloc ?_ _)); exact BK217.out) hb); have n3_ := Aside0.mk (below_step (by repeat (first | (with_reducible first | exact HB.out | apply below_alloc | apply pw_below_drewN | apply below_drew1 | refine below_set ?_ GE202.out | refine below_set ?_ GE216.out | refine below_set ?_ GE217.out) | exact HB.out)) hb); clear BK202; clear BK216; clear BK217; clear HB; have BK202 := n0_; have BK216 := n1_; have BK217 := n2_; have HB := n3_; clear n0_ n1_ n2_ n3_; (try clear hb); (try clear hb2); (try clear hk); (try clear hi); have hnb36 := NB202_216.out; have hnc36 := NB216_202.out; have hnb37 := NB202_217.out; have hnc37 := NB217_202.out; have hcz38_0 : w35.cell? ⟨gb202, 0, none⟩ = some (.float .f32 t200) := (blk_cell BK202.out 0).trans rfl; have hcz38_1 : w35.cell? ⟨gb202, 1, none⟩ = some (.float .f32 t201) := (blk_cell BK202.out 1).trans rfl; have hfz38_0 := blk_frozen BK202.out 0; have hfz38_1 := blk_frozen BK202.out 1; have hnb39 := NB216_217.out; have hnc39 := NB217_216.out; have hcz40_0 : w35.cell? ⟨gb216, 0, none⟩ = some (.float .f32 t211) := (blk_cell BK216.out 0).trans rfl; have hcz40_1 : w35.cell? ⟨gb216, 1, none⟩ = some (.float .f32 t212) := (blk_cell BK216.out 1).trans rfl; have hfz40_0 := blk_frozen BK216.out 0; have hfz40_1 := blk_frozen BK216.out 1))
                        go_meet
                        case rel => exact ⟨_, (true), (by first | rfl | (simp; done) | (simp [*]; done)), H', ⟨by first | omega | exact Nat.le_refl _⟩, ⟨by (with_reducible repeat (first | refine blk_drewN ?_ _ | refine blk_drew ?_ | refine blk_alloc ?_ _)); exact BK202.out⟩, ⟨by (with_reducible repeat (first | refine blk_drewN ?_ _ | refine blk_drew ?_ | refine blk_alloc ?_ _)); exact BK216.out⟩, ⟨by (with_reducible repeat (first | refine blk_drewN ?_ _ | refine blk_drew ?_ | refine blk_alloc ?_ _)); exact BK217.out⟩, ⟨by repeat (first | (with_reducible first | exact HB.out | apply below_alloc | apply pw_below_drewN | apply below_drew1 | refine below_set ?_ GE202.out | refine below_set ?_ GE216.out | refine below_set ?_ GE217.out) | exact HB.out)⟩⟩
                    · rw [if_neg c34] at H
                      have c34b0 : (FL.flt FL.S t200 t211) = false := by simpa using c34
                      clear c34
                      by_cases c41 : (FL.flt FL.S t201 t212) = true
                      · rw [if_pos c41] at H
                        have c41b0 : (FL.flt FL.S t201 t212) = true := c41
                        clear c41
                        as_aux_lemma =>
                          have H' := Aside0.mk H
                          clear H
                          go_wp2_with (first | (go_at_call 15; (with_reducible refine (impl_IsKey.calls t204 true _ A30.out).mono ?_); rintro e w42 ⟨rfl, hb⟩; have n0_ := Aside0.mk (blk_below (g := gb202) (o := .cells #[.float .f32 t200, .float .f32 t201] 26 (0, 0)) (by (with_reducible repeat (first | refine blk_drewN ?_ _ | refine blk_drew ?_ | refine blk_alloc ?_ _)); refine blk_far ?_ NB202_217.out _; (with_reducible repeat (first | refine blk_drewN ?_ _ | refine blk_drew ?_ | refine blk_alloc ?_ _)); refine blk_far ?_ NB202_217.out _; (with_reducible repeat (first | refine blk_drewN ?_ _ | refine blk_drew ?_ | refine blk_alloc ?_ _)); refine blk_far ?_ NB202_216.out _; (with_reducible repeat (first | refine blk_drewN ?_ _ | refine blk_drew ?_ | refine blk_alloc ?_ _)); refine blk_far ?_ NB202_216.out _; (with_reducible repeat (first | refine blk_drewN ?_ _ | refine blk_drew ?_ | refine blk_alloc ?_ _)); exact BK202.out) hb); have n1_ := Aside0.mk (blk_below (g := gb216) (o := .cells #[.float .f32 t211, .float .f32 t212] 26 (0, 0)) (by (with_reducible repeat (first | refine blk_drewN ?_ _ | refine blk_drew ?_ | refine blk_alloc ?_ _)); refine blk_far ?_ NB216_217.out _; (with_reducible repeat (first | refine blk_drewN ?_ _ | refine blk_drew ?_ | refine blk_alloc ?_ _)); refine blk_far ?_ NB216_217.out _; (with_reducible repeat (first | refine blk_drewN ?_ _ | refine blk_drew ?_ | refine blk_alloc ?_ _)); refine blk_put (cs := #[.float .f32 t211, .float .f32 0]) ?_ 1 _ rfl; (with_reducible repeat (first | refine blk_drewN ?_ _ | refine blk_drew ?_ | refine blk_alloc ?_ _)); refine blk_put (cs := #[.float .f32 0, .float .f32 0]) ?_ 0 _ rfl; (with_reducible repeat (first | refine blk_drewN ?_ _ | refine blk_drew ?_ | refine blk_alloc ?_ _)); exact BK216.out) hb); have n2_ := Aside0.mk (blk_below (g := gb217) (o := .cells #[.float .f32 t213, .float .f32 t214] 26 (0, 0)) (by (with_reducible repeat (first | refine blk_drewN ?_ _ | refine blk_drew ?_ | refine blk_alloc ?_ _)); refine blk_put (cs := #[.float .f32 t213, .float .f32 0]) ?_ 1 _ rfl; (with_reducible repeat (first | refine blk_drewN ?_ _ | refine blk_drew ?_ | refine blk_alloc ?_ _)); refine blk_put (cs := #[.float .f32 0, .float .f32 0]) ?_ 0 _ rfl; (with_reducible repeat (first | refine blk_drewN ?_ _ | refine blk_drew ?_ | refine blk_alloc ?_ _)); refine blk_far ?_ NB217_216.out _; (with_reducible repeat (first | refine blk_drewN ?_ _ | refine blk_drew ?_ | refine blk_alloc ?_ _)); refine blk_far ?_ NB217_216.out _; (with_reducible repeat (first | refine blk_drewN ?_ _ | refine blk_drew ?_ | refine blk_alloc ?_ _)); exact BK217.out) hb); have n3_ := Aside0.mk (below_step (by repeat (first | (with_reducible first | exact HB.out | apply below_alloc | apply pw_below_drewN | apply below_drew1 | refine below_set ?_ GE202.out | refine below_set ?_ GE216.out | refine below_set ?_ GE217.out) | exact HB.out)) hb); clear BK202; clear BK216; clear BK217; clear HB; have BK202 := n0_; have BK216 := n1_; have BK217 := n2_; have HB := n3_; clear n0_ n1_ n2_ n3_; (try clear hb); (try clear hb2); (try clear hk); (try clear hi); have hnb43 := NB202_216.out; have hnc43 := NB216_202.out; have hnb44 := NB202_217.out; have hnc44 := NB217_202.out; have hcz45_0 : w42.cell? ⟨gb202, 0, none⟩ = some (.float .f32 t200) := (blk_cell BK202.out 0).trans rfl; have hcz45_1 : w42.cell? ⟨gb202, 1, none⟩ = some (.float .f32 t201) := (blk_cell BK202.out 1).trans rfl; have hfz45_0 := blk_frozen BK202.out 0; have hfz45_1 := blk_frozen BK202.out 1; have hnb46 := NB216_217.out; have hnc46 := NB217_216.out; have hcz47_0 : w42.cell? ⟨gb216, 0, none⟩ = some (.float .f32 t211) := (blk_cell BK216.out 0).trans rfl; have hcz47_1 : w42.cell? ⟨gb216, 1, none⟩ = some (.float .f32 t212) := (blk_cell BK216.out 1).trans rfl; have hfz47_0 := blk_frozen BK216.out 0; have hfz47_1 := blk_frozen BK216.out 1))
                          go_meet
                          case rel => exact ⟨_, (true), (by first | rfl | (simp; done) | (simp [*]; done)), H', ⟨by first | omega | exact Nat.le_refl _⟩, ⟨by (with_reducible repeat (first | refine blk_drewN ?_ _ | refine blk_drew ?_ | refine blk_alloc ?_ _)); exact BK202.out⟩, ⟨by (with_reducible repeat (first | refine blk_drewN ?_ _ | refine blk_drew ?_ | refine blk_alloc ?_ _)); exact BK216.out⟩, ⟨by (with_reducible repeat (first | refine blk_drewN ?_ _ | refine blk_drew ?_ | refine blk_alloc ?_ _)); exact BK217.out⟩, ⟨by repeat (first | (with_reducible first | exact HB.out | apply below_alloc | apply pw_below_drewN | apply below_drew1 | refine below_set ?_ GE202.out | refine below_set ?_ GE216.out | refine below_set ?_ GE217.out) | exact HB.out)⟩⟩
                      · rw [if_neg c41] at H
                        have c41b0 : (FL.flt FL.S t201 t212) = false := by simpa using c41
                        clear c41
                        replace H := Option.bind_eq_some_iff.mp H
                        obtain ⟨t219, A480, H⟩ := H
                        replace H : ((FL.cvtO t213).bind fun t220 => ((FL.D.add t220 4517329193108106637).bind fun t221 => (if (FL.fgt FL.D t219 t221) = true then (laws_FnKeys.j0 k l1 t203 t204 true t200 t201 t211 t212 t213 t214) else ((FL.cvtO t201).bind fun t222 => ((FL.cvtO t214).bind fun t223 => ((FL.D.add t223 4517329193108106637).bind fun t224 => (laws_FnKeys.j0 k l1 t203 t204 (FL.fgt FL.D t222 t224) t200 t201 t211 t212 t213 t214))))))) = some r := H
                        have FA48 := fun (w_ : World) => FL.r_cvt 24 37 Tryd.underlying24 Tryd.underlying37 (P := Tryd.prog) w_ A480
                        clear A480
                        replace H := Option.bind_eq_some_iff.mp H
                        obtain ⟨t220, A490, H⟩ := H
                        replace H : ((FL.D.add t220 4517329193108106637).bind fun t221 => (if (FL.fgt FL.D t219 t221) = true then (laws_FnKeys.j0 k l1 t203 t204 true t200 t201 t211 t212 t213 t214) else ((FL.cvtO t201).bind fun t222 => ((FL.cvtO t214).bind fun t223 => ((FL.D.add t223 4517329193108106637).bind fun t224 => (laws_FnKeys.j0 k l1 t203 t204 (FL.fgt FL.D t222 t224) t200 t201 t211 t212 t213 t214)))))) = some r := H
                        have FA49 := fun (w_ : World) => FL.r_cvt 24 37 Tryd.underlying24 Tryd.underlying37 (P := Tryd.prog) w_ A490
                        clear A490
                        replace H := Option.bind_eq_some_iff.mp H
                        obtain ⟨t221, A500, H⟩ := H
                        replace H : (if (FL.fgt FL.D t219 t221) = true then (laws_FnKeys.j0 k l1 t203 t204 true t200 t201 t211 t212 t213 t214) else ((FL.cvtO t201).bind fun t222 => ((FL.cvtO t214).bind fun t223 => ((FL.D.add t223 4517329193108106637).bind fun t224 => (laws_FnKeys.j0 k l1 t203 t204 (FL.fgt FL.D t222 t224) t200 t201 t211 t212 t213 t214))))) = some r := H
                        have FA50 := fun (w_ : World) => FL.r_add64 (P := Tryd.prog) w_ A500
                        clear A500
                        by_cases c51 : (FL.fgt FL.D t219 t221) = true
                        · rw [if_pos c51] at H
                          have c51b0 : (FL.fgt FL.D t219 t221) = true := c51
                          clear c51
                          as_aux_lemma =>
                            have H' := Aside0.mk H
                            clear H
                            go_wp2_with (first | (go_at_call 15; (with_reducible refine (impl_IsKey.calls t204 true _ A30.out).mono ?_); rintro e w52 ⟨rfl, hb⟩; have n0_ := Aside0.mk (blk_below (g := gb202) (o := .cells #[.float .f32 t200, .float .f32 t201] 26 (0, 0)) (by (with_reducible repeat (first | refine blk_drewN ?_ _ | refine blk_drew ?_ | refine blk_alloc ?_ _)); refine blk_far ?_ NB202_217.out _; (with_reducible repeat (first | refine blk_drewN ?_ _ | refine blk_drew ?_ | refine blk_alloc ?_ _)); refine blk_far ?_ NB202_217.out _; (with_reducible repeat (first | refine blk_drewN ?_ _ | refine blk_drew ?_ | refine blk_alloc ?_ _)); refine blk_far ?_ NB202_216.out _; (with_reducible repeat (first | refine blk_drewN ?_ _ | refine blk_drew ?_ | refine blk_alloc ?_ _)); refine blk_far ?_ NB202_216.out _; (with_reducible repeat (first | refine blk_drewN ?_ _ | refine blk_drew ?_ | refine blk_alloc ?_ _)); exact BK202.out) hb); have n1_ := Aside0.mk (blk_below (g := gb216) (o := .cells #[.float .f32 t211, .float .f32 t212] 26 (0, 0)) (by (with_reducible repeat (first | refine blk_drewN ?_ _ | refine blk_drew ?_ | refine blk_alloc ?_ _)); refine blk_far ?_ NB216_217.out _; (with_reducible repeat (first | refine blk_drewN ?_ _ | refine blk_drew ?_ | refine blk_alloc ?_ _)); refine blk_far ?_ NB216_217.out _; (with_reducible repeat (first | refine blk_drewN ?_ _ | refine blk_drew ?_ | refine blk_alloc ?_ _)); refine blk_put (cs := #[.float .f32 t211, .float .f32 0]) ?_ 1 _ rfl; (with_reducible repeat (first | refine blk_drewN ?_ _ | refine blk_drew ?_ | refine blk_alloc ?_ _)); refine blk_put (cs := #[.float .f32 0, .float .f32 0]) ?_ 0 _ rfl; (with_reducible repeat (first | refine blk_drewN ?_ _ | refine blk_drew ?_ | refine blk_alloc ?_ _)); exact BK216.out) hb); have n2_ := Aside0.mk (blk_below (g := gb217) (o := .cells #[.float .f32 t213, .float .f32 t214] 26 (0, 0)) (by (with_reducible repeat (first | refine blk_drewN ?_ _ | refine blk_drew ?_ | refine blk_alloc ?_ _)); refine blk_put (cs := #[.float .f32 t213, .float .f32 0]) ?_ 1 _ rfl; (with_reducible repeat (first | refine blk_drewN ?_ _ | refine blk_drew ?_ | refine blk_alloc ?_ _)); refine blk_put (cs := #[.float .f32 0, .float .f32 0]) ?_ 0 _ rfl; (with_reducible repeat (first | refine blk_drewN ?_ _ | refine blk_drew ?_ | refine blk_alloc ?_ _)); refine blk_far ?_ NB217_216.out _; (with_reducible repeat (first | refine blk_drewN ?_ _ | refine blk_drew ?_ | refine blk_alloc ?_ _)); refine blk_far ?_ NB217_216.out _; (with_reducible repeat (first | refine blk_drewN ?_ _ | refine blk_drew ?_ | refine blk_alloc ?_ _)); exact BK217.out) hb); have n3_ := Aside0.mk (below_step (by repeat (first | (with_reducible first | exact HB.out | apply below_alloc | apply pw_below_drewN | apply below_drew1 | refine below_set ?_ GE202.out | refine below_set ?_ GE216.out | refine below_set ?_ GE217.out) | exact HB.out)) hb); clear BK202; clear BK216; clear BK217; clear HB; have BK202 := n0_; have BK216 := n1_; have BK217 := n2_; have HB := n3_; clear n0_ n1_ n2_ n3_; (try clear hb); (try clear hb2); (try clear hk); (try clear hi); have hnb53 := NB202_216.out; have hnc53 := NB216_202.out; have hnb54 := NB202_217.out; have hnc54 := NB217_202.out; have hcz55_0 : w52.cell? ⟨gb202, 0, none⟩ = some (.float .f32 t200) := (blk_cell BK202.out 0).trans rfl; have hcz55_1 : w52.cell? ⟨gb202, 1, none⟩ = some (.float .f32 t201) := (blk_cell BK202.out 1).trans rfl; have hfz55_0 := blk_frozen BK202.out 0; have hfz55_1 := blk_frozen BK202.out 1; have hnb56 := NB216_217.out; have hnc56 := NB217_216.out; have hcz57_0 : w52.cell? ⟨gb216, 0, none⟩ = some (.float .f32 t211) := (blk_cell BK216.out 0).trans rfl; have hcz57_1 : w52.cell? ⟨gb216, 1, none⟩ = some (.float .f32 t212) := (blk_cell BK216.out 1).trans rfl; have hfz57_0 := blk_frozen BK216.out 0; have hfz57_1 := blk_frozen BK216.out 1; have hcz58_0 : w52.cell? ⟨gb217, 0, none⟩ = some (.float .f32 t213) := (blk_cell BK217.out 0).trans rfl; have hcz58_1 : w52.cell? ⟨gb217, 1, none⟩ = some (.float .f32 t214) := (blk_cell BK217.out 1).trans rfl; have hfz58_0 := blk_frozen BK217.out 0; have hfz58_1 := blk_frozen BK217.out 1))
                            go_meet
                            case rel => exact ⟨_, (true), (by first | rfl | (simp; done) | (simp [*]; done)), H', ⟨by first | omega | exact Nat.le_refl _⟩, ⟨by (with_reducible repeat (first | refine blk_drewN ?_ _ | refine blk_drew ?_ | refine blk_alloc ?_ _)); exact BK202.out⟩, ⟨by (with_reducible repeat (first | refine blk_drewN ?_ _ | refine blk_drew ?_ | refine blk_alloc ?_ _)); exact BK216.out⟩, ⟨by (with_reducible repeat (first | refine blk_drewN ?_ _ | refine blk_drew ?_ | refine blk_alloc ?_ _)); exact BK217.out⟩, ⟨by repeat (first | (with_reducible first | exact HB.out | apply below_alloc | apply pw_below_drewN | apply below_drew1 | refine below_set ?_ GE202.out | refine below_set ?_ GE216.out | refine below_set ?_ GE217.out) | exact HB.out)⟩⟩
                        · rw [if_neg c51] at H
                          have c51b0 : (FL.fgt FL.D t219 t221) = false := by simpa using c51
                          clear c51
                          replace H := Option.bind_eq_some_iff.mp H
                          obtain ⟨t222, A590, H⟩ := H
                          replace H : ((FL.cvtO t214).bind fun t223 => ((FL.D.add t223 4517329193108106637).bind fun t224 => (laws_FnKeys.j0 k l1 t203 t204 (FL.fgt FL.D t222 t224) t200 t201 t211 t212 t213 t214))) = some r := H
                          have FA59 := fun (w_ : World) => FL.r_cvt 24 37 Tryd.underlying24 Tryd.underlying37 (P := Tryd.prog) w_ A590
                          clear A590
                          replace H := Option.bind_eq_some_iff.mp H
                          obtain ⟨t223, A600, H⟩ := H
                          replace H : ((FL.D.add t223 4517329193108106637).bind fun t224 => (laws_FnKeys.j0 k l1 t203 t204 (FL.fgt FL.D t222 t224) t200 t201 t211 t212 t213 t214)) = some r := H
                          have FA60 := fun (w_ : World) => FL.r_cvt 24 37 Tryd.underlying24 Tryd.underlying37 (P := Tryd.prog) w_ A600
                          clear A600
                          replace H := Option.bind_eq_some_iff.mp H
                          obtain ⟨t224, A610, H⟩ := H
                          replace H : (laws_FnKeys.j0 k l1 t203 t204 (FL.fgt FL.D t222 t224) t200 t201 t211 t212 t213 t214) = some r := H
                          have FA61 := fun (w_ : World) => FL.r_add64 (P := Tryd.prog) w_ A610
                          clear A610
                          as_aux_lemma =>
                            have H' := Aside0.mk H
                            clear H
                            go_wp2_with (first | (go_at_call 15; (with_reducible refine (impl_IsKey.calls t204 true _ A30.out).mono ?_); rintro e w62 ⟨rfl, hb⟩; have n0_ := Aside0.mk (blk_below (g := gb202) (o := .cells #[.float .f32 t200, .float .f32 t201] 26 (0, 0)) (by (with_reducible repeat (first | refine blk_drewN ?_ _ | refine blk_drew ?_ | refine blk_alloc ?_ _)); refine blk_far ?_ NB202_217.out _; (with_reducible repeat (first | refine blk_drewN ?_ _ | refine blk_drew ?_ | refine blk_alloc ?_ _)); refine blk_far ?_ NB202_217.out _; (with_reducible repeat (first | refine blk_drewN ?_ _ | refine blk_drew ?_ | refine blk_alloc ?_ _)); refine blk_far ?_ NB202_216.out _; (with_reducible repeat (first | refine blk_drewN ?_ _ | refine blk_drew ?_ | refine blk_alloc ?_ _)); refine blk_far ?_ NB202_216.out _; (with_reducible repeat (first | refine blk_drewN ?_ _ | refine blk_drew ?_ | refine blk_alloc ?_ _)); exact BK202.out) hb); have n1_ := Aside0.mk (blk_below (g := gb216) (o := .cells #[.float .f32 t211, .float .f32 t212] 26 (0, 0)) (by (with_reducible repeat (first | refine blk_drewN ?_ _ | refine blk_drew ?_ | refine blk_alloc ?_ _)); refine blk_far ?_ NB216_217.out _; (with_reducible repeat (first | refine blk_drewN ?_ _ | refine blk_drew ?_ | refine blk_alloc ?_ _)); refine blk_far ?_ NB216_217.out _; (with_reducible repeat (first | refine blk_drewN ?_ _ | refine blk_drew ?_ | refine blk_alloc ?_ _)); refine blk_put (cs := #[.float .f32 t211, .float .f32 0]) ?_ 1 _ rfl; (with_reducible repeat (first | refine blk_drewN ?_ _ | refine blk_drew ?_ | refine blk_alloc ?_ _)); refine blk_put (cs := #[.float .f32 0, .float .f32 0]) ?_ 0 _ rfl; (with_reducible repeat (first | refine blk_drewN ?_ _ | refine blk_drew ?_ | refine blk_alloc ?_ _)); exact BK216.out) hb); have n2_ := Aside0.mk (blk_below (g := gb217) (o := .cells #[.float .f32 t213, .float .f32 t214] 26 (0, 0)) (by (with_reducible repeat (first | refine blk_drewN ?_ _ | refine blk_drew ?_ | refine blk_alloc ?_ _)); refine blk_put (cs := #[.float .f32 t213, .float .f32 0]) ?_ 1 _ rfl; (with_reducible repeat (first | refine blk_drewN ?_ _ | refine blk_drew ?_ | refine blk_alloc ?_ _)); refine blk_put (cs := #[.float .f32 0, .float .f32 0]) ?_ 0 _ rfl; (with_reducible repeat (first | refine blk_drewN ?_ _ | refine blk_drew ?_ | refine blk_alloc ?_ _)); refine blk_far ?_ NB217_216.out _; (with_reducible repeat (first | refine blk_drewN ?_ _ | refine blk_drew ?_ | refine blk_alloc ?_ _)); refine blk_far ?_ NB217_216.out _; (with_reducible repeat (first | refine blk_drewN ?_ _ | refine blk_drew ?_ | refine blk_alloc ?_ _)); exact BK217.out) hb); have n3_ := Aside0.mk (below_step (by repeat (first | (with_reducible first | exact HB.out | apply below_alloc | apply pw_below_drewN | apply below_drew1 | refine below_set ?_ GE202.out | refine below_set ?_ GE216.out | refine below_set ?_ GE217.out) | exact HB.out)) hb); clear BK202; clear BK216; clear BK217; clear HB; have BK202 := n0_; have BK216 := n1_; have BK217 := n2_; have HB := n3_; clear n0_ n1_ n2_ n3_; (try clear hb); (try clear hb2); (try clear hk); (try clear hi); have hnb63 := NB202_216.out; have hnc63 := NB216_202.out; have hnb64 := NB202_217.out; have hnc64 := NB217_202.out; have hcz65_0 : w62.cell? ⟨gb202, 0, none⟩ = some (.float .f32 t200) := (blk_cell BK202.out 0).trans rfl; have hcz65_1 : w62.cell? ⟨gb202, 1, none⟩ = some (.float .f32 t201) := (blk_cell BK202.out 1).trans rfl; have hfz65_0 := blk_frozen BK202.out 0; have hfz65_1 := blk_frozen BK202.out 1; have hnb66 := NB216_217.out; have hnc66 := NB217_216.out; have hcz67_0 : w62.cell? ⟨gb216, 0, none⟩ = some (.float .f32 t211) := (blk_cell BK216.out 0).trans rfl; have hcz67_1 : w62.cell? ⟨gb216, 1, none⟩ = some (.float .f32 t212) := (blk_cell BK216.out 1).trans rfl; have hfz67_0 := blk_frozen BK216.out 0; have hfz67_1 := blk_frozen BK216.out 1; have hcz68_0 : w62.cell? ⟨gb217, 0, none⟩ = some (.float .f32 t213) := (blk_cell BK217.out 0).trans rfl; have hcz68_1 : w62.cell? ⟨gb217, 1, none⟩ = some (.float .f32 t214) := (blk_cell BK217.out 1).trans rfl; have hfz68_0 := blk_frozen BK217.out 0; have hfz68_1 := blk_frozen BK217.out 1))
                            go_meet
                            case rel => exact ⟨_, ((FL.fgt FL.D t222 t224)), (by first | rfl | (simp; done) | (simp [*]; done)), H', ⟨by first | omega | exact Nat.le_refl _⟩, ⟨by (with_reducible repeat (first | refine blk_drewN ?_ _ | refine blk_drew ?_ | refine blk_alloc ?_ _)); exact BK202.out⟩, ⟨by (with_reducible repeat (first | refine blk_drewN ?_ _ | refine blk_drew ?_ | refine blk_alloc ?_ _)); exact BK216.out⟩, ⟨by (with_reducible repeat (first | refine blk_drewN ?_ _ | refine blk_drew ?_ | refine blk_alloc ?_ _)); exact BK217.out⟩, ⟨by repeat (first | (with_reducible first | exact HB.out | apply below_alloc | apply pw_below_drewN | apply below_drew1 | refine below_set ?_ GE202.out | refine below_set ?_ GE216.out | refine below_set ?_ GE217.out) | exact HB.out)⟩⟩
                  · rw [if_neg c33] at H
                    have c33b0 : (t209.toList == t204.toList) = false := beq_eq_false_iff_ne.mpr c33
                    have c33b1 : (t209.toList != t204.toList) = true := bne_iff_ne.mpr c33
                    as_aux_lemma =>
                      have H' := Aside0.mk H
                      clear H
                      go_wp2_with (first | (go_at_call 15; (with_reducible refine (impl_IsKey.calls t204 true _ A30.out).mono ?_); rintro e w69 ⟨rfl, hb⟩; have n0_ := Aside0.mk (blk_below (g := gb202) (o := .cells #[.float .f32 t200, .float .f32 t201] 26 (0, 0)) (by (with_reducible repeat (first | refine blk_drewN ?_ _ | refine blk_drew ?_ | refine blk_alloc ?_ _)); refine blk_far ?_ NB202_217.out _; (with_reducible repeat (first | refine blk_drewN ?_ _ | refine blk_drew ?_ | refine blk_alloc ?_ _)); refine blk_far ?_ NB202_217.out _; (with_reducible repeat (first | refine blk_drewN ?_ _ | refine blk_drew ?_ | refine blk_alloc ?_ _)); refine blk_far ?_ NB202_216.out _; (with_reducible repeat (first | refine blk_drewN ?_ _ | refine blk_drew ?_ | refine blk_alloc ?_ _)); refine blk_far ?_ NB202_216.out _; (with_reducible repeat (first | refine blk_drewN ?_ _ | refine blk_drew ?_ | refine blk_alloc ?_ _)); exact BK202.out) hb); have n1_ := Aside0.mk (blk_below (g := gb216) (o := .cells #[.float .f32 t211, .float .f32 t212] 26 (0, 0)) (by (with_reducible repeat (first | refine blk_drewN ?_ _ | refine blk_drew ?_ | refine blk_alloc ?_ _)); refine blk_far ?_ NB216_217.out _; (with_reducible repeat (first | refine blk_drewN ?_ _ | refine blk_drew ?_ | refine blk_alloc ?_ _)); refine blk_far ?_ NB216_217.out _; (with_reducible repeat (first | refine blk_drewN ?_ _ | refine blk_drew ?_ | refine blk_alloc ?_ _)); refine blk_put (cs := #[.float .f32 t211, .float .f32 0]) ?_ 1 _ rfl; (with_reducible repeat (first | refine blk_drewN ?_ _ | refine blk_drew ?_ | refine blk_alloc ?_ _)); refine blk_put (cs := #[.float .f32 0, .float .f32 0]) ?_ 0 _ rfl; (with_reducible repeat (first | refine blk_drewN ?_ _ | refine blk_drew ?_ | refine blk_alloc ?_ _)); exact BK216.out) hb); have n2_ := Aside0.mk (blk_below (g := gb217) (o := .cells #[.float .f32 t213, .float .f32 t214] 26 (0, 0)) (by (with_reducible repeat (first | refine blk_drewN ?_ _ | refine blk_drew ?_ | refine blk_alloc ?_ _)); refine blk_put (cs := #[.float .f32 t213, .float .f32 0]) ?_ 1 _ rfl; (with_reducible repeat (first | refine blk_drewN ?_ _ | refine blk_drew ?_ | refine blk_alloc ?_ _)); refine blk_put (cs := #[.float .f32 0, .float .f32 0]) ?_ 0 _ rfl; (with_reducible repeat (first | refine blk_drewN ?_ _ | refine blk_drew ?_ | refine blk_alloc ?_ _)); refine blk_far ?_ NB217_216.out _; (with_reducible repeat (first | refine blk_drewN ?_ _ | refine blk_drew ?_ | refine blk_alloc ?_ _)); refine blk_far ?_ NB217_216.out _; (with_reducible repeat (first | refine blk_drewN ?_ _ | refine blk_drew ?_ | refine blk_alloc ?_ _)); exact BK217.out) hb); have n3_ := Aside0.mk (below_step (by repeat (first | (with_reducible first | exact HB.out | apply below_alloc | apply pw_below_drewN | apply below_drew1 | refine below_set ?_ GE202.out | refine below_set ?_ GE216.out | refine below_set ?_ GE217.out) | exact HB.out)) hb); clear BK202; clear BK216; clear BK217; clear HB; have BK202 := n0_; have BK216 := n1_; have BK217 := n2_; have HB := n3_; clear n0_ n1_ n2_ n3_; (try clear hb); (try clear hb2); (try clear hk); (try clear hi)))
                      go_meet
                      case rel => exact ⟨_, (true), (by first | rfl | (simp; done) | (simp [*]; done)), H', ⟨by first | omega | exact Nat.le_refl _⟩, ⟨by (with_reducible repeat (first | refine blk_drewN ?_ _ | refine blk_drew ?_ | refine blk_alloc ?_ _)); exact BK202.out⟩, ⟨by (with_reducible repeat (first | refine blk_drewN ?_ _ | refine blk_drew ?_ | refine blk_alloc ?_ _)); exact BK216.out⟩, ⟨by (with_reducible repeat (first | refine blk_drewN ?_ _ | refine blk_drew ?_ | refine blk_alloc ?_ _)); exact BK217.out⟩, ⟨by repeat (first | (with_reducible first | exact HB.out | apply below_alloc | apply pw_below_drewN | apply below_drew1 | refine below_set ?_ GE202.out | refine below_set ?_ GE216.out | refine below_set ?_ GE217.out) | exact HB.out)⟩⟩
                · rw [if_neg c32] at H
                  have c32b0 : ((t204.size : Int) == t203) = false := beq_eq_false_iff_ne.mpr c32
                  have c32b1 : ((t204.size : Int) != t203) = true := bne_iff_ne.mpr c32
                  (first | rw [c32b0] | (simp only [i64_w, i32_w]; rw [c32b0]) | skip)
                  as_aux_lemma =>
                    have H' := Aside0.mk H
                    clear H
                    go_wp2_with (first | (go_at_call 15; (with_reducible refine (impl_IsKey.calls t204 true _ A30.out).mono ?_); rintro e w70 ⟨rfl, hb⟩; have n0_ := Aside0.mk (blk_below (g := gb202) (o := .cells #[.float .f32 t200, .float .f32 t201] 26 (0, 0)) (by (with_reducible repeat (first | refine blk_drewN ?_ _ | refine blk_drew ?_ | refine blk_alloc ?_ _)); refine blk_far ?_ NB202_217.out _; (with_reducible repeat (first | refine blk_drewN ?_ _ | refine blk_drew ?_ | refine blk_alloc ?_ _)); refine blk_far ?_ NB202_217.out _; (with_reducible repeat (first | refine blk_drewN ?_ _ | refine blk_drew ?_ | refine blk_alloc ?_ _)); refine blk_far ?_ NB202_216.out _; (with_reducible repeat (first | refine blk_drewN ?_ _ | refine blk_drew ?_ | refine blk_alloc ?_ _)); refine blk_far ?_ NB202_216.out _; (with_reducible repeat (first | refine blk_drewN ?_ _ | refine blk_drew ?_ | refine blk_alloc ?_ _)); exact BK202.out) hb); have n1_ := Aside0.mk (blk_below (g := gb216) (o := .cells #[.float .f32 t211, .float .f32 t212] 26 (0, 0)) (by (with_reducible repeat (first | refine blk_drewN ?_ _ | refine blk_drew ?_ | refine blk_alloc ?_ _)); refine blk_far ?_ NB216_217.out _; (with_reducible repeat (first | refine blk_drewN ?_ _ | refine blk_drew ?_ | refine blk_alloc ?_ _)); refine blk_far ?_ NB216_217.out _; (with_reducible repeat (first | refine blk_drewN ?_ _ | refine blk_drew ?_ | refine blk_alloc ?_ _)); refine blk_put (cs := #[.float .f32 t211, .float .f32 0]) ?_ 1 _ rfl; (with_reducible repeat (first | refine blk_drewN ?_ _ | refine blk_drew ?_ | refine blk_alloc ?_ _)); refine blk_put (cs := #[.float .f32 0, .float .f32 0]) ?_ 0 _ rfl; (with_reducible repeat (first | refine blk_drewN ?_ _ | refine blk_drew ?_ | refine blk_alloc ?_ _)); exact BK216.out) hb); have n2_ := Aside0.mk (blk_below (g := gb217) (o := .cells #[.float .f32 t213, .float .f32 t214] 26 (0, 0)) (by (with_reducible repeat (first | refine blk_drewN ?_ _ | refine blk_drew ?_ | refine blk_alloc ?_ _)); refine blk_put (cs := #[.float .f32 t213, .float .f32 0]) ?_ 1 _ rfl; (with_reducible repeat (first | refine blk_drewN ?_ _ | refine blk_drew ?_ | refine blk_alloc ?_ _)); refine blk_put (cs := #[.float .f32 0, .float .f32 0]) ?_ 0 _ rfl; (with_reducible repeat (first | refine blk_drewN ?_ _ | refine blk_drew ?_ | refine blk_alloc ?_ _)); refine blk_far ?_ NB217_216.out _; (with_reducible repeat (first | refine blk_drewN ?_ _ | refine blk_drew ?_ | refine blk_alloc ?_ _)); refine blk_far ?_ NB217_216.out _; (with_reducible repeat (first | refine blk_drewN ?_ _ | refine blk_drew ?_ | refine blk_alloc ?_ _)); exact BK217.out) hb); have n3_ := Aside0.mk (below_step (by repeat (first | (with_reducible first | exact HB.out | apply below_alloc | apply pw_below_drewN | apply below_drew1 | refine below_set ?_ GE202.out | refine below_set ?_ GE216.out | refine below_set ?_ GE217.out) | exact HB.out)) hb); clear BK202; clear BK216; clear BK217; clear HB; have BK202 := n0_; have BK216 := n1_; have BK217 := n2_; have HB := n3_; clear n0_ n1_ n2_ n3_; (try clear hb); (try clear hb2); (try clear hk); (try clear hi)))
                    go_meet
                    case rel => exact ⟨_, (true), (by first | rfl | (simp; done) | (simp [*]; done)), H', ⟨by first | omega | exact Nat.le_refl _⟩, ⟨by (with_reducible repeat (first | refine blk_drewN ?_ _ | refine blk_drew ?_ | refine blk_alloc ?_ _)); exact BK202.out⟩, ⟨by (with_reducible repeat (first | refine blk_drewN ?_ _ | refine blk_drew ?_ | refine blk_alloc ?_ _)); exact BK216.out⟩, ⟨by (with_reducible repeat (first | refine blk_drewN ?_ _ | refine blk_drew ?_ | refine blk_alloc ?_ _)); exact BK217.out⟩, ⟨by repeat (first | (with_reducible first | exact HB.out | apply below_alloc | apply pw_below_drewN | apply below_drew1 | refine below_set ?_ GE202.out | refine below_set ?_ GE216.out | refine below_set ?_ GE217.out) | exact HB.out)⟩⟩
              · replace c31 := Bool.eq_false_iff.mpr c31
                subst c31
                have H1 : (laws_FnKeys.j0 k l1 t203 t204 true t200 t201 t211 t212 t213 t214) = some r := by rw [if_neg (show ¬ (false = true) by decide)] at H; exact H
                clear H
                have H := H1
                clear H1
                as_aux_lemma =>
                  have H' := Aside0.mk H
                  clear H
                  go_wp2_with (first | (go_at_call 15; (with_reducible refine (impl_IsKey.calls t204 false _ A30.out).mono ?_); rintro e w71 ⟨rfl, hb⟩; have n0_ := Aside0.mk (blk_below (g := gb202) (o := .cells #[.float .f32 t200, .float .f32 t201] 26 (0, 0)) (by (with_reducible repeat (first | refine blk_drewN ?_ _ | refine blk_drew ?_ | refine blk_alloc ?_ _)); refine blk_far ?_ NB202_217.out _; (with_reducible repeat (first | refine blk_drewN ?_ _ | refine blk_drew ?_ | refine blk_alloc ?_ _)); refine blk_far ?_ NB202_217.out _; (with_reducible repeat (first | refine blk_drewN ?_ _ | refine blk_drew ?_ | refine blk_alloc ?_ _)); refine blk_far ?_ NB202_216.out _; (with_reducible repeat (first | refine blk_drewN ?_ _ | refine blk_drew ?_ | refine blk_alloc ?_ _)); refine blk_far ?_ NB202_216.out _; (with_reducible repeat (first | refine blk_drewN ?_ _ | refine blk_drew ?_ | refine blk_alloc ?_ _)); exact BK202.out) hb); have n1_ := Aside0.mk (blk_below (g := gb216) (o := .cells #[.float .f32 t211, .float .f32 t212] 26 (0, 0)) (by (with_reducible repeat (first | refine blk_drewN ?_ _ | refine blk_drew ?_ | refine blk_alloc ?_ _)); refine blk_far ?_ NB216_217.out _; (with_reducible repeat (first | refine blk_drewN ?_ _ | refine blk_drew ?_ | refine blk_alloc ?_ _)); refine blk_far ?_ NB216_217.out _; (with_reducible repeat (first | refine blk_drewN ?_ _ | refine blk_drew ?_ | refine blk_alloc ?_ _)); refine blk_put (cs := #[.float .f32 t211, .float .f32 0]) ?_ 1 _ rfl; (with_reducible repeat (first | refine blk_drewN ?_ _ | refine blk_drew ?_ | refine blk_alloc ?_ _)); refine blk_put (cs := #[.float .f32 0, .float .f32 0]) ?_ 0 _ rfl; (with_reducible repeat (first | refine blk_drewN ?_ _ | refine blk_drew ?_ | refine blk_alloc ?_ _)); exact BK216.out) hb); have n2_ := Aside0.mk (blk_below (g := gb217) (o := .cells #[.float .f32 t213, .float .f32 t214] 26 (0, 0)) (by (with_reducible repeat (first | refine blk_drewN ?_ _ | refine blk_drew ?_ | refine blk_alloc ?_ _)); refine blk_put (cs := #[.float .f32 t213, .float .f32 0]) ?_ 1 _ rfl; (with_reducible repeat (first | refine blk_drewN ?_ _ | refine blk_drew ?_ | refine blk_alloc ?_ _)); refine blk_put (cs := #[.float .f32 0, .float .f32 0]) ?_ 0 _ rfl; (with_reducible repeat (first | refine blk_drewN ?_ _ | refine blk_drew ?_ | refine blk_alloc ?_ _)); refine blk_far ?_ NB217_216.out _; (with_reducible repeat (first | refine blk_drewN ?_ _ | refine blk_drew ?_ | refine blk_alloc ?_ _)); refine blk_far ?_ NB217_216.out _; (with_reducible repeat (first | refine blk_drewN ?_ _ | refine blk_drew ?_ | refine blk_alloc ?_ _)); exact BK217.out) hb); have n3_ := Aside0.mk (below_step (by repeat (first | (with_reducible first | exact HB.out | apply below_alloc | apply pw_below_drewN | apply below_drew1 | refine below_set ?_ GE202.out | refine below_set ?_ GE216.out | refine below_set ?_ GE217.out) | exact HB.out)) hb); clear BK202; clear BK216; clear BK217; clear HB; have BK202 := n0_; have BK216 := n1_; have BK217 := n2_; have HB := n3_; clear n0_ n1_ n2_ n3_; (try clear hb); (try clear hb2); (try clear hk); (try clear hi)))
                  go_meet
                  case rel => exact ⟨_, (true), (by first | rfl | (simp; done) | (simp [*]; done)), H', ⟨by first | omega | exact Nat.le_refl _⟩, ⟨by (with_reducible repeat (first | refine blk_drewN ?_ _ | refine blk_drew ?_ | refine blk_alloc ?_ _)); exact BK202.out⟩, ⟨by (with_reducible repeat (first | refine blk_drewN ?_ _ | refine blk_drew ?_ | refine blk_alloc ?_ _)); exact BK216.out⟩, ⟨by (with_reducible repeat (first | refine blk_drewN ?_ _ | refine blk_drew ?_ | refine blk_alloc ?_ _)); exact BK217.out⟩, ⟨by repeat (first | (with_reducible first | exact HB.out | apply below_alloc | apply pw_below_drewN | apply below_drew1 | refine below_set ?_ GE202.out | refine below_set ?_ GE216.out | refine below_set ?_ GE217.out) | exact HB.out)⟩⟩
            · replace c29 := Bool.eq_false_iff.mpr c29
              subst c29
              have H1 : (laws_FnKeys.j0 k l1 t203 t204 true t200 t201 t211 t212 t213 t214) = some r := by rw [if_neg (show ¬ (false = true) by decide)] at H; exact H
              clear H
              have H := H1
              clear H1
              as_aux_lemma =>
                have H' := Aside0.mk H
                clear H
                go_wp2
                go_meet
                case rel => exact ⟨_, (true), (by first | rfl | (simp; done) | (simp [*]; done)), H', ⟨by first | omega | exact Nat.le_refl _⟩, ⟨by (with_reducible repeat (first | refine blk_drewN ?_ _ | refine blk_drew ?_ | refine blk_alloc ?_ _)); refine blk_far ?_ NB202_217.out _; (with_reducible repeat (first | refine blk_drewN ?_ _ | refine blk_drew ?_ | refine blk_alloc ?_ _)); refine blk_far ?_ NB202_217.out _; (with_reducible repeat (first | refine blk_drewN ?_ _ | refine blk_drew ?_ | refine blk_alloc ?_ _)); refine blk_far ?_ NB202_216.out _; (with_reducible repeat (first | refine blk_drewN ?_ _ | refine blk_drew ?_ | refine blk_alloc ?_ _)); refine blk_far ?_ NB202_216.out _; (with_reducible repeat (first | refine blk_drewN ?_ _ | refine blk_drew ?_ | refine blk_alloc ?_ _)); exact BK202.out⟩, ⟨by (with_reducible repeat (first | refine blk_drewN ?_ _ | refine blk_drew ?_ | refine blk_alloc ?_ _)); refine blk_far ?_ NB216_217.out _; (with_reducible repeat (first | refine blk_drewN ?_ _ | refine blk_drew ?_ | refine blk_alloc ?_ _)); refine blk_far ?_ NB216_217.out _; (with_reducible repeat (first | refine blk_drewN ?_ _ | refine blk_drew ?_ | refine blk_alloc ?_ _)); refine blk_put (cs := #[.float .f32 t211, .float .f32 0]) ?_ 1 _ rfl; (with_reducible repeat (first | refine blk_drewN ?_ _ | refine blk_drew ?_ | refine blk_alloc ?_ _)); refine blk_put (cs := #[.float .f32 0, .float .f32 0]) ?_ 0 _ rfl; (with_reducible repeat (first | refine blk_drewN ?_ _ | refine blk_drew ?_ | refine blk_alloc ?_ _)); exact BK216.out⟩, ⟨by (with_reducible repeat (first | refine blk_drewN ?_ _ | refine blk_drew ?_ | refine blk_alloc ?_ _)); refine blk_put (cs := #[.float .f32 t213, .float .f32 0]) ?_ 1 _ rfl; (with_reducible repeat (first | refine blk_drewN ?_ _ | refine blk_drew ?_ | refine blk_alloc ?_ _)); refine blk_put (cs := #[.float .f32 0, .float .f32 0]) ?_ 0 _ rfl; (with_reducible repeat (first | refine blk_drewN ?_ _ | refine blk_drew ?_ | refine blk_alloc ?_ _)); refine blk_far ?_ NB217_216.out _; (with_reducible repeat (first | refine blk_drewN ?_ _ | refine blk_drew ?_ | refine blk_alloc ?_ _)); refine blk_far ?_ NB217_216.out _; (with_reducible repeat (first | refine blk_drewN ?_ _ | refine blk_drew ?_ | refine blk_alloc ?_ _)); exact BK217.out⟩, ⟨by repeat (first | (with_reducible first | exact HB.out | apply below_alloc | apply pw_below_drewN | apply below_drew1 | refine below_set ?_ GE202.out | refine below_set ?_ GE216.out | refine below_set ?_ GE217.out) | exact HB.out)⟩⟩
          · replace c28 := Bool.eq_false_iff.mpr c28
            subst c28
            have H1 : (laws_FnKeys.j0 k l1 t203 t204 true t200 t201 t211 t212 t213 t214) = some r := by rw [if_neg (show ¬ (false = true) by decide)] at H; exact H
            clear H
            have H := H1
            clear H1
            as_aux_lemma =>
              have H' := Aside0.mk H
              clear H
              go_wp2
              go_meet
              case rel => exact ⟨_, (true), (by first | rfl | (simp; done) | (simp [*]; done)), H', ⟨by first | omega | exact Nat.le_refl _⟩, ⟨by (with_reducible repeat (first | refine blk_drewN ?_ _ | refine blk_drew ?_ | refine blk_alloc ?_ _)); refine blk_far ?_ NB202_217.out _; (with_reducible repeat (first | refine blk_drewN ?_ _ | refine blk_drew ?_ | refine blk_alloc ?_ _)); refine blk_far ?_ NB202_217.out _; (with_reducible repeat (first | refine blk_drewN ?_ _ | refine blk_drew ?_ | refine blk_alloc ?_ _)); refine blk_far ?_ NB202_216.out _; (with_reducible repeat (first | refine blk_drewN ?_ _ | refine blk_drew ?_ | refine blk_alloc ?_ _)); refine blk_far ?_ NB202_216.out _; (with_reducible repeat (first | refine blk_drewN ?_ _ | refine blk_drew ?_ | refine blk_alloc ?_ _)); exact BK202.out⟩, ⟨by (with_reducible repeat (first | refine blk_drewN ?_ _ | refine blk_drew ?_ | refine blk_alloc ?_ _)); refine blk_far ?_ NB216_217.out _; (with_reducible repeat (first | refine blk_drewN ?_ _ | refine blk_drew ?_ | refine blk_alloc ?_ _)); refine blk_far ?_ NB216_217.out _; (with_reducible repeat (first | refine blk_drewN ?_ _ | refine blk_drew ?_ | refine blk_alloc ?_ _)); refine blk_put (cs := #[.float .f32 t211, .float .f32 0]) ?_ 1 _ rfl; (with_reducible repeat (first | refine blk_drewN ?_ _ | refine blk_drew ?_ | refine blk_alloc ?_ _)); refine blk_put (cs := #[.float .f32 0, .float .f32 0]) ?_ 0 _ rfl; (with_reducible repeat (first | refine blk_drewN ?_ _ | refine blk_drew ?_ | refine blk_alloc ?_ _)); exact BK216.out⟩, ⟨by (with_reducible repeat (first | refine blk_drewN ?_ _ | refine blk_drew ?_ | refine blk_alloc ?_ _)); refine blk_put (cs := #[.float .f32 t213, .float .f32 0]) ?_ 1 _ rfl; (with_reducible repeat (first | refine blk_drewN ?_ _ | refine blk_drew ?_ | refine blk_alloc ?_ _)); refine blk_put (cs := #[.float .f32 0, .float .f32 0]) ?_ 0 _ rfl; (with_reducible repeat (first | refine blk_drewN ?_ _ | refine blk_drew ?_ | refine blk_alloc ?_ _)); refine blk_far ?_ NB217_216.out _; (with_reducible repeat (first | refine blk_drewN ?_ _ | refine blk_drew ?_ | refine blk_alloc ?_ _)); refine blk_far ?_ NB217_216.out _; (with_reducible repeat (first | refine blk_drewN ?_ _ | refine blk_drew ?_ | refine blk_alloc ?_ _)); exact BK217.out⟩, ⟨by repeat (first | (with_reducible first | exact HB.out | apply below_alloc | apply pw_below_drewN | apply below_drew1 | refine below_set ?_ GE202.out | refine below_set ?_ GE216.out | refine below_set ?_ GE217.out) | exact HB.out)⟩⟩
        · replace c27 := Bool.eq_false_iff.mpr c27
          subst c27
          have H1 : (laws_FnKeys.j0 k l1 t203 t204 true t200 t201 t211 t212 t213 t214) = some r := by rw [if_neg (show ¬ (false = true) by decide)] at H; exact H
          clear H
          have H := H1
          clear H1
          as_aux_lemma =>
            have H' := Aside0.mk H
            clear H
            go_wp2
            go_meet
            case rel => exact ⟨_, (true), (by first | rfl | (simp; done) | (simp [*]; done)), H', ⟨by first | omega | exact Nat.le_refl _⟩, ⟨by (with_reducible repeat (first | refine blk_drewN ?_ _ | refine blk_drew ?_ | refine blk_alloc ?_ _)); refine blk_far ?_ NB202_217.out _; (with_reducible repeat (first | refine blk_drewN ?_ _ | refine blk_drew ?_ | refine blk_alloc ?_ _)); refine blk_far ?_ NB202_217.out _; (with_reducible repeat (first | refine blk_drewN ?_ _ | refine blk_drew ?_ | refine blk_alloc ?_ _)); refine blk_far ?_ NB202_216.out _; (with_reducible repeat (first | refine blk_drewN ?_ _ | refine blk_drew ?_ | refine blk_alloc ?_ _)); refine blk_far ?_ NB202_216.out _; (with_reducible repeat (first | refine blk_drewN ?_ _ | refine blk_drew ?_ | refine blk_alloc ?_ _)); exact BK202.out⟩, ⟨by (with_reducible repeat (first | refine blk_drewN ?_ _ | refine blk_drew ?_ | refine blk_alloc ?_ _)); refine blk_far ?_ NB216_217.out _; (with_reducible repeat (first | refine blk_drewN ?_ _ | refine blk_drew ?_ | refine blk_alloc ?_ _)); refine blk_far ?_ NB216_217.out _; (with_reducible repeat (first | refine blk_drewN ?_ _ | refine blk_drew ?_ | refine blk_alloc ?_ _)); refine blk_put (cs := #[.float .f32 t211, .float .f32 0]) ?_ 1 _ rfl; (with_reducible repeat (first | refine blk_drewN ?_ _ | refine blk_drew ?_ | refine blk_alloc ?_ _)); refine blk_put (cs := #[.float .f32 0, .float .f32 0]) ?_ 0 _ rfl; (with_reducible repeat (first | refine blk_drewN ?_ _ | refine blk_drew ?_ | refine blk_alloc ?_ _)); exact BK216.out⟩, ⟨by (with_reducible repeat (first | refine blk_drewN ?_ _ | refine blk_drew ?_ | refine blk_alloc ?_ _)); refine blk_put (cs := #[.float .f32 t213, .float .f32 0]) ?_ 1 _ rfl; (with_reducible repeat (first | refine blk_drewN ?_ _ | refine blk_drew ?_ | refine blk_alloc ?_ _)); refine blk_put (cs := #[.float .f32 0, .float .f32 0]) ?_ 0 _ rfl; (with_reducible repeat (first | refine blk_drewN ?_ _ | refine blk_drew ?_ | refine blk_alloc ?_ _)); refine blk_far ?_ NB217_216.out _; (with_reducible repeat (first | refine blk_drewN ?_ _ | refine blk_drew ?_ | refine blk_alloc ?_ _)); refine blk_far ?_ NB217_216.out _; (with_reducible repeat (first | refine blk_drewN ?_ _ | refine blk_drew ?_ | refine blk_alloc ?_ _)); exact BK217.out⟩, ⟨by repeat (first | (with_reducible first | exact HB.out | apply below_alloc | apply pw_below_drewN | apply below_drew1 | refine below_set ?_ GE202.out | refine below_set ?_ GE216.out | refine below_set ?_ GE217.out) | exact HB.out)⟩⟩
      · replace c26 := Bool.eq_false_iff.mpr c26
        subst c26
        have H1 : (laws_FnKeys.j0 k l1 t203 t204 true t200 t201 t211 t212 t213 t214) = some r := by rw [if_neg (show ¬ (false = true) by decide)] at H; exact H
        clear H
        have H := H1
        clear H1
        as_aux_lemma =>
          have H' := Aside0.mk H
          clear H
          go_wp2
          go_meet
          case rel => exact ⟨_, (true), (by first | rfl | (simp; done) | (simp [*]; done)), H', ⟨by first | omega | exact Nat.le_refl _⟩, ⟨by (with_reducible repeat (first | refine blk_drewN ?_ _ | refine blk_drew ?_ | refine blk_alloc ?_ _)); refine blk_far ?_ NB202_217.out _; (with_reducible repeat (first | refine blk_drewN ?_ _ | refine blk_drew ?_ | refine blk_alloc ?_ _)); refine blk_far ?_ NB202_217.out _; (with_reducible repeat (first | refine blk_drewN ?_ _ | refine blk_drew ?_ | refine blk_alloc ?_ _)); refine blk_far ?_ NB202_216.out _; (with_reducible repeat (first | refine blk_drewN ?_ _ | refine blk_drew ?_ | refine blk_alloc ?_ _)); refine blk_far ?_ NB202_216.out _; (with_reducible repeat (first | refine blk_drewN ?_ _ | refine blk_drew ?_ | refine blk_alloc ?_ _)); exact BK202.out⟩, ⟨by (with_reducible repeat (first | refine blk_drewN ?_ _ | refine blk_drew ?_ | refine blk_alloc ?_ _)); refine blk_far ?_ NB216_217.out _; (with_reducible repeat (first | refine blk_drewN ?_ _ | refine blk_drew ?_ | refine blk_alloc ?_ _)); refine blk_far ?_ NB216_217.out _; (with_reducible repeat (first | refine blk_drewN ?_ _ | refine blk_drew ?_ | refine blk_alloc ?_ _)); refine blk_put (cs := #[.float .f32 t211, .float .f32 0]) ?_ 1 _ rfl; (with_reducible repeat (first | refine blk_drewN ?_ _ | refine blk_drew ?_ | refine blk_alloc ?_ _)); refine blk_put (cs := #[.float .f32 0, .float .f32 0]) ?_ 0 _ rfl; (with_reducible repeat (first | refine blk_drewN ?_ _ | refine blk_drew ?_ | refine blk_alloc ?_ _)); exact BK216.out⟩, ⟨by (with_reducible repeat (first | refine blk_drewN ?_ _ | refine blk_drew ?_ | refine blk_alloc ?_ _)); refine blk_put (cs := #[.float .f32 t213, .float .f32 0]) ?_ 1 _ rfl; (with_reducible repeat (first | refine blk_drewN ?_ _ | refine blk_drew ?_ | refine blk_alloc ?_ _)); refine blk_put (cs := #[.float .f32 0, .float .f32 0]) ?_ 0 _ rfl; (with_reducible repeat (first | refine blk_drewN ?_ _ | refine blk_drew ?_ | refine blk_alloc ?_ _)); refine blk_far ?_ NB217_216.out _; (with_reducible repeat (first | refine blk_drewN ?_ _ | refine blk_drew ?_ | refine blk_alloc ?_ _)); refine blk_far ?_ NB217_216.out _; (with_reducible repeat (first | refine blk_drewN ?_ _ | refine blk_drew ?_ | refine blk_alloc ?_ _)); exact BK217.out⟩, ⟨by repeat (first | (with_reducible first | exact HB.out | apply below_alloc | apply pw_below_drewN | apply below_drew1 | refine below_set ?_ GE202.out | refine below_set ?_ GE216.out | refine below_set ?_ GE217.out) | exact HB.out)⟩⟩
    case rest =>
      clear HC11
      try clear c1
      try clear c2
      try clear p2
      try clear c3
      try clear c4
      try clear c5
      try clear c6
      try clear c8
      try clear c9
      try clear c10
      try clear c11
      try clear c12
      try clear c13
      try clear c14
      try clear c21
      try clear c22
      try clear c24
      try clear c26
      try clear c27
      try clear c28
      try clear c29
      try clear c31
      try clear c32
      try clear c32b0
      try clear c32b1
      try clear c33
      try clear c33b0
      try clear c33b1
      try clear c34
      try clear c34b0
      try clear c36
      try clear c37
      try clear c39
      try clear c41
      try clear c41b0
      try clear c43
      try clear c44
      try clear c46
      try clear c51
      try clear c51b0
      try clear c53
      try clear c54
      try clear c56
      try clear c63
      try clear c64
      try clear c66
      try clear hcz14_0
      try clear hcz14_1
      try clear hcz23_0
      try clear hcz23_1
      try clear hcz25_0
      try clear hcz25_1
      try clear hcz38_0
      try clear hcz38_1
      try clear hcz40_0
      try clear hcz40_1
      try clear hcz45_0
      try clear hcz45_1
      try clear hcz47_0
      try clear hcz47_1
      try clear hcz55_0
      try clear hcz55_1
      try clear hcz57_0
      try clear hcz57_1
      try clear hcz58_0
      try clear hcz58_1
      try clear hcz65_0
      try clear hcz65_1
      try clear hcz67_0
      try clear hcz67_1
      try clear hcz68_0
      try clear hcz68_1
      try clear hfz14_0
      try clear hfz14_1
      try clear hfz23_0
      try clear hfz23_1
      try clear hfz25_0
      try clear hfz25_1
      try clear hfz38_0
      try clear hfz38_1
      try clear hfz40_0
      try clear hfz40_1
      try clear hfz45_0
      try clear hfz45_1
      try clear hfz47_0
      try clear hfz47_1
      try clear hfz55_0
      try clear hfz55_1
      try clear hfz57_0
      try clear hfz57_1
      try clear hfz58_0
      try clear hfz58_1
      try clear hfz65_0
      try clear hfz65_1
      try clear hfz67_0
      try clear hfz67_1
      try clear hfz68_0
      try clear hfz68_1
      obtain ⟨kq, x128_10, rfl, HA, HJ10, BK202, BK216, BK217, HB⟩ := hcut
      cases kq with
      | zero => exact absurd HA.out (by simp [laws_FnKeys.j0])
      | succ kj10 =>
        have H := HA.out
        clear HA
        simp only [laws_FnKeys.j0] at H
        by_cases c72 : x128_10 = true
        · subst c72
          have H1 : (some false) = some r := by rw [if_pos rfl] at H; exact H
          clear H
          have H := H1
          clear H1
          as_aux_lemma =>
            obtain rfl := Option.some.inj H
            go_wp2
            go_ret
            exact ⟨by first | rfl | (simp [errW_none, errW_some] <;> rfl) | (simp [*, errW_none, errW_some] <;> rfl), by repeat (first | (with_reducible first | exact HB.out | apply below_alloc | apply pw_below_drewN | apply below_drew1 | refine below_set ?_ GE202.out | refine below_set ?_ GE216.out | refine below_set ?_ GE217.out) | exact HB.out)⟩
        · replace c72 := Bool.eq_false_iff.mpr c72
          subst c72
          have H1 : ((impl_KeyOf.f kj10 t211 t212 t203).bind fun bt225 => ((impl_KeyOf.f kj10 t213 t214 t203).bind fun bt227 => (if bt225.2 = true then (if bt227.2 = true then (if bt225.1.toList = t204.toList then (laws_FnKeys.j1 kj10 l1 t203 t204 (bt227.1.toList != t204.toList) t200 t201) else (laws_FnKeys.j1 kj10 l1 t203 t204 true t200 t201)) else (laws_FnKeys.j1 kj10 l1 t203 t204 true t200 t201)) else (laws_FnKeys.j1 kj10 l1 t203 t204 true t200 t201)))) = some r := by rw [if_neg (show ¬ (false = true) by decide)] at H; exact H
          clear H
          have H := H1
          clear H1
          replace H := Option.bind_eq_some_iff.mp H
          obtain ⟨⟨t225, t226⟩, A730, H⟩ := H
          replace H : ((impl_KeyOf.f kj10 t213 t214 t203).bind fun bt227 => (if t226 = true then (if bt227.2 = true then (if t225.toList = t204.toList then (laws_FnKeys.j1 kj10 l1 t203 t204 (bt227.1.toList != t204.toList) t200 t201) else (laws_FnKeys.j1 kj10 l1 t203 t204 true t200 t201)) else (laws_FnKeys.j1 kj10 l1 t203 t204 true t200 t201)) else (laws_FnKeys.j1 kj10 l1 t203 t204 true t200 t201))) = some r := H
          have A73 := Aside0.mk A730
          clear A730
          replace H := Option.bind_eq_some_iff.mp H
          obtain ⟨⟨t227, t228⟩, A740, H⟩ := H
          replace H : (if t226 = true then (if t228 = true then (if t225.toList = t204.toList then (laws_FnKeys.j1 kj10 l1 t203 t204 (t227.toList != t204.toList) t200 t201) else (laws_FnKeys.j1 kj10 l1 t203 t204 true t200 t201)) else (laws_FnKeys.j1 kj10 l1 t203 t204 true t200 t201)) else (laws_FnKeys.j1 kj10 l1 t203 t204 true t200 t201)) = some r := H
          have A74 := Aside0.mk A740
          clear A740
          have HC75 := Aside0.mk H
          clear H
          have hnb76 := NB216_202.out
          have hnc76 := NB202_216.out
          have hnb77 := NB216_217.out
          have hnc77 := NB217_216.out
          have hcz78_0 : wc.cell? ⟨gb216, 0, none⟩ = some (.float .f32 t211) := (blk_cell BK216.out 0).trans rfl
          have hcz78_1 : wc.cell? ⟨gb216, 1, none⟩ = some (.float .f32 t212) := (blk_cell BK216.out 1).trans rfl
          have hfz78_0 := blk_frozen BK216.out 0
          have hfz78_1 := blk_frozen BK216.out 1
          go_upto_region 13 with (first | ((with_reducible refine gate_callee (f := 11) rfl ?_); refine goesL_ (some 132) rfl rfl Tryd.func11 (by kernel_rfl) rfl #[.agg #[.float .f32 t211, .float .f32 t212], .int .i64 t203] rfl (by (try simp only [List.map_toArray, List.map_cons, List.map_nil]); first | done | rfl | (simp only [List.length_drop, List.length_take]; rfl)) ?_; (with_reducible refine (impl_KeyOf.calls kj10 t211 t212 t203 t225 t226 _ A73.out).mono ?_); rintro e w79 ⟨rfl, hb⟩; refine ⟨_, rfl, ?_⟩; have n0_ := Aside0.mk (blk_below (g := gb202) (o := .cells #[.float .f32 t200, .float .f32 t201] 26 (0, 0)) (by (with_reducible repeat (first | refine blk_drewN ?_ _ | refine blk_drew ?_ | refine blk_alloc ?_ _)); exact BK202.out) hb); have n1_ := Aside0.mk (blk_below (g := gb216) (o := .cells #[.float .f32 t211, .float .f32 t212] 26 (0, 0)) (by (with_reducible repeat (first | refine blk_drewN ?_ _ | refine blk_drew ?_ | refine blk_alloc ?_ _)); exact BK216.out) hb); have n2_ := Aside0.mk (blk_below (g := gb217) (o := .cells #[.float .f32 t213, .float .f32 t214] 26 (0, 0)) (by (with_reducible repeat (first | refine blk_drewN ?_ _ | refine blk_drew ?_ | refine blk_alloc ?_ _)); exact BK217.out) hb); have n3_ := Aside0.mk (below_step (by repeat (first | (with_reducible first | exact HB.out | apply below_alloc | apply pw_below_drewN | apply below_drew1 | refine below_set ?_ GE202.out | refine below_set ?_ GE216.out | refine below_set ?_ GE217.out) | exact HB.out)) hb); clear BK202; clear BK216; clear BK217; clear HB; have BK202 := n0_; have BK216 := n1_; have BK217 := n2_; have HB := n3_; clear n0_ n1_ n2_ n3_; (try clear hb); (try clear hb2); (try clear hk); (try clear hi); have hnb80 := NB217_202.out; have hnc80 := NB202_217.out; have hcz81_0 : w79.cell? ⟨gb217, 0, none⟩ = some (.float .f32 t213) := (blk_cell BK217.out 0).trans rfl; have hcz81_1 : w79.cell? ⟨gb217, 1, none⟩ = some (.float .f32 t214) := (blk_cell BK217.out 1).trans rfl; have hfz81_0 := blk_frozen BK217.out 0; have hfz81_1 := blk_frozen BK217.out 1) | ((with_reducible refine gate_callee (f := 11) rfl ?_); refine goesL_ (some 138) rfl rfl Tryd.func11 (by kernel_rfl) rfl #[.agg #[.float .f32 t213, .float .f32 t214], .int .i64 t203] rfl (by (try simp only [List.map_toArray, List.map_cons, List.map_nil]); first | done | rfl | (simp only [List.length_drop, List.length_take]; rfl)) ?_; (with_reducible refine (impl_KeyOf.calls kj10 t213 t214 t203 t227 t228 _ A74.out).mono ?_); rintro e w82 ⟨rfl, hb⟩; refine ⟨_, rfl, ?_⟩; have n0_ := Aside0.mk (blk_below (g := gb202) (o := .cells #[.float .f32 t200, .float .f32 t201] 26 (0, 0)) (by (with_reducible repeat (first | refine blk_drewN ?_ _ | refine blk_drew ?_ | refine blk_alloc ?_ _)); exact BK202.out) hb); have n1_ := Aside0.mk (blk_below (g := gb216) (o := .cells #[.float .f32 t211, .float .f32 t212] 26 (0, 0)) (by (with_reducible repeat (first | refine blk_drewN ?_ _ | refine blk_drew ?_ | refine blk_alloc ?_ _)); exact BK216.out) hb); have n2_ := Aside0.mk (blk_below (g := gb217) (o := .cells #[.float .f32 t213, .float .f32 t214] 26 (0, 0)) (by (with_reducible repeat (first | refine blk_drewN ?_ _ | refine blk_drew ?_ | refine blk_alloc ?_ _)); exact BK217.out) hb); have n3_ := Aside0.mk (below_step (by repeat (first | (with_reducible first | exact HB.out | apply below_alloc | apply pw_below_drewN | apply below_drew1 | refine below_set ?_ GE202.out | refine below_set ?_ GE216.out | refine below_set ?_ GE217.out) | exact HB.out)) hb); clear BK202; clear BK216; clear BK217; clear HB; have BK202 := n0_; have BK216 := n1_; have BK217 := n2_; have HB := n3_; clear n0_ n1_ n2_ n3_; (try clear hb); (try clear hb2); (try clear hk); (try clear hi)))
          (try simp only [Act.put, List.setIfInBounds_toArray, List.set_cons_zero, List.set_cons_succ])
          go_cut [156] (fun v156 wc => ∃ (kq : Nat) (x156_74 : Bool), v156 = .bool x156_74 ∧ Aside0 (laws_FnKeys.j1 kq l1 t203 t204 x156_74 t200 t201 = some r) ∧ Aside0 (kq ≤ kj10) ∧ Aside0 (wc.heap[gb202]? = some (.cells #[.float .f32 t200, .float .f32 t201] 26 (0, 0))) ∧ Aside0 (wc.heap[gb216]? = some (.cells #[.float .f32 t211, .float .f32 t212] 26 (0, 0))) ∧ Aside0 (wc.heap[gb217]? = some (.cells #[.float .f32 t213, .float .f32 t214] 26 (0, 0))) ∧ Aside0 (Below w.heap.size w wc))
          case first =>
            have H := HC75.out
            clear HC75
            by_cases c83 : t226 = true
            · subst c83
              have H1 : (if t228 = true then (if t225.toList = t204.toList then (laws_FnKeys.j1 kj10 l1 t203 t204 (t227.toList != t204.toList) t200 t201) else (laws_FnKeys.j1 kj10 l1 t203 t204 true t200 t201)) else (laws_FnKeys.j1 kj10 l1 t203 t204 true t200 t201)) = some r := by rw [if_pos rfl] at H; exact H
              clear H
              have H := H1
              clear H1
              by_cases c84 : t228 = true
              · subst c84
                have H1 : (if t225.toList = t204.toList then (laws_FnKeys.j1 kj10 l1 t203 t204 (t227.toList != t204.toList) t200 t201) else (laws_FnKeys.j1 kj10 l1 t203 t204 true t200 t201)) = some r := by rw [if_pos rfl] at H; exact H
                clear H
                have H := H1
                clear H1
                by_cases c85 : t225.toList = t204.toList
                · rw [if_pos c85] at H
                  have c85b0 : (t225.toList == t204.toList) = true := beq_iff_eq.mpr c85
                  have c85b1 : (t225.toList != t204.toList) = false := bne_eq_false_iff_eq.mpr c85
                  clear c85
                  (first | rw [c85b0] | (simp only [i64_w, i32_w]; rw [c85b0]) | skip)
                  as_aux_lemma =>
                    have H' := Aside0.mk H
                    clear H
                    go_wp2
                    go_meet
                    case rel => exact ⟨_, ((t227.toList != t204.toList)), (by first | rfl | (simp; done) | (simp [*]; done)), H', ⟨by have := HJ10.out; first | omega | exact Nat.le_refl _⟩, ⟨by (with_reducible repeat (first | refine blk_drewN ?_ _ | refine blk_drew ?_ | refine blk_alloc ?_ _)); exact BK202.out⟩, ⟨by (with_reducible repeat (first | refine blk_drewN ?_ _ | refine blk_drew ?_ | refine blk_alloc ?_ _)); exact BK216.out⟩, ⟨by (with_reducible repeat (first | refine blk_drewN ?_ _ | refine blk_drew ?_ | refine blk_alloc ?_ _)); exact BK217.out⟩, ⟨by repeat (first | (with_reducible first | exact HB.out | apply below_alloc | apply pw_below_drewN | apply below_drew1 | refine below_set ?_ GE202.out | refine below_set ?_ GE216.out | refine below_set ?_ GE217.out) | exact HB.out)⟩⟩
                · rw [if_neg c85] at H
                  have c85b0 : (t225.toList == t204.toList) = false := beq_eq_false_iff_ne.mpr c85
                  have c85b1 : (t225.toList != t204.toList) = true := bne_iff_ne.mpr c85
                  (first | rw [c85b0] | (simp only [i64_w, i32_w]; rw [c85b0]) | skip)
                  as_aux_lemma =>
                    have H' := Aside0.mk H
                    clear H
                    go_wp2
                    go_meet
                    case rel => exact ⟨_, (true), (by first | rfl | (simp; done) | (simp [*]; done)), H', ⟨by have := HJ10.out; first | omega | exact Nat.le_refl _⟩, ⟨by (with_reducible repeat (first | refine blk_drewN ?_ _ | refine blk_drew ?_ | refine blk_alloc ?_ _)); exact BK202.out⟩, ⟨by (with_reducible repeat (first | refine blk_drewN ?_ _ | refine blk_drew ?_ | refine blk_alloc ?_ _)); exact BK216.out⟩, ⟨by (with_reducible repeat (first | refine blk_drewN ?_ _ | refine blk_drew ?_ | refine blk_alloc ?_ _)); exact BK217.out⟩, ⟨by repeat (first | (with_reducible first | exact HB.out | apply below_alloc | apply pw_below_drewN | apply below_drew1 | refine below_set ?_ GE202.out | refine below_set ?_ GE216.out | refine below_set ?_ GE217.out) | exact HB.out)⟩⟩
              · replace c84 := Bool.eq_false_iff.mpr c84
                subst c84
                have H1 : (laws_FnKeys.j1 kj10 l1 t203 t204 true t200 t201) = some r := by rw [if_neg (show ¬ (false = true) by decide)] at H; exact H
                clear H
                have H := H1
                clear H1
                as_aux_lemma =>
                  have H' := Aside0.mk H
                  clear H
                  go_wp2
                  go_meet
                  case rel => exact ⟨_, (true), (by first | rfl | (simp; done) | (simp [*]; done)), H', ⟨by have := HJ10.out; first | omega | exact Nat.le_refl _⟩, ⟨by (with_reducible repeat (first | refine blk_drewN ?_ _ | refine blk_drew ?_ | refine blk_alloc ?_ _)); exact BK202.out⟩, ⟨by (with_reducible repeat (first | refine blk_drewN ?_ _ | refine blk_drew ?_ | refine blk_alloc ?_ _)); exact BK216.out⟩, ⟨by (with_reducible repeat (first | refine blk_drewN ?_ _ | refine blk_drew ?_ | refine blk_alloc ?_ _)); exact BK217.out⟩, ⟨by repeat (first | (with_reducible first | exact HB.out | apply below_alloc | apply pw_below_drewN | apply below_drew1 | refine below_set ?_ GE202.out | refine below_set ?_ GE216.out | refine below_set ?_ GE217.out) | exact HB.out)⟩⟩
            · replace c83 := Bool.eq_false_iff.mpr c83
              subst c83
              have H1 : (laws_FnKeys.j1 kj10 l1 t203 t204 true t200 t201) = some r := by rw [if_neg (show ¬ (false = true) by decide)] at H; exact H
              clear H
              have H := H1
              clear H1
              as_aux_lemma =>
                have H' := Aside0.mk H
                clear H
                go_wp2
                go_meet
                case rel => exact ⟨_, (true), (by first | rfl | (simp; done) | (simp [*]; done)), H', ⟨by have := HJ10.out; first | omega | exact Nat.le_refl _⟩, ⟨by (with_reducible repeat (first | refine blk_drewN ?_ _ | refine blk_drew ?_ | refine blk_alloc ?_ _)); exact BK202.out⟩, ⟨by (with_reducible repeat (first | refine blk_drewN ?_ _ | refine blk_drew ?_ | refine blk_alloc ?_ _)); exact BK216.out⟩, ⟨by (with_reducible repeat (first | refine blk_drewN ?_ _ | refine blk_drew ?_ | refine blk_alloc ?_ _)); exact BK217.out⟩, ⟨by repeat (first | (with_reducible first | exact HB.out | apply below_alloc | apply pw_below_drewN | apply below_drew1 | refine below_set ?_ GE202.out | refine below_set ?_ GE216.out | refine below_set ?_ GE217.out) | exact HB.out)⟩⟩
          case rest =>
            clear HC75
            try clear c1
            try clear c2
            try clear p2
            try clear c3
            try clear c4
            try clear c5
            try clear c6
            try clear c7
            try clear c8
            try clear c9
            try clear c10
            try clear c11
            try clear c12
            try clear c13
            try clear c14
            try clear c21
            try clear c22
            try clear c24
            try clear c26
            try clear c27
            try clear c28
            try clear c29
            try clear c31
            try clear c32
            try clear c32b0
            try clear c32b1
            try clear c33
            try clear c33b0
            try clear c33b1
            try clear c34
            try clear c34b0
            try clear c36
            try clear c37
            try clear c39
            try clear c41
            try clear c41b0
            try clear c43
            try clear c44
            try clear c46
            try clear c51
            try clear c51b0
            try clear c53
            try clear c54
            try clear c56
            try clear c63
            try clear c64
            try clear c66
            try clear c72
            try clear c76
            try clear c77
            try clear c80
            try clear c83
            try clear c84
            try clear c85
            try clear c85b0
            try clear c85b1
            try clear hcz14_0
            try clear hcz14_1
            try clear hcz23_0
            try clear hcz23_1
            try clear hcz25_0
            try clear hcz25_1
            try clear hcz38_0
            try clear hcz38_1
            try clear hcz40_0
            try clear hcz40_1
            try clear hcz45_0
            try clear hcz45_1
            try clear hcz47_0
            try clear hcz47_1
            try clear hcz55_0
            try clear hcz55_1
            try clear hcz57_0
            try clear hcz57_1
            try clear hcz58_0
            try clear hcz58_1
            try clear hcz65_0
            try clear hcz65_1
            try clear hcz67_0
            try clear hcz67_1
            try clear hcz68_0
            try clear hcz68_1
            try clear hcz78_0
            try clear hcz78_1
            try clear hcz81_0
            try clear hcz81_1
            try clear hfz14_0
            try clear hfz14_1
            try clear hfz23_0
            try clear hfz23_1
            try clear hfz25_0
            try clear hfz25_1
            try clear hfz38_0
            try clear hfz38_1
            try clear hfz40_0
            try clear hfz40_1
            try clear hfz45_0
            try clear hfz45_1
            try clear hfz47_0
            try clear hfz47_1
            try clear hfz55_0
            try clear hfz55_1
            try clear hfz57_0
            try clear hfz57_1
            try clear hfz58_0
            try clear hfz58_1
            try clear hfz65_0
            try clear hfz65_1
            try clear hfz67_0
            try clear hfz67_1
            try clear hfz68_0
            try clear hfz68_1
            try clear hfz78_0
            try clear hfz78_1
            try clear hfz81_0
            try clear hfz81_1
            try clear p2
            obtain ⟨kq, x156_74, rfl, HA, HJ74, BK202, BK216, BK217, HB⟩ := hcut
            cases kq with
            | zero => exact absurd HA.out (by simp [laws_FnKeys.j1])
            | succ kj74 =>
              have H := HA.out
              clear HA
              simp only [laws_FnKeys.j1] at H
              by_cases c86 : x156_74 = true
              · subst c86
                have H1 : (some false) = some r := by rw [if_pos rfl] at H; exact H
                clear H
                have H := H1
                clear H1
                as_aux_lemma =>
                  obtain rfl := Option.some.inj H
                  go_wp2
                  go_ret
                  exact ⟨by first | rfl | (simp [errW_none, errW_some] <;> rfl) | (simp [*, errW_none, errW_some] <;> rfl), by repeat (first | (with_reducible first | exact HB.out | apply below_alloc | apply pw_below_drewN | apply below_drew1 | refine below_set ?_ GE202.out | refine below_set ?_ GE216.out | refine below_set ?_ GE217.out) | exact HB.out)⟩
              · replace c86 := Bool.eq_false_iff.mpr c86
                subst c86
                have H1 : ((laws_b10At.f l1 1 21).bind fun t229 => ((laws_b10At.f l1 2 7).bind fun t230 => ((spec_KeyBeside.f kj74 t204 (wrap64 (t229 - 10)) (wrap64 (t230 - 3))).bind fun bt231 => ((impl_KeyBeside.f kj74 t204 (wrap64 (t229 - 10)) (wrap64 (t230 - 3))).bind fun bt233 => (if (bt233.2 != bt231.2) = true then (some false) else (if bt233.2 = true then ((impl_KeyBeside.f kj74 bt233.1 (wrap64 (-(wrap64 (t229 - 10)))) (wrap64 (-(wrap64 (t230 - 3))))).bind fun bt235 => (if bt235.2 = true then (if bt235.1.toList = t204.toList then (laws_FnKeys.j2 kj74 t203 t204 t200 t201) else (some false)) else (some false))) else (laws_FnKeys.j2 kj74 t203 t204 t200 t201))))))) = some r := by rw [if_neg (show ¬ (false = true) by decide)] at H; exact H
                clear H
                have H := H1
                clear H1
                replace H := Option.bind_eq_some_iff.mp H
                obtain ⟨t229, A870, H⟩ := H
                replace H : ((laws_b10At.f l1 2 7).bind fun t230 => ((spec_KeyBeside.f kj74 t204 (wrap64 (t229 - 10)) (wrap64 (t230 - 3))).bind fun bt231 => ((impl_KeyBeside.f kj74 t204 (wrap64 (t229 - 10)) (wrap64 (t230 - 3))).bind fun bt233 => (if (bt233.2 != bt231.2) = true then (some false) else (if bt233.2 = true then ((impl_KeyBeside.f kj74 bt233.1 (wrap64 (-(wrap64 (t229 - 10)))) (wrap64 (-(wrap64 (t230 - 3))))).bind fun bt235 => (if bt235.2 = true then (if bt235.1.toList = t204.toList then (laws_FnKeys.j2 kj74 t203 t204 t200 t201) else (some false)) else (some false))) else (laws_FnKeys.j2 kj74 t203 t204 t200 t201)))))) = some r := H
                have A87 := Aside0.mk A870
                clear A870
                replace H := Option.bind_eq_some_iff.mp H
                obtain ⟨t230, A880, H⟩ := H
                replace H : ((spec_KeyBeside.f kj74 t204 (wrap64 (t229 - 10)) (wrap64 (t230 - 3))).bind fun bt231 => ((impl_KeyBeside.f kj74 t204 (wrap64 (t229 - 10)) (wrap64 (t230 - 3))).bind fun bt233 => (if (bt233.2 != bt231.2) = true then (some false) else (if bt233.2 = true then ((impl_KeyBeside.f kj74 bt233.1 (wrap64 (-(wrap64 (t229 - 10)))) (wrap64 (-(wrap64 (t230 - 3))))).bind fun bt235 => (if bt235.2 = true then (if bt235.1.toList = t204.toList then (laws_FnKeys.j2 kj74 t203 t204 t200 t201) else (some false)) else (some false))) else (laws_FnKeys.j2 kj74 t203 t204 t200 t201))))) = some r := H
                have A88 := Aside0.mk A880
                clear A880
                replace H := Option.bind_eq_some_iff.mp H
                obtain ⟨⟨t231, t232⟩, A890, H⟩ := H
                replace H : ((impl_KeyBeside.f kj74 t204 (wrap64 (t229 - 10)) (wrap64 (t230 - 3))).bind fun bt233 => (if (bt233.2 != t232) = true then (some false) else (if bt233.2 = true then ((impl_KeyBeside.f kj74 bt233.1 (wrap64 (-(wrap64 (t229 - 10)))) (wrap64 (-(wrap64 (t230 - 3))))).bind fun bt235 => (if bt235.2 = true then (if bt235.1.toList = t204.toList then (laws_FnKeys.j2 kj74 t203 t204 t200 t201) else (some false)) else (some false))) else (laws_FnKeys.j2 kj74 t203 t204 t200 t201)))) = some r := H
                have A89 := Aside0.mk A890
                clear A890
                replace H := Option.bind_eq_some_iff.mp H
                obtain ⟨⟨t233, t234⟩, A900, H⟩ := H
                replace H : (if (t234 != t232) = true then (some false) else (if t234 = true then ((impl_KeyBeside.f kj74 t233 (wrap64 (-(wrap64 (t229 - 10)))) (wrap64 (-(wrap64 (t230 - 3))))).bind fun bt235 => (if bt235.2 = true then (if bt235.1.toList = t204.toList then (laws_FnKeys.j2 kj74 t203 t204 t200 t201) else (some false)) else (some false))) else (laws_FnKeys.j2 kj74 t203 t204 t200 t201))) = some r := H
                have A90 := Aside0.mk A900
                clear A900
                by_cases c91 : (t234 != t232) = true
                · rw [if_pos c91] at H
                  have c91b0 : (t234 != t232) = true := c91
                  (try (have c91b1 : decide (t234 = t232) = false := by simpa using c91))
                  (try (have c91b2 : (t234 == t232) = false := by simpa using c91))
                  (try (have c91b3 : ¬ (t234 = t232) := by simpa using c91))
                  clear c91
                  as_aux_lemma =>
                    obtain rfl := Option.some.inj H
                    go_wp2_with (first | ((with_reducible refine gate_callee (f := 10) rfl ?_); refine goesL_ (some 158) rfl rfl Tryd.func10 (by kernel_rfl) rfl #[.slice A1 l1.length c1, .int .i64 1, .int .i64 21] rfl (by (try simp only [List.map_toArray, List.map_cons, List.map_nil]); first | done | rfl | (simp only [List.length_drop, List.length_take]; rfl)) ?_; (with_reducible refine (laws_b10At.calls _ _ l1 1 21 t229 _ ?side1 ?side2 A87.out).mono ?_); (case side1 => repeat (first | exact (Kd.C_below HR1.out HB.out) | (with_reducible refine Kd.C_alloc ?_ _) | (with_reducible refine Kd.C_drewN ?_ _) | (with_reducible refine Kd.C_drew ?_))); (case side2 => exact HC1.out); rintro e w' ⟨rfl, ⟨nd, rfl⟩⟩; refine ⟨_, rfl, ?_⟩) | ((with_reducible refine gate_callee (f := 10) rfl ?_); refine goesL_ (some 161) rfl rfl Tryd.func10 (by kernel_rfl) rfl #[.slice A1 l1.length c1, .int .i64 2, .int .i64 7] rfl (by (try simp only [List.map_toArray, List.map_cons, List.map_nil]); first | done | rfl | (simp only [List.length_drop, List.length_take]; rfl)) ?_; (with_reducible refine (laws_b10At.calls _ _ l1 2 7 t230 _ ?side1 ?side2 A88.out).mono ?_); (case side1 => repeat (first | exact (Kd.C_below HR1.out (by repeat (first | (with_reducible first | exact HB.out | apply below_alloc | apply pw_below_drewN | apply below_drew1 | refine below_set ?_ GE202.out | refine below_set ?_ GE216.out | refine below_set ?_ GE217.out) | exact HB.out))) | (with_reducible refine Kd.C_alloc ?_ _) | (with_reducible refine Kd.C_drewN ?_ _) | (with_reducible refine Kd.C_drew ?_))); (case side2 => exact HC1.out); rintro e w' ⟨rfl, ⟨nd, rfl⟩⟩; refine ⟨_, rfl, ?_⟩) | ((with_reducible refine gate_callee (f := 16) rfl ?_); refine goesL_ (some 167) rfl rfl Tryd.func16 (by kernel_rfl) rfl #[.string t204, .int .i64 (wrap64 (t229 - 10)), .int .i64 (wrap64 (t230 - 3))] rfl (by (try simp only [List.map_toArray, List.map_cons, List.map_nil]); first | done | rfl | (simp only [List.length_drop, List.length_take]; rfl)) ?_; (with_reducible refine (spec_KeyBeside.calls kj74 t204 (wrap64 (t229 - 10)) (wrap64 (t230 - 3)) t231 t232 _ A89.out).mono ?_); rintro e w92 ⟨rfl, hb⟩; refine ⟨_, rfl, ?_⟩; have n0_ := Aside0.mk (blk_below (g := gb202) (o := .cells #[.float .f32 t200, .float .f32 t201] 26 (0, 0)) (by (with_reducible repeat (first | refine blk_drewN ?_ _ | refine blk_drew ?_ | refine blk_alloc ?_ _)); exact BK202.out) hb); have n1_ := Aside0.mk (blk_below (g := gb216) (o := .cells #[.float .f32 t211, .float .f32 t212] 26 (0, 0)) (by (with_reducible repeat (first | refine blk_drewN ?_ _ | refine blk_drew ?_ | refine blk_alloc ?_ _)); exact BK216.out) hb); have n2_ := Aside0.mk (blk_below (g := gb217) (o := .cells #[.float .f32 t213, .float .f32 t214] 26 (0, 0)) (by (with_reducible repeat (first | refine blk_drewN ?_ _ | refine blk_drew ?_ | refine blk_alloc ?_ _)); exact BK217.out) hb); have n3_ := Aside0.mk (below_step (by repeat (first | (with_reducible first | exact HB.out | apply below_alloc | apply pw_below_drewN | apply below_drew1 | refine below_set ?_ GE202.out | refine below_set ?_ GE216.out | refine below_set ?_ GE217.out) | exact HB.out)) hb); clear BK202; clear BK216; clear BK217; clear HB; have BK202 := n0_; have BK216 := n1_; have BK217 := n2_; have HB := n3_; clear n0_ n1_ n2_ n3_; (try clear hb); (try clear hb2); (try clear hk); (try clear hi)) | ((with_reducible refine gate_callee (f := 17) rfl ?_); refine goesL_ (some 174) rfl rfl Tryd.func17 (by kernel_rfl) rfl #[.string t204, .int .i64 (wrap64 (t229 - 10)), .int .i64 (wrap64 (t230 - 3))] rfl (by (try simp only [List.map_toArray, List.map_cons, List.map_nil]); first | done | rfl | (simp only [List.length_drop, List.length_take]; rfl)) ?_; (with_reducible refine (impl_KeyBeside.calls kj74 t204 (wrap64 (t229 - 10)) (wrap64 (t230 - 3)) t233 t234 _ A90.out).mono ?_); rintro e w93 ⟨rfl, hb⟩; refine ⟨_, rfl, ?_⟩; have n0_ := Aside0.mk (blk_below (g := gb202) (o := .cells #[.float .f32 t200, .float .f32 t201] 26 (0, 0)) (by (with_reducible repeat (first | refine blk_drewN ?_ _ | refine blk_drew ?_ | refine blk_alloc ?_ _)); exact BK202.out) hb); have n1_ := Aside0.mk (blk_below (g := gb216) (o := .cells #[.float .f32 t211, .float .f32 t212] 26 (0, 0)) (by (with_reducible repeat (first | refine blk_drewN ?_ _ | refine blk_drew ?_ | refine blk_alloc ?_ _)); exact BK216.out) hb); have n2_ := Aside0.mk (blk_below (g := gb217) (o := .cells #[.float .f32 t213, .float .f32 t214] 26 (0, 0)) (by (with_reducible repeat (first | refine blk_drewN ?_ _ | refine blk_drew ?_ | refine blk_alloc ?_ _)); exact BK217.out) hb); have n3_ := Aside0.mk (below_step (by repeat (first | (with_reducible first | exact HB.out | apply below_alloc | apply pw_below_drewN | apply below_drew1 | refine below_set ?_ GE202.out | refine below_set ?_ GE216.out | refine below_set ?_ GE217.out) | exact HB.out)) hb); clear BK202; clear BK216; clear BK217; clear HB; have BK202 := n0_; have BK216 := n1_; have BK217 := n2_; have HB := n3_; clear n0_ n1_ n2_ n3_; (try clear hb); (try clear hb2); (try clear hk); (try clear hi)))
                    go_ret
                    exact ⟨by first | rfl | (simp [errW_none, errW_some] <;> rfl) | (simp [*, errW_none, errW_some] <;> rfl), by repeat (first | (with_reducible first | exact HB.out | apply below_alloc | apply pw_below_drewN | apply below_drew1 | refine below_set ?_ GE202.out | refine below_set ?_ GE216.out | refine below_set ?_ GE217.out) | exact HB.out)⟩
                · rw [if_neg c91] at H
                  have c91b0 : (t234 != t232) = false := by simpa using c91
                  (try (have c91b1 : decide (t234 = t232) = true := by simpa using c91))
                  (try (have c91b2 : (t234 == t232) = true := by simpa using c91))
                  clear c91
                  have HC94 := Aside0.mk H
                  clear H
                  go_upto_if 180 with (first | ((with_reducible refine gate_callee (f := 10) rfl ?_); refine goesL_ (some 158) rfl rfl Tryd.func10 (by kernel_rfl) rfl #[.slice A1 l1.length c1, .int .i64 1, .int .i64 21] rfl (by (try simp only [List.map_toArray, List.map_cons, List.map_nil]); first | done | rfl | (simp only [List.length_drop, List.length_take]; rfl)) ?_; (with_reducible refine (laws_b10At.calls _ _ l1 1 21 t229 _ ?side1 ?side2 A87.out).mono ?_); (case side1 => repeat (first | exact (Kd.C_below HR1.out HB.out) | (with_reducible refine Kd.C_alloc ?_ _) | (with_reducible refine Kd.C_drewN ?_ _) | (with_reducible refine Kd.C_drew ?_))); (case side2 => exact HC1.out); rintro e w' ⟨rfl, ⟨nd, rfl⟩⟩; refine ⟨_, rfl, ?_⟩) | ((with_reducible refine gate_callee (f := 10) rfl ?_); refine goesL_ (some 161) rfl rfl Tryd.func10 (by kernel_rfl) rfl #[.slice A1 l1.length c1, .int .i64 2, .int .i64 7] rfl (by (try simp only [List.map_toArray, List.map_cons, List.map_nil]); first | done | rfl | (simp only [List.length_drop, List.length_take]; rfl)) ?_; (with_reducible refine (laws_b10At.calls _ _ l1 2 7 t230 _ ?side1 ?side2 A88.out).mono ?_); (case side1 => repeat (first | exact (Kd.C_below HR1.out (by repeat (first | (with_reducible first | exact HB.out | apply below_alloc | apply pw_below_drewN | apply below_drew1 | refine below_set ?_ GE202.out | refine below_set ?_ GE216.out | refine below_set ?_ GE217.out) | exact HB.out))) | (with_reducible refine Kd.C_alloc ?_ _) | (with_reducible refine Kd.C_drewN ?_ _) | (with_reducible refine Kd.C_drew ?_))); (case side2 => exact HC1.out); rintro e w' ⟨rfl, ⟨nd, rfl⟩⟩; refine ⟨_, rfl, ?_⟩) | ((with_reducible refine gate_callee (f := 16) rfl ?_); refine goesL_ (some 167) rfl rfl Tryd.func16 (by kernel_rfl) rfl #[.string t204, .int .i64 (wrap64 (t229 - 10)), .int .i64 (wrap64 (t230 - 3))] rfl (by (try simp only [List.map_toArray, List.map_cons, List.map_nil]); first | done | rfl | (simp only [List.length_drop, List.length_take]; rfl)) ?_; (with_reducible refine (spec_KeyBeside.calls kj74 t204 (wrap64 (t229 - 10)) (wrap64 (t230 - 3)) t231 t232 _ A89.out).mono ?_); rintro e w95 ⟨rfl, hb⟩; refine ⟨_, rfl, ?_⟩; have n0_ := Aside0.mk (blk_below (g := gb202) (o := .cells #[.float .f32 t200, .float .f32 t201] 26 (0, 0)) (by (with_reducible repeat (first | refine blk_drewN ?_ _ | refine blk_drew ?_ | refine blk_alloc ?_ _)); exact BK202.out) hb); have n1_ := Aside0.mk (blk_below (g := gb216) (o := .cells #[.float .f32 t211, .float .f32 t212] 26 (0, 0)) (by (with_reducible repeat (first | refine blk_drewN ?_ _ | refine blk_drew ?_ | refine blk_alloc ?_ _)); exact BK216.out) hb); have n2_ := Aside0.mk (blk_below (g := gb217) (o := .cells #[.float .f32 t213, .float .f32 t214] 26 (0, 0)) (by (with_reducible repeat (first | refine blk_drewN ?_ _ | refine blk_drew ?_ | refine blk_alloc ?_ _)); exact BK217.out) hb); have n3_ := Aside0.mk (below_step (by repeat (first | (with_reducible first | exact HB.out | apply below_alloc | apply pw_below_drewN | apply below_drew1 | refine below_set ?_ GE202.out | refine below_set ?_ GE216.out | refine below_set ?_ GE217.out) | exact HB.out)) hb); clear BK202; clear BK216; clear BK217; clear HB; have BK202 := n0_; have BK216 := n1_; have BK217 := n2_; have HB := n3_; clear n0_ n1_ n2_ n3_; (try clear hb); (try clear hb2); (try clear hk); (try clear hi)) | ((with_reducible refine gate_callee (f := 17) rfl ?_); refine goesL_ (some 174) rfl rfl Tryd.func17 (by kernel_rfl) rfl #[.string t204, .int .i64 (wrap64 (t229 - 10)), .int .i64 (wrap64 (t230 - 3))] rfl (by (try simp only [List.map_toArray, List.map_cons, List.map_nil]); first | done | rfl | (simp only [List.length_drop, List.length_take]; rfl)) ?_; (with_reducible refine (impl_KeyBeside.calls kj74 t204 (wrap64 (t229 - 10)) (wrap64 (t230 - 3)) t233 t234 _ A90.out).mono ?_); rintro e w96 ⟨rfl, hb⟩; refine ⟨_, rfl, ?_⟩; have n0_ := Aside0.mk (blk_below (g := gb202) (o := .cells #[.float .f32 t200, .float .f32 t201] 26 (0, 0)) (by (with_reducible repeat (first | refine blk_drewN ?_ _ | refine blk_drew ?_ | refine blk_alloc ?_ _)); exact BK202.out) hb); have n1_ := Aside0.mk (blk_below (g := gb216) (o := .cells #[.float .f32 t211, .float .f32 t212] 26 (0, 0)) (by (with_reducible repeat (first | refine blk_drewN ?_ _ | refine blk_drew ?_ | refine blk_alloc ?_ _)); exact BK216.out) hb); have n2_ := Aside0.mk (blk_below (g := gb217) (o := .cells #[.float .f32 t213, .float .f32 t214] 26 (0, 0)) (by (with_reducible repeat (first | refine blk_drewN ?_ _ | refine blk_drew ?_ | refine blk_alloc ?_ _)); exact BK217.out) hb); have n3_ := Aside0.mk (below_step (by repeat (first | (with_reducible first | exact HB.out | apply below_alloc | apply pw_below_drewN | apply below_drew1 | refine below_set ?_ GE202.out | refine below_set ?_ GE216.out | refine below_set ?_ GE217.out) | exact HB.out)) hb); clear BK202; clear BK216; clear BK217; clear HB; have BK202 := n0_; have BK216 := n1_; have BK217 := n2_; have HB := n3_; clear n0_ n1_ n2_ n3_; (try clear hb); (try clear hb2); (try clear hk); (try clear hi)))
                  (try simp only [Act.put, List.setIfInBounds_toArray, List.set_cons_zero, List.set_cons_succ])
                  go_cut [] (fun wc => ∃ (kq : Nat), Aside0 (laws_FnKeys.j2 kq t203 t204 t200 t201 = some r) ∧ Aside0 (kq ≤ kj74) ∧ Aside0 (wc.heap[gb202]? = some (.cells #[.float .f32 t200, .float .f32 t201] 26 (0, 0))) ∧ Aside0 (wc.heap[gb216]? = some (.cells #[.float .f32 t211, .float .f32 t212] 26 (0, 0))) ∧ Aside0 (wc.heap[gb217]? = some (.cells #[.float .f32 t213, .float .f32 t214] 26 (0, 0))) ∧ Aside0 (Below w.heap.size w wc))
                  case first =>
                    have H := HC94.out
                    clear HC94
                    by_cases c97 : t234 = true
                    · subst c97
                      have H1 : ((impl_KeyBeside.f kj74 t233 (wrap64 (-(wrap64 (t229 - 10)))) (wrap64 (-(wrap64 (t230 - 3))))).bind fun bt235 => (if bt235.2 = true then (if bt235.1.toList = t204.toList then (laws_FnKeys.j2 kj74 t203 t204 t200 t201) else (some false)) else (some false))) = some r := by rw [if_pos rfl] at H; exact H
                      clear H
                      have H := H1
                      clear H1
                      replace H := Option.bind_eq_some_iff.mp H
                      obtain ⟨⟨t235, t236⟩, A980, H⟩ := H
                      replace H : (if t236 = true then (if t235.toList = t204.toList then (laws_FnKeys.j2 kj74 t203 t204 t200 t201) else (some false)) else (some false)) = some r := H
                      have A98 := Aside0.mk A980
                      clear A980
                      by_cases c99 : t236 = true
                      · subst c99
                        have H1 : (if t235.toList = t204.toList then (laws_FnKeys.j2 kj74 t203 t204 t200 t201) else (some false)) = some r := by rw [if_pos rfl] at H; exact H
                        clear H
                        have H := H1
                        clear H1
                        by_cases c100 : t235.toList = t204.toList
                        · rw [if_pos c100] at H
                          have c100b0 : (t235.toList == t204.toList) = true := beq_iff_eq.mpr c100
                          have c100b1 : (t235.toList != t204.toList) = false := bne_eq_false_iff_eq.mpr c100
                          clear c100
                          (first | rw [c100b0] | (simp only [i64_w, i32_w]; rw [c100b0]) | skip)
                          as_aux_lemma =>
                            have H' := Aside0.mk H
                            clear H
                            go_wp2_with (first | ((with_reducible refine gate_callee (f := 17) rfl ?_); refine goesL_ (some 187) rfl rfl Tryd.func17 (by kernel_rfl) rfl #[.string t233, .int .i64 (wrap64 (-(wrap64 (t229 - 10)))), .int .i64 (wrap64 (-(wrap64 (t230 - 3))))] rfl (by (try simp only [List.map_toArray, List.map_cons, List.map_nil]); first | done | rfl | (simp only [List.length_drop, List.length_take]; rfl)) ?_; (with_reducible refine (impl_KeyBeside.calls kj74 t233 (wrap64 (-(wrap64 (t229 - 10)))) (wrap64 (-(wrap64 (t230 - 3)))) t235 true _ A98.out).mono ?_); rintro e w101 ⟨rfl, hb⟩; refine ⟨_, rfl, ?_⟩; have n0_ := Aside0.mk (blk_below (g := gb202) (o := .cells #[.float .f32 t200, .float .f32 t201] 26 (0, 0)) (by (with_reducible repeat (first | refine blk_drewN ?_ _ | refine blk_drew ?_ | refine blk_alloc ?_ _)); exact BK202.out) hb); have n1_ := Aside0.mk (blk_below (g := gb216) (o := .cells #[.float .f32 t211, .float .f32 t212] 26 (0, 0)) (by (with_reducible repeat (first | refine blk_drewN ?_ _ | refine blk_drew ?_ | refine blk_alloc ?_ _)); exact BK216.out) hb); have n2_ := Aside0.mk (blk_below (g := gb217) (o := .cells #[.float .f32 t213, .float .f32 t214] 26 (0, 0)) (by (with_reducible repeat (first | refine blk_drewN ?_ _ | refine blk_drew ?_ | refine blk_alloc ?_ _)); exact BK217.out) hb); have n3_ := Aside0.mk (below_step (by repeat (first | (with_reducible first | exact HB.out | apply below_alloc | apply pw_below_drewN | apply below_drew1 | refine below_set ?_ GE202.out | refine below_set ?_ GE216.out | refine below_set ?_ GE217.out) | exact HB.out)) hb); clear BK202; clear BK216; clear BK217; clear HB; have BK202 := n0_; have BK216 := n1_; have BK217 := n2_; have HB := n3_; clear n0_ n1_ n2_ n3_; (try clear hb); (try clear hb2); (try clear hk); (try clear hi)))
                            go_meet
                            case rel => exact ⟨_, H', ⟨by have := HJ10.out; have := HJ74.out; first | omega | exact Nat.le_refl _⟩, ⟨by (with_reducible repeat (first | refine blk_drewN ?_ _ | refine blk_drew ?_ | refine blk_alloc ?_ _)); exact BK202.out⟩, ⟨by (with_reducible repeat (first | refine blk_drewN ?_ _ | refine blk_drew ?_ | refine blk_alloc ?_ _)); exact BK216.out⟩, ⟨by (with_reducible repeat (first | refine blk_drewN ?_ _ | refine blk_drew ?_ | refine blk_alloc ?_ _)); exact BK217.out⟩, ⟨by repeat (first | (with_reducible first | exact HB.out | apply below_alloc | apply pw_below_drewN | apply below_drew1 | refine below_set ?_ GE202.out | refine below_set ?_ GE216.out | refine below_set ?_ GE217.out) | exact HB.out)⟩⟩
                        · rw [if_neg c100] at H
                          have c100b0 : (t235.toList == t204.toList) = false := beq_eq_false_iff_ne.mpr c100
                          have c100b1 : (t235.toList != t204.toList) = true := bne_iff_ne.mpr c100
                          (first | rw [c100b0] | (simp only [i64_w, i32_w]; rw [c100b0]) | skip)
                          as_aux_lemma =>
                            obtain rfl := Option.some.inj H
                            go_wp2_with (first | ((with_reducible refine gate_callee (f := 17) rfl ?_); refine goesL_ (some 187) rfl rfl Tryd.func17 (by kernel_rfl) rfl #[.string t233, .int .i64 (wrap64 (-(wrap64 (t229 - 10)))), .int .i64 (wrap64 (-(wrap64 (t230 - 3))))] rfl (by (try simp only [List.map_toArray, List.map_cons, List.map_nil]); first | done | rfl | (simp only [List.length_drop, List.length_take]; rfl)) ?_; (with_reducible refine (impl_KeyBeside.calls kj74 t233 (wrap64 (-(wrap64 (t229 - 10)))) (wrap64 (-(wrap64 (t230 - 3)))) t235 true _ A98.out).mono ?_); rintro e w102 ⟨rfl, hb⟩; refine ⟨_, rfl, ?_⟩; have n0_ := Aside0.mk (blk_below (g := gb202) (o := .cells #[.float .f32 t200, .float .f32 t201] 26 (0, 0)) (by (with_reducible repeat (first | refine blk_drewN ?_ _ | refine blk_drew ?_ | refine blk_alloc ?_ _)); exact BK202.out) hb); have n1_ := Aside0.mk (blk_below (g := gb216) (o := .cells #[.float .f32 t211, .float .f32 t212] 26 (0, 0)) (by (with_reducible repeat (first | refine blk_drewN ?_ _ | refine blk_drew ?_ | refine blk_alloc ?_ _)); exact BK216.out) hb); have n2_ := Aside0.mk (blk_below (g := gb217) (o := .cells #[.float .f32 t213, .float .f32 t214] 26 (0, 0)) (by (with_reducible repeat (first | refine blk_drewN ?_ _ | refine blk_drew ?_ | refine blk_alloc ?_ _)); exact BK217.out) hb); have n3_ := Aside0.mk (below_step (by repeat (first | (with_reducible first | exact HB.out | apply below_alloc | apply pw_below_drewN | apply below_drew1 | refine below_set ?_ GE202.out | refine below_set ?_ GE216.out | refine below_set ?_ GE217.out) | exact HB.out)) hb); clear BK202; clear BK216; clear BK217; clear HB; have BK202 := n0_; have BK216 := n1_; have BK217 := n2_; have HB := n3_; clear n0_ n1_ n2_ n3_; (try clear hb); (try clear hb2); (try clear hk); (try clear hi)))
                            go_ret
                            exact ⟨by first | rfl | (simp [errW_none, errW_some] <;> rfl) | (simp [*, errW_none, errW_some] <;> rfl), by repeat (first | (with_reducible first | exact HB.out | apply below_alloc | apply pw_below_drewN | apply below_drew1 | refine below_set ?_ GE202.out | refine below_set ?_ GE216.out | refine below_set ?_ GE217.out) | exact HB.out)⟩
                      · replace c99 := Bool.eq_false_iff.mpr c99
                        subst c99
                        have H1 : (some false) = some r := by rw [if_neg (show ¬ (false = true) by decide)] at H; exact H
                        clear H
                        have H := H1
                        clear H1
                        as_aux_lemma =>
                          obtain rfl := Option.some.inj H
                          go_wp2_with (first | ((with_reducible refine gate_callee (f := 17) rfl ?_); refine goesL_ (some 187) rfl rfl Tryd.func17 (by kernel_rfl) rfl #[.string t233, .int .i64 (wrap64 (-(wrap64 (t229 - 10)))), .int .i64 (wrap64 (-(wrap64 (t230 - 3))))] rfl (by (try simp only [List.map_toArray, List.map_cons, List.map_nil]); first | done | rfl | (simp only [List.length_drop, List.length_take]; rfl)) ?_; (with_reducible refine (impl_KeyBeside.calls kj74 t233 (wrap64 (-(wrap64 (t229 - 10)))) (wrap64 (-(wrap64 (t230 - 3)))) t235 false _ A98.out).mono ?_); rintro e w103 ⟨rfl, hb⟩; refine ⟨_, rfl, ?_⟩; have n0_ := Aside0.mk (blk_below (g := gb202) (o := .cells #[.float .f32 t200, .float .f32 t201] 26 (0, 0)) (by (with_reducible repeat (first | refine blk_drewN ?_ _ | refine blk_drew ?_ | refine blk_alloc ?_ _)); exact BK202.out) hb); have n1_ := Aside0.mk (blk_below (g := gb216) (o := .cells #[.float .f32 t211, .float .f32 t212] 26 (0, 0)) (by (with_reducible repeat (first | refine blk_drewN ?_ _ | refine blk_drew ?_ | refine blk_alloc ?_ _)); exact BK216.out) hb); have n2_ := Aside0.mk (blk_below (g := gb217) (o := .cells #[.float .f32 t213, .float .f32 t214] 26 (0, 0)) (by (with_reducible repeat (first | refine blk_drewN ?_ _ | refine blk_drew ?_ | refine blk_alloc ?_ _)); exact BK217.out) hb); have n3_ := Aside0.mk (below_step (by repeat (first | (with_reducible first | exact HB.out | apply below_alloc | apply pw_below_drewN | apply below_drew1 | refine below_set ?_ GE202.out | refine below_set ?_ GE216.out | refine below_set ?_ GE217.out) | exact HB.out)) hb); clear BK202; clear BK216; clear BK217; clear HB; have BK202 := n0_; have BK216 := n1_; have BK217 := n2_; have HB := n3_; clear n0_ n1_ n2_ n3_; (try clear hb); (try clear hb2); (try clear hk); (try clear hi)))
                          go_ret
                          exact ⟨by first | rfl | (simp [errW_none, errW_some] <;> rfl) | (simp [*, errW_none, errW_some] <;> rfl), by repeat (first | (with_reducible first | exact HB.out | apply below_alloc | apply pw_below_drewN | apply below_drew1 | refine below_set ?_ GE202.out | refine below_set ?_ GE216.out | refine below_set ?_ GE217.out) | exact HB.out)⟩
                    · replace c97 := Bool.eq_false_iff.mpr c97
                      subst c97
                      have H1 : (laws_FnKeys.j2 kj74 t203 t204 t200 t201) = some r := by rw [if_neg (show ¬ (false = true) by decide)] at H; exact H
                      clear H
                      have H := H1
                      clear H1
                      as_aux_lemma =>
                        have H' := Aside0.mk H
                        clear H
                        go_wp2
                        go_meet
                        case rel => exact ⟨_, H', ⟨by have := HJ10.out; have := HJ74.out; first | omega | exact Nat.le_refl _⟩, ⟨by (with_reducible repeat (first | refine blk_drewN ?_ _ | refine blk_drew ?_ | refine blk_alloc ?_ _)); exact BK202.out⟩, ⟨by (with_reducible repeat (first | refine blk_drewN ?_ _ | refine blk_drew ?_ | refine blk_alloc ?_ _)); exact BK216.out⟩, ⟨by (with_reducible repeat (first | refine blk_drewN ?_ _ | refine blk_drew ?_ | refine blk_alloc ?_ _)); exact BK217.out⟩, ⟨by repeat (first | (with_reducible first | exact HB.out | apply below_alloc | apply pw_below_drewN | apply below_drew1 | refine below_set ?_ GE202.out | refine below_set ?_ GE216.out | refine below_set ?_ GE217.out) | exact HB.out)⟩⟩
                  case rest =>
                    clear HC94
                    try clear c1
                    try clear c2
                    try clear p2
                    try clear c3
                    try clear c4
                    try clear c5
                    try clear c6
                    try clear p6
                    try clear c7
                    try clear c8
                    try clear c9
                    try clear c10
                    try clear c11
                    try clear c12
                    try clear c13
                    try clear c14
                    try clear c16
                    try clear c17
                    try clear c21
                    try clear c22
                    try clear c24
                    try clear c26
                    try clear c27
                    try clear c28
                    try clear c29
                    try clear c31
                    try clear c32
                    try clear c32b0
                    try clear c32b1
                    try clear c33
                    try clear c33b0
                    try clear c33b1
                    try clear c34
                    try clear c34b0
                    try clear c36
                    try clear c37
                    try clear c39
                    try clear c41
                    try clear c41b0
                    try clear c43
                    try clear c44
                    try clear c46
                    try clear c51
                    try clear c51b0
                    try clear c53
                    try clear c54
                    try clear c56
                    try clear c63
                    try clear c64
                    try clear p64
                    try clear c66
                    try clear c72
                    try clear c76
                    try clear c77
                    try clear c80
                    try clear c83
                    try clear c84
                    try clear c85
                    try clear c85b0
                    try clear c85b1
                    try clear c86
                    try clear c91
                    try clear c91b0
                    try clear c91b1
                    try clear c91b2
                    try clear c97
                    try clear c99
                    try clear c100
                    try clear c100b0
                    try clear c100b1
                    try clear hcz14_0
                    try clear hcz14_1
                    try clear hcz23_0
                    try clear hcz23_1
                    try clear hcz25_0
                    try clear hcz25_1
                    try clear hcz38_0
                    try clear hcz38_1
                    try clear hcz40_0
                    try clear hcz40_1
                    try clear hcz45_0
                    try clear hcz45_1
                    try clear hcz47_0
                    try clear hcz47_1
                    try clear hcz55_0
                    try clear hcz55_1
                    try clear hcz57_0
                    try clear hcz57_1
                    try clear hcz58_0
                    try clear hcz58_1
                    try clear hcz65_0
                    try clear hcz65_1
                    try clear hcz67_0
                    try clear hcz67_1
                    try clear hcz68_0
                    try clear hcz68_1
                    try clear hcz78_0
                    try clear hcz78_1
                    try clear hcz81_0
                    try clear hcz81_1
                    try clear hfz14_0
                    try clear hfz14_1
                    try clear hfz23_0
                    try clear hfz23_1
                    try clear hfz25_0
                    try clear hfz25_1
                    try clear hfz38_0
                    try clear hfz38_1
                    try clear hfz40_0
                    try clear hfz40_1
                    try clear hfz45_0
                    try clear hfz45_1
                    try clear hfz47_0
                    try clear hfz47_1
                    try clear hfz55_0
                    try clear hfz55_1
                    try clear hfz57_0
                    try clear hfz57_1
                    try clear hfz58_0
                    try clear hfz58_1
                    try clear hfz65_0
                    try clear hfz65_1
                    try clear hfz67_0
                    try clear hfz67_1
                    try clear hfz68_0
                    try clear hfz68_1
                    try clear hfz78_0
                    try clear hfz78_1
                    try clear hfz81_0
                    try clear hfz81_1
                    try clear p2
                    obtain ⟨kq, HA, HJ93, BK202, BK216, BK217, HB⟩ := hcut
                    cases kq with
                    | zero => exact absurd HA.out (by simp [laws_FnKeys.j2])
                    | succ kj93 =>
                      have H := HA.out
                      clear HA
                      simp only [laws_FnKeys.j2] at H
                      replace H := Option.bind_eq_some_iff.mp H
                      obtain ⟨⟨t237, t238⟩, A1040, H⟩ := H
                      replace H : (if t203 = 0 then (some (!t238)) else ((impl_KeyOf.f kj93 t200 t201 (wrap64 (t203 - 1))).bind fun bt239 => (if t238 = true then (if bt239.2 = true then (some (t237.toList == bt239.1.toList)) else (some false)) else (some false)))) = some r := H
                      have A104 := Aside0.mk A1040
                      clear A1040
                      by_cases c105 : t203 = 0
                      · rw [if_pos c105] at H
                        have c105b0 : (t203 == 0) = true := beq_iff_eq.mpr c105
                        have c105b1 : (t203 != 0) = false := bne_eq_false_iff_eq.mpr c105
                        clear c105
                        as_aux_lemma =>
                          obtain rfl := Option.some.inj H
                          go_wp2_with (first | ((with_reducible refine gate_callee (f := 18) rfl ?_); refine goesL_ (some 199) rfl rfl Tryd.func18 (by kernel_rfl) rfl #[.string t204] rfl (by (try simp only [List.map_toArray, List.map_cons, List.map_nil]); first | done | rfl | (simp only [List.length_drop, List.length_take]; rfl)) ?_; (with_reducible refine (impl_KeyParent.calls t204 t237 t238 _ A104.out).mono ?_); rintro e w106 ⟨rfl, hb⟩; refine ⟨_, rfl, ?_⟩; have n0_ := Aside0.mk (blk_below (g := gb202) (o := .cells #[.float .f32 t200, .float .f32 t201] 26 (0, 0)) (by (with_reducible repeat (first | refine blk_drewN ?_ _ | refine blk_drew ?_ | refine blk_alloc ?_ _)); exact BK202.out) hb); have n1_ := Aside0.mk (blk_below (g := gb216) (o := .cells #[.float .f32 t211, .float .f32 t212] 26 (0, 0)) (by (with_reducible repeat (first | refine blk_drewN ?_ _ | refine blk_drew ?_ | refine blk_alloc ?_ _)); exact BK216.out) hb); have n2_ := Aside0.mk (blk_below (g := gb217) (o := .cells #[.float .f32 t213, .float .f32 t214] 26 (0, 0)) (by (with_reducible repeat (first | refine blk_drewN ?_ _ | refine blk_drew ?_ | refine blk_alloc ?_ _)); exact BK217.out) hb); have n3_ := Aside0.mk (below_step (by repeat (first | (with_reducible first | exact HB.out | apply below_alloc | apply pw_below_drewN | apply below_drew1 | refine below_set ?_ GE202.out | refine below_set ?_ GE216.out | refine below_set ?_ GE217.out) | exact HB.out)) hb); clear BK202; clear BK216; clear BK217; clear HB; have BK202 := n0_; have BK216 := n1_; have BK217 := n2_; have HB := n3_; clear n0_ n1_ n2_ n3_; (try clear hb); (try clear hb2); (try clear hk); (try clear hi)))
                          go_ret
                          exact ⟨by first | rfl | (simp [errW_none, errW_some] <;> rfl) | (simp [*, errW_none, errW_some] <;> rfl), by repeat (first | (with_reducible first | exact HB.out | apply below_alloc | apply pw_below_drewN | apply below_drew1 | refine below_set ?_ GE202.out | refine below_set ?_ GE216.out | refine below_set ?_ GE217.out) | exact HB.out)⟩
                      · rw [if_neg c105] at H
                        have c105b0 : (t203 == 0) = false := beq_eq_false_iff_ne.mpr c105
                        have c105b1 : (t203 != 0) = true := bne_iff_ne.mpr c105
                        replace H := Option.bind_eq_some_iff.mp H
                        obtain ⟨⟨t239, t240⟩, A1070, H⟩ := H
                        replace H : (if t238 = true then (if t240 = true then (some (t237.toList == t239.toList)) else (some false)) else (some false)) = some r := H
                        have A107 := Aside0.mk A1070
                        clear A1070
                        by_cases c108 : t238 = true
                        · subst c108
                          have H1 : (if t240 = true then (some (t237.toList == t239.toList)) else (some false)) = some r := by rw [if_pos rfl] at H; exact H
                          clear H
                          have H := H1
                          clear H1
                          by_cases c109 : t240 = true
                          · subst c109
                            have H1 : (some (t237.toList == t239.toList)) = some r := by rw [if_pos rfl] at H; exact H
                            clear H
                            have H := H1
                            clear H1
                            as_aux_lemma =>
                              obtain rfl := Option.some.inj H
                              go_wp2_with (first | ((with_reducible refine gate_callee (f := 18) rfl ?_); refine goesL_ (some 199) rfl rfl Tryd.func18 (by kernel_rfl) rfl #[.string t204] rfl (by (try simp only [List.map_toArray, List.map_cons, List.map_nil]); first | done | rfl | (simp only [List.length_drop, List.length_take]; rfl)) ?_; (with_reducible refine (impl_KeyParent.calls t204 t237 true _ A104.out).mono ?_); rintro e w110 ⟨rfl, hb⟩; refine ⟨_, rfl, ?_⟩; have n0_ := Aside0.mk (blk_below (g := gb202) (o := .cells #[.float .f32 t200, .float .f32 t201] 26 (0, 0)) (by (with_reducible repeat (first | refine blk_drewN ?_ _ | refine blk_drew ?_ | refine blk_alloc ?_ _)); exact BK202.out) hb); have n1_ := Aside0.mk (blk_below (g := gb216) (o := .cells #[.float .f32 t211, .float .f32 t212] 26 (0, 0)) (by (with_reducible repeat (first | refine blk_drewN ?_ _ | refine blk_drew ?_ | refine blk_alloc ?_ _)); exact BK216.out) hb); have n2_ := Aside0.mk (blk_below (g := gb217) (o := .cells #[.float .f32 t213, .float .f32 t214] 26 (0, 0)) (by (with_reducible repeat (first | refine blk_drewN ?_ _ | refine blk_drew ?_ | refine blk_alloc ?_ _)); exact BK217.out) hb); have n3_ := Aside0.mk (below_step (by repeat (first | (with_reducible first | exact HB.out | apply below_alloc | apply pw_below_drewN | apply below_drew1 | refine below_set ?_ GE202.out | refine below_set ?_ GE216.out | refine below_set ?_ GE217.out) | exact HB.out)) hb); clear BK202; clear BK216; clear BK217; clear HB; have BK202 := n0_; have BK216 := n1_; have BK217 := n2_; have HB := n3_; clear n0_ n1_ n2_ n3_; (try clear hb); (try clear hb2); (try clear hk); (try clear hi); have hnb111 := NB202_216.out; have hnc111 := NB216_202.out; have hnb112 := NB202_217.out; have hnc112 := NB217_202.out; have hcz113_0 : w110.cell? ⟨gb202, 0, none⟩ = some (.float .f32 t200) := (blk_cell BK202.out 0).trans rfl; have hcz113_1 : w110.cell? ⟨gb202, 1, none⟩ = some (.float .f32 t201) := (blk_cell BK202.out 1).trans rfl; have hfz113_0 := blk_frozen BK202.out 0; have hfz113_1 := blk_frozen BK202.out 1) | ((with_reducible refine gate_callee (f := 11) rfl ?_); refine goesL_ (some 210) rfl rfl Tryd.func11 (by kernel_rfl) rfl #[.agg #[.float .f32 t200, .float .f32 t201], .int .i64 (wrap64 (t203 - 1))] rfl (by (try simp only [List.map_toArray, List.map_cons, List.map_nil]); first | done | rfl | (simp only [List.length_drop, List.length_take]; rfl)) ?_; (with_reducible refine (impl_KeyOf.calls kj93 t200 t201 (wrap64 (t203 - 1)) t239 true _ A107.out).mono ?_); rintro e w114 ⟨rfl, hb⟩; refine ⟨_, rfl, ?_⟩; have n0_ := Aside0.mk (blk_below (g := gb202) (o := .cells #[.float .f32 t200, .float .f32 t201] 26 (0, 0)) (by (with_reducible repeat (first | refine blk_drewN ?_ _ | refine blk_drew ?_ | refine blk_alloc ?_ _)); exact BK202.out) hb); have n1_ := Aside0.mk (blk_below (g := gb216) (o := .cells #[.float .f32 t211, .float .f32 t212] 26 (0, 0)) (by (with_reducible repeat (first | refine blk_drewN ?_ _ | refine blk_drew ?_ | refine blk_alloc ?_ _)); exact BK216.out) hb); have n2_ := Aside0.mk (blk_below (g := gb217) (o := .cells #[.float .f32 t213, .float .f32 t214] 26 (0, 0)) (by (with_reducible repeat (first | refine blk_drewN ?_ _ | refine blk_drew ?_ | refine blk_alloc ?_ _)); exact BK217.out) hb); have n3_ := Aside0.mk (below_step (by repeat (first | (with_reducible first | exact HB.out | apply below_alloc | apply pw_below_drewN | apply below_drew1 | refine below_set ?_ GE202.out | refine below_set ?_ GE216.out | refine below_set ?_ GE217.out) | exact HB.out)) hb); clear BK202; clear BK216; clear BK217; clear HB; have BK202 := n0_; have BK216 := n1_; have BK217 := n2_; have HB := n3_; clear n0_ n1_ n2_ n3_; (try clear hb); (try clear hb2); (try clear hk); (try clear hi)))
                              go_ret
                              exact ⟨by first | rfl | (simp [errW_none, errW_some] <;> rfl) | (simp [*, errW_none, errW_some] <;> rfl), by repeat (first | (with_reducible first | exact HB.out | apply below_alloc | apply pw_below_drewN | apply below_drew1 | refine below_set ?_ GE202.out | refine below_set ?_ GE216.out | refine below_set ?_ GE217.out) | exact HB.out)⟩
                          · replace c109 := Bool.eq_false_iff.mpr c109
                            subst c109
                            have H1 : (some false) = some r := by rw [if_neg (show ¬ (false = true) by decide)] at H; exact H
                            clear H
                            have H := H1
                            clear H1
                            as_aux_lemma =>
                              obtain rfl := Option.some.inj H
                              go_wp2_with (first | ((with_reducible refine gate_callee (f := 18) rfl ?_); refine goesL_ (some 199) rfl rfl Tryd.func18 (by kernel_rfl) rfl #[.string t204] rfl (by (try simp only [List.map_toArray, List.map_cons, List.map_nil]); first | done | rfl | (simp only [List.length_drop, List.length_take]; rfl)) ?_; (with_reducible refine (impl_KeyParent.calls t204 t237 true _ A104.out).mono ?_); rintro e w115 ⟨rfl, hb⟩; refine ⟨_, rfl, ?_⟩; have n0_ := Aside0.mk (blk_below (g := gb202) (o := .cells #[.float .f32 t200, .float .f32 t201] 26 (0, 0)) (by (with_reducible repeat (first | refine blk_drewN ?_ _ | refine blk_drew ?_ | refine blk_alloc ?_ _)); exact BK202.out) hb); have n1_ := Aside0.mk (blk_below (g := gb216) (o := .cells #[.float .f32 t211, .float .f32 t212] 26 (0, 0)) (by (with_reducible repeat (first | refine blk_drewN ?_ _ | refine blk_drew ?_ | refine blk_alloc ?_ _)); exact BK216.out) hb); have n2_ := Aside0.mk (blk_below (g := gb217) (o := .cells #[.float .f32 t213, .float .f32 t214] 26 (0, 0)) (by (with_reducible repeat (first | refine blk_drewN ?_ _ | refine blk_drew ?_ | refine blk_alloc ?_ _)); exact BK217.out) hb); have n3_ := Aside0.mk (below_step (by repeat (first | (with_reducible first | exact HB.out | apply below_alloc | apply pw_below_drewN | apply below_drew1 | refine below_set ?_ GE202.out | refine below_set ?_ GE216.out | refine below_set ?_ GE217.out) | exact HB.out)) hb); clear BK202; clear BK216; clear BK217; clear HB; have BK202 := n0_; have BK216 := n1_; have BK217 := n2_; have HB := n3_; clear n0_ n1_ n2_ n3_; (try clear hb); (try clear hb2); (try clear hk); (try clear hi); have hnb116 := NB202_216.out; have hnc116 := NB216_202.out; have hnb117 := NB202_217.out; have hnc117 := NB217_202.out; have hcz118_0 : w115.cell? ⟨gb202, 0, none⟩ = some (.float .f32 t200) := (blk_cell BK202.out 0).trans rfl; have hcz118_1 : w115.cell? ⟨gb202, 1, none⟩ = some (.float .f32 t201) := (blk_cell BK202.out 1).trans rfl; have hfz118_0 := blk_frozen BK202.out 0; have hfz118_1 := blk_frozen BK202.out 1) | ((with_reducible refine gate_callee (f := 11) rfl ?_); refine goesL_ (some 210) rfl rfl Tryd.func11 (by kernel_rfl) rfl #[.agg #[.float .f32 t200, .float .f32 t201], .int .i64 (wrap64 (t203 - 1))] rfl (by (try simp only [List.map_toArray, List.map_cons, List.map_nil]); first | done | rfl | (simp only [List.length_drop, List.length_take]; rfl)) ?_; (with_reducible refine (impl_KeyOf.calls kj93 t200 t201 (wrap64 (t203 - 1)) t239 false _ A107.out).mono ?_); rintro e w119 ⟨rfl, hb⟩; refine ⟨_, rfl, ?_⟩; have n0_ := Aside0.mk (blk_below (g := gb202) (o := .cells #[.float .f32 t200, .float .f32 t201] 26 (0, 0)) (by (with_reducible repeat (first | refine blk_drewN ?_ _ | refine blk_drew ?_ | refine blk_alloc ?_ _)); exact BK202.out) hb); have n1_ := Aside0.mk (blk_below (g := gb216) (o := .cells #[.float .f32 t211, .float .f32 t212] 26 (0, 0)) (by (with_reducible repeat (first | refine blk_drewN ?_ _ | refine blk_drew ?_ | refine blk_alloc ?_ _)); exact BK216.out) hb); have n2_ := Aside0.mk (blk_below (g := gb217) (o := .cells #[.float .f32 t213, .float .f32 t214] 26 (0, 0)) (by (with_reducible repeat (first | refine blk_drewN ?_ _ | refine blk_drew ?_ | refine blk_alloc ?_ _)); exact BK217.out) hb); have n3_ := Aside0.mk (below_step (by repeat (first | (with_reducible first | exact HB.out | apply below_alloc | apply pw_below_drewN | apply below_drew1 | refine below_set ?_ GE202.out | refine below_set ?_ GE216.out | refine below_set ?_ GE217.out) | exact HB.out)) hb); clear BK202; clear BK216; clear BK217; clear HB; have BK202 := n0_; have BK216 := n1_; have BK217 := n2_; have HB := n3_; clear n0_ n1_ n2_ n3_; (try clear hb); (try clear hb2); (try clear hk); (try clear hi)))
                              go_ret
                              exact ⟨by first | rfl | (simp [errW_none, errW_some] <;> rfl) | (simp [*, errW_none, errW_some] <;> rfl), by repeat (first | (with_reducible first | exact HB.out | apply below_alloc | apply pw_below_drewN | apply below_drew1 | refine below_set ?_ GE202.out | refine below_set ?_ GE216.out | refine below_set ?_ GE217.out) | exact HB.out)⟩
                        · replace c108 := Bool.eq_false_iff.mpr c108
                          subst c108
                          have H1 : (some false) = some r := by rw [if_neg (show ¬ (false = true) by decide)] at H; exact H
                          clear H
                          have H := H1
                          clear H1
                          as_aux_lemma =>
                            obtain rfl := Option.some.inj H
                            go_wp2_with (first | ((with_reducible refine gate_callee (f := 18) rfl ?_); refine goesL_ (some 199) rfl rfl Tryd.func18 (by kernel_rfl) rfl #[.string t204] rfl (by (try simp only [List.map_toArray, List.map_cons, List.map_nil]); first | done | rfl | (simp only [List.length_drop, List.length_take]; rfl)) ?_; (with_reducible refine (impl_KeyParent.calls t204 t237 false _ A104.out).mono ?_); rintro e w120 ⟨rfl, hb⟩; refine ⟨_, rfl, ?_⟩; have n0_ := Aside0.mk (blk_below (g := gb202) (o := .cells #[.float .f32 t200, .float .f32 t201] 26 (0, 0)) (by (with_reducible repeat (first | refine blk_drewN ?_ _ | refine blk_drew ?_ | refine blk_alloc ?_ _)); exact BK202.out) hb); have n1_ := Aside0.mk (blk_below (g := gb216) (o := .cells #[.float .f32 t211, .float .f32 t212] 26 (0, 0)) (by (with_reducible repeat (first | refine blk_drewN ?_ _ | refine blk_drew ?_ | refine blk_alloc ?_ _)); exact BK216.out) hb); have n2_ := Aside0.mk (blk_below (g := gb217) (o := .cells #[.float .f32 t213, .float .f32 t214] 26 (0, 0)) (by (with_reducible repeat (first | refine blk_drewN ?_ _ | refine blk_drew ?_ | refine blk_alloc ?_ _)); exact BK217.out) hb); have n3_ := Aside0.mk (below_step (by repeat (first | (with_reducible first | exact HB.out | apply below_alloc | apply pw_below_drewN | apply below_drew1 | refine below_set ?_ GE202.out | refine below_set ?_ GE216.out | refine below_set ?_ GE217.out) | exact HB.out)) hb); clear BK202; clear BK216; clear BK217; clear HB; have BK202 := n0_; have BK216 := n1_; have BK217 := n2_; have HB := n3_; clear n0_ n1_ n2_ n3_; (try clear hb); (try clear hb2); (try clear hk); (try clear hi); have hnb121 := NB202_216.out; have hnc121 := NB216_202.out; have hnb122 := NB202_217.out; have hnc122 := NB217_202.out; have hcz123_0 : w120.cell? ⟨gb202, 0, none⟩ = some (.float .f32 t200) := (blk_cell BK202.out 0).trans rfl; have hcz123_1 : w120.cell? ⟨gb202, 1, none⟩ = some (.float .f32 t201) := (blk_cell BK202.out 1).trans rfl; have hfz123_0 := blk_frozen BK202.out 0; have hfz123_1 := blk_frozen BK202.out 1) | ((with_reducible refine gate_callee (f := 11) rfl ?_); refine goesL_ (some 210) rfl rfl Tryd.func11 (by kernel_rfl) rfl #[.agg #[.float .f32 t200, .float .f32 t201], .int .i64 (wrap64 (t203 - 1))] rfl (by (try simp only [List.map_toArray, List.map_cons, List.map_nil]); first | done | rfl | (simp only [List.length_drop, List.length_take]; rfl)) ?_; (with_reducible refine (impl_KeyOf.calls kj93 t200 t201 (wrap64 (t203 - 1)) t239 t240 _ A107.out).mono ?_); rintro e w124 ⟨rfl, hb⟩; refine ⟨_, rfl, ?_⟩; have n0_ := Aside0.mk (blk_below (g := gb202) (o := .cells #[.float .f32 t200, .float .f32 t201] 26 (0, 0)) (by (with_reducible repeat (first | refine blk_drewN ?_ _ | refine blk_drew ?_ | refine blk_alloc ?_ _)); exact BK202.out) hb); have n1_ := Aside0.mk (blk_below (g := gb216) (o := .cells #[.float .f32 t211, .float .f32 t212] 26 (0, 0)) (by (with_reducible repeat (first | refine blk_drewN ?_ _ | refine blk_drew ?_ | refine blk_alloc ?_ _)); exact BK216.out) hb); have n2_ := Aside0.mk (blk_below (g := gb217) (o := .cells #[.float .f32 t213, .float .f32 t214] 26 (0, 0)) (by (with_reducible repeat (first | refine blk_drewN ?_ _ | refine blk_drew ?_ | refine blk_alloc ?_ _)); exact BK217.out) hb); have n3_ := Aside0.mk (below_step (by repeat (first | (with_reducible first | exact HB.out | apply below_alloc | apply pw_below_drewN | apply below_drew1 | refine below_set ?_ GE202.out | refine below_set ?_ GE216.out | refine below_set ?_ GE217.out) | exact HB.out)) hb); clear BK202; clear BK216; clear BK217; clear HB; have BK202 := n0_; have BK216 := n1_; have BK217 := n2_; have HB := n3_; clear n0_ n1_ n2_ n3_; (try clear hb); (try clear hb2); (try clear hk); (try clear hi)))
                            go_ret
                            exact ⟨by first | rfl | (simp [errW_none, errW_some] <;> rfl) | (simp [*, errW_none, errW_some] <;> rfl), by repeat (first | (with_reducible first | exact HB.out | apply below_alloc | apply pw_below_drewN | apply below_drew1 | refine below_set ?_ GE202.out | refine below_set ?_ GE216.out | refine below_set ?_ GE217.out) | exact HB.out)⟩

/-- THE ONE PURE STATEMENT of laws_FnKeys: yours. -/
def laws_FnKeys.Pure : Prop := ∀ (l0 : List Int) (l1 : List Int), l0.length ≤ maxLen → l0.length * 1 ≤ 140737488351232 → (∀ x ∈ l0, (Lit.int .u8 x).wf = true) → l1.length ≤ maxLen → l1.length * 1 ≤ 140737488351232 → (∀ x ∈ l1, (Lit.int .u8 x).wf = true) → ∃ k, laws_FnKeys.f k l0 l1 = some true
theorem laws_FnKeys.walk (P : laws_FnKeys.Pure) (a0 : Option Addr) (len0 cap0 : Nat) (z0 : List Int) (a1 : Option Addr) (len1 cap1 : Nat) (z1 : List Int) (w : World) (w0 : (a0 = none ∧ len0 = 0 ∧ cap0 = 0 ∧ z0 = []) ∨ ∃ x, a0 = some x ∧ len0 ≤ cap0 ∧ cap0 ≤ maxLen ∧ z0.length = cap0 ∧ (∀ i, i < z0.length → w.cell? (x.add i) = some (.int .u8 (z0.getD i 0))) ∧ ∀ n ∈ z0, (Lit.int .u8 n).wf = true) (y0 : len0 * 1 ≤ 140737488351232) (w1 : (a1 = none ∧ len1 = 0 ∧ cap1 = 0 ∧ z1 = []) ∨ ∃ x, a1 = some x ∧ len1 ≤ cap1 ∧ cap1 ≤ maxLen ∧ z1.length = cap1 ∧ (∀ i, i < z1.length → w.cell? (x.add i) = some (.int .u8 (z1.getD i 0))) ∧ ∀ n ∈ z1, (Lit.int .u8 n).wf = true) (y1 : len1 * 1 ≤ 140737488351232) :
    Calls Tryd.prog 3 #[.slice a0 len0 cap0, .slice a1 len1 cap1] w fun e w' => e = .returned (.bool true) ∧ Below w.heap.size w w' := by
  obtain ⟨l0, rfl, hr0, hm0, hw0, hc0⟩ := ReadsInt.ofRowC w0
  obtain ⟨l1, rfl, hr1, hm1, hw1, hc1⟩ := ReadsInt.ofRowC w1
  obtain ⟨k, h⟩ := P l0 l1 hm0 y0 hw0 hm1 y1 hw1
  refine (laws_FnKeys.calls k _ _ l0 _ _ l1 true w (Kd.C_of_reads (d := (0 : Int)) (h1 := fun _ => rfl) hr0) hc0 (Kd.C_of_reads (d := (0 : Int)) (h1 := fun _ => rfl) hr1) hc1 h).mono ?_
  rintro e w' ⟨rfl, hd⟩
  exact ⟨rfl, hd⟩

end Go.Proofs.YtcfpfbaeagkgmaaDoor.PK
