/-
  FnKeys in plain Lean: keys tell the tiles that hold their places, lead back from them, and tiles beside a tile are beside it from the other side.
-/
import Derived.Test.YtcfpfbaeagkgmaaDoorKeyQK
set_option linter.unusedSimpArgs false
set_option linter.unusedVariables false
namespace Go.Proofs.YtcfpfbaeagkgmaaDoor.PureK
open Go.RowKit Go.Proofs.YtcfpfbaeagkgmaaDoor.PK Go.Proofs.YtcfpfbaeagkgmaaDoorW.PrintWords Go.Proofs.YtcfpfbaeagkgmaaDoorW.PrintMore FL

theorem tileOf_f {p q : Nat} {n e : Int} (h : PS p q n e) {z : Nat} (hz : z ≤ 20) :
    impl_tileOf.f p q z = some ((((e + 8388608).toNat / 2 ^ (24 - z) : Nat) : Int), (((min (2 * n + 8388608).toNat 16777215) / 2 ^ (24 - z) : Nat) : Int)) := by
  have := h.n1; have := h.n2; have := h.e1; have := h.e2
  unfold impl_tileOf.f
  rw [StepsOf_f h]
  simp only [Option.bind_some]
  have e1 : wrap64 (24 - (z : Int)) = ((24 - z : Nat) : Int) := by rw [w64 (by omega) (by omega)]; omega
  have e2 : wrap64 (e + 8388608) = (((e + 8388608).toNat : Nat) : Int) := by rw [w64 (by omega) (by omega)]; omega
  have e3 : mn (wrap64 (wrap64 (2 * n) + 8388608)) 16777215 = ((min (2 * n + 8388608).toNat 16777215 : Nat) : Int) := by
    rw [w64 (n := 2 * n) (by omega) (by omega), w64 (by omega) (by omega)]
    unfold mn
    split <;> omega
  rw [e1, e2, e3, if_pos (by omega), shr_nat (by omega), shr_nat (by omega)]

theorem KeyOf_f {p q : Nat} {n e : Int} (h : PS p q n e) {z k : Nat} (hz : z ≤ 20) (hk : 31 ≤ k) :
    impl_KeyOf.f k p q z = some (strOfNums (tk z ((e + 8388608).toNat / 2 ^ (24 - z)) ((min (2 * n + 8388608).toNat 16777215) / 2 ^ (24 - z))), true) := by
  obtain ⟨k, rfl⟩ : ∃ m, k = m + 1 := ⟨k - 1, by omega⟩
  have := h.n1; have := h.n2; have := h.e1; have := h.e2
  unfold impl_KeyOf.f
  rw [ValidPlace_f h, isZoom_f, show (decide (0 ≤ (z:Int)) && decide ((z:Int) ≤ 20)) = true by simp; omega]
  simp only [Option.bind_some, if_true, impl_KeyOf.j0, Bool.not_true, Bool.false_eq_true, if_false]
  rw [tileOf_f h hz]
  simp only [Option.bind_some]
  have b1 := Nat.div_le_self (e + 8388608).toNat (2 ^ (24 - z))
  have b2 := Nat.div_le_self (min (2 * n + 8388608).toNat 16777215) (2 ^ (24 - z))
  rw [tileKey_f hz (by omega) (by omega) (by omega)]
  rfl

/-- the least step of a tile, and the next tile's -/
theorem tile_bd {z X : Nat} (hz : z ≤ 20) (hX : X < 2 ^ z) : X * 2 ^ (24 - z) + 2 ^ (24 - z) ≤ 16777216 := by
  have h : (X + 1) * 2 ^ (24 - z) ≤ 2 ^ z * 2 ^ (24 - z) := Nat.mul_le_mul_right _ hX
  rw [← Nat.pow_add, show z + (24 - z) = 24 by omega, Nat.add_mul, Nat.one_mul] at h
  have : 2 ^ 24 = 16777216 := by decide
  omega
theorem half_pow {z : Nat} (hz : z ≤ 20) : ∃ t, 2 ^ (24 - z) = 2 * t ∧ 0 < t := by
  refine ⟨2 ^ (23 - z), ?_, Nat.two_pow_pos _⟩
  rw [show 24 - z = (23 - z) + 1 by omega, Nat.pow_succ]; omega

theorem corner_f {u v : Nat} (hu : u ≤ 16777215) (hv : v ≤ 16777215) :
    impl_KeyBox_1.f u v = some (stepW (((v / 2 : Nat) : Int) - 4194304), stepW ((u : Int) - 8388608), true) := by
  unfold impl_KeyBox_1.f
  have e : Int.tdiv (v : Int) 2 = ((v / 2 : Nat) : Int) := by rw [Int.tdiv_eq_ediv_of_nonneg (by omega)]; omega
  rw [e, w64 (n := ((v / 2 : Nat) : Int)) (by omega) (by omega), w64 (n := ((v / 2 : Nat) : Int) - 4194304) (by omega) (by omega), w64 (n := (u : Int) - 8388608) (by omega) (by omega), PlaceOfSteps_f (by omega) (by omega) (by omega) (by omega)]
  rfl

theorem KeyBox_f {z X Y k : Nat} (hz : z ≤ 20) (hX : X < 2 ^ z) (hY : Y < 2 ^ z) (hk : 30 ≤ k) :
    impl_KeyBox.f k (strOfNums (tk z X Y)) = some (stepW (((Y * 2 ^ (24 - z) / 2 : Nat) : Int) - 4194304), stepW (((X * 2 ^ (24 - z) : Nat) : Int) - 8388608),
      stepW ((((Y * 2 ^ (24 - z) + 2 ^ (24 - z) - 1) / 2 : Nat) : Int) - 4194304), stepW (((X * 2 ^ (24 - z) + 2 ^ (24 - z) - 1 : Nat) : Int) - 8388608), true) := by
  have hl := tk_len z X Y
  have hD : Dig (tk z X Y) := tk_dig z X Y
  obtain ⟨a, b⟩ := k_tk z X Y hX hY
  have q1 := tile_bd hz hX
  have q2 := tile_bd hz hY
  obtain ⟨t, ht, t0⟩ := half_pow hz
  unfold impl_KeyBox.f
  rw [IsKey_f hD (by omega)]
  simp only [Option.bind_some, if_true]
  rw [keyTile_f hD (by omega) hk, a, b, son_size, hl]
  simp only [Option.bind_some]
  have e1 : wrap64 (24 - (z : Int)) = ((24 - z : Nat) : Int) := by rw [w64 (by omega) (by omega)]; omega
  have e2 : (2:Int) ^ (24 - z) = ((2 ^ (24 - z) : Nat) : Int) := by simp
  rw [e1, if_pos (by omega), shl1 (by omega), e2]
  have m1 : (X : Int) * ((2 ^ (24 - z) : Nat) : Int) = ((X * 2 ^ (24 - z) : Nat) : Int) := by simp
  have m2 : (Y : Int) * ((2 ^ (24 - z) : Nat) : Int) = ((Y * 2 ^ (24 - z) : Nat) : Int) := by simp
  rw [m1, m2]
  generalize X * 2 ^ (24 - z) = A at *
  generalize Y * 2 ^ (24 - z) = B at *
  generalize 2 ^ (24 - z) = s at *
  rw [w64 (n := (A : Int)) (by omega) (by omega), w64 (n := (B : Int)) (by omega) (by omega), w64 (n := (A : Int) + s) (by omega) (by omega), w64 (n := (B : Int) + s) (by omega) (by omega),
    show wrap64 ((A : Int) + s - 1) = ((A + s - 1 : Nat) : Int) by rw [w64 (by omega) (by omega)]; omega, show wrap64 ((B : Int) + s - 1) = ((B + s - 1 : Nat) : Int) by rw [w64 (by omega) (by omega)]; omega,
    corner_f (by omega) (by omega), corner_f (by omega) (by omega)]
  simp only [Option.bind_some, if_true]

theorem shl_z {z : Nat} (hz : z ≤ 20) : shl .i64 1 (z : Int) = ((2 ^ z : Nat) : Int) := by rw [shl1 (by omega)]; simp

/-- the tile beside, eastward -/
def besideX (z X : Nat) (e : Int) : Nat := (((X : Int) + e) % (2 ^ z : Nat)).toNat
theorem besideX_lt {z X : Nat} {e : Int} : besideX z X e < 2 ^ z := by
  unfold besideX
  have h := Int.emod_lt_of_pos ((X : Int) + e) (b := ((2 ^ z : Nat) : Int)) (by have := Nat.two_pow_pos z; omega)
  have h2 := Int.emod_nonneg ((X : Int) + e) (b := ((2 ^ z : Nat) : Int)) (by have := Nat.two_pow_pos z; omega)
  omega
theorem besideX_eq {z X : Nat} {e : Int} (hz : z ≤ 20) (hX : X < 2 ^ z) (h1 : -1000000 ≤ e) (h2 : e ≤ 1000000) :
    Int.tmod (wrap64 (Int.tmod (wrap64 ((X : Int) + e)) ((2 ^ z : Nat) : Int) + ((2 ^ z : Nat) : Int))) ((2 ^ z : Nat) : Int) = (besideX z X e : Int) := by
  have p := Nat.pow_le_pow_right (n := 2) (by omega) hz
  have p2 : 2 ^ 20 = 1048576 := by decide
  have p0 := Nat.two_pow_pos z
  have hb := besideX_lt (z := z) (X := X) (e := e)
  have h3 := Int.emod_nonneg ((X : Int) + e) (b := ((2 ^ z : Nat) : Int)) (by omega)
  unfold besideX at *
  generalize 2 ^ z = m at *
  rw [w64 (n := (X : Int) + e) (by omega) (by omega)]
  have t1 : -(m : Int) < Int.tmod ((X : Int) + e) m := by
    by_cases hs : 0 ≤ (X : Int) + e
    · rw [Int.tmod_eq_emod_of_nonneg hs]; omega
    · have := Int.tmod_eq_emod (a := (X : Int) + e) (b := (m : Int))
      rw [this]; split <;> omega
  have t2 : Int.tmod ((X : Int) + e) m < (m : Int) := by
    by_cases hs : 0 ≤ (X : Int) + e
    · rw [Int.tmod_eq_emod_of_nonneg hs]; omega
    · have := Int.tmod_eq_emod (a := (X : Int) + e) (b := (m : Int))
      rw [this]; split <;> omega
  rw [w64 (by omega) (by omega), Int.tmod_eq_emod_of_nonneg (by omega)]
  have t3 : Int.tmod ((X : Int) + e) m = ((X : Int) + e) % m ∨ Int.tmod ((X : Int) + e) m = ((X : Int) + e) % m - m := by
    by_cases hs : 0 ≤ (X : Int) + e
    · exact .inl (Int.tmod_eq_emod_of_nonneg hs)
    · rw [Int.tmod_eq_emod]; split
      · left; omega
      · right; omega
  rcases t3 with t3 | t3 <;> rw [t3]
  · rw [Int.add_emod_right, Int.emod_emod_of_dvd _ (Int.dvd_refl _)]; omega
  · rw [show ((X : Int) + e) % m - m + m = ((X : Int) + e) % m by omega, Int.emod_emod_of_dvd _ (Int.dvd_refl _)]; omega
theorem besideX_back {z X : Nat} {e : Int} (hX : X < 2 ^ z) : besideX z (besideX z X e) (-e) = X := by
  have p0 := Nat.two_pow_pos z
  have h3 := Int.emod_nonneg ((X : Int) + e) (b := ((2 ^ z : Nat) : Int)) (by omega)
  unfold besideX
  generalize 2 ^ z = m at *
  rw [Int.toNat_of_nonneg h3]
  have : (((X : Int) + e) % m + -e) % m = (X : Int) := by
    rw [Int.emod_add_emod, show (X : Int) + e + -e = X by omega, Int.emod_eq_of_lt (by omega) (by omega)]
  rw [this]; omega

/-- the program's tile beside: there, or not there -/
theorem KeyBeside_f {z X Y k : Nat} {e n : Int} (hz : z ≤ 20) (hX : X < 2 ^ z) (hY : Y < 2 ^ z) (h1 : -1000000 ≤ e) (h2 : e ≤ 1000000) (h3 : -1000000 ≤ n) (h4 : n ≤ 1000000) (hk : 31 ≤ k) :
    impl_KeyBeside.f k (strOfNums (tk z X Y)) e n = if 0 ≤ (Y : Int) + n ∧ (Y : Int) + n < (2 ^ z : Nat) then some (strOfNums (tk z (besideX z X e) ((Y : Int) + n).toNat), true) else some (⟨#[]⟩, false) := by
  obtain ⟨k, rfl⟩ : ∃ m, k = m + 1 := ⟨k - 1, by omega⟩
  have hl := tk_len z X Y
  have hD : Dig (tk z X Y) := tk_dig z X Y
  have p := Nat.pow_le_pow_right (n := 2) (by omega) hz
  have p2 : 2 ^ 20 = 1048576 := by decide
  have p0 := Nat.two_pow_pos z
  obtain ⟨a, b⟩ := k_tk z X Y hX hY
  unfold impl_KeyBeside.f
  rw [IsKey_f hD (by omega), within_f, within_f, show (decide (-1000000 ≤ e) && decide (e ≤ 1000000)) = true by simp; omega, show (decide (-1000000 ≤ n) && decide (n ≤ 1000000)) = true by simp; omega]
  simp only [Option.bind_some, if_true, impl_KeyBeside.j0, Bool.not_true, Bool.false_eq_true, if_false]
  rw [keyTile_f hD (by omega) (by omega), a, b, son_size, hl, shl_z hz]
  simp only [Option.bind_some]
  rw [if_neg (by omega), besideX_eq hz hX h1 h2, w64 (n := (Y : Int) + n) (by omega) (by omega)]
  by_cases hin : 0 ≤ (Y : Int) + n ∧ (Y : Int) + n < (2 ^ z : Nat)
  · rw [if_pos hin]
    have : (Y : Int) + n = ((((Y : Int) + n).toNat : Nat) : Int) := by omega
    rw [this, TileKey_f hz besideX_lt (by omega) (by omega)]
    rfl
  · rw [if_neg hin, TileKey_no hz besideX_lt (by
      have e2 : (2:Int) ^ z = ((2 ^ z : Nat) : Int) := by simp
      rw [e2]; omega)]
    rfl
end Go.Proofs.YtcfpfbaeagkgmaaDoor.PureK
