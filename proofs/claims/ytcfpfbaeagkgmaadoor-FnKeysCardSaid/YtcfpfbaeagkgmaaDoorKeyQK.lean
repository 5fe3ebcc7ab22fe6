/-
  Keys of tiles: digits, what the printed functions give.
-/
import Derived.Test.YtcfpfbaeagkgmaaDoorStepQK
import Derived.Test.YtcfpfbaeagkgmaaDoorSrcQK
set_option linter.unusedSimpArgs false
set_option linter.unusedVariables false
namespace Go.Proofs.YtcfpfbaeagkgmaaDoor.PureK
open Go.RowKit Go.Proofs.YtcfpfbaeagkgmaaDoor.PK Go.Proofs.YtcfpfbaeagkgmaaDoorW.PrintWords Go.Proofs.YtcfpfbaeagkgmaaDoorW.PrintMore FL

/-- the digits of a tile's key -/
def tk : Nat → Nat → Nat → List Int
  | 0, _, _ => []
  | z + 1, x, y => tk z (x / 2) (y / 2) ++ [48 + 2 * ((y % 2 : Nat) : Int) + ((x % 2 : Nat) : Int)]
theorem tk_len : ∀ z x y, (tk z x y).length = z
  | 0, _, _ => rfl
  | z + 1, x, y => by simp [tk, tk_len z]
theorem tk_get : ∀ (z x y k : Nat) (h : k < z), (tk z x y)[k]? = some (48 + 2 * ((y / 2 ^ (z - 1 - k) % 2 : Nat) : Int) + ((x / 2 ^ (z - 1 - k) % 2 : Nat) : Int))
  | 0, _, _, k, h => by omega
  | z + 1, x, y, k, h => by
    unfold tk
    by_cases hk : k < z
    · rw [List.getElem?_append_left (by rw [tk_len]; exact hk), tk_get z _ _ k hk]
      have e : z + 1 - 1 - k = (z - 1 - k) + 1 := by omega
      rw [e, Nat.pow_succ', ← Nat.div_div_eq_div_mul, ← Nat.div_div_eq_div_mul]
    · obtain rfl : k = z := by omega
      rw [List.getElem?_append_right (by rw [tk_len]; exact Nat.le_refl _), tk_len]
      simp
theorem tk_dig : ∀ z x y, ∀ d ∈ tk z x y, 48 ≤ d ∧ d ≤ 51
  | 0, _, _, d, h => by simp [tk] at h
  | z + 1, x, y, d, h => by
    unfold tk at h
    rcases List.mem_append.1 h with h | h
    · exact tk_dig z _ _ d h
    · rw [List.mem_singleton] at h; omega

theorem set_fill {α : Type} (A : List α) (d : α) (j : Nat) (h : j < A.length) :
    (A.take j ++ List.replicate (A.length - j) d).set j A[j] = A.take (j + 1) ++ List.replicate (A.length - (j + 1)) d := by
  apply List.ext_getElem?
  intro i
  rw [List.getElem?_set]
  have hl : (A.take j).length = j := by rw [List.length_take]; omega
  have hl2 : (A.take (j + 1)).length = j + 1 := by rw [List.length_take]; omega
  by_cases e : j = i
  · subst e
    rw [if_pos rfl, if_pos (by rw [List.length_append, hl, List.length_replicate]; omega), List.getElem?_append_left (by omega), List.getElem?_take, if_pos (by omega), List.getElem?_eq_getElem h]
  · rw [if_neg e]
    by_cases hi : i < j
    · rw [List.getElem?_append_left (by omega), List.getElem?_append_left (by omega), List.getElem?_take, List.getElem?_take, if_pos (by omega), if_pos (by omega)]
    · rw [List.getElem?_append_right (by omega), List.getElem?_append_right (by omega), hl, hl2, List.getElem?_replicate, List.getElem?_replicate]
      by_cases hi2 : i < A.length
      · rw [if_pos (by omega), if_pos (by omega)]
      · rw [if_neg (by omega), if_neg (by omega)]

theorem bits1 {n : Int} (h0 : 0 ≤ n) (h1 : n ≤ 4611686018427387903) : Go.bits .and .i64 n 1 = n % 2 := by
  obtain ⟨m, rfl⟩ := Int.eq_ofNat_of_zero_le h0
  have e : Go.bits .and .i64 (m : Int) 1 = IntKind.i64.wrap ((BitVec.ofInt 64 (m : Int) &&& BitVec.ofInt 64 1).toNat : Int) := rfl
  have em : (BitVec.ofInt 64 (m : Int)).toNat = m := by
    rw [BitVec.ofInt_natCast, BitVec.toNat_ofNat]; exact Nat.mod_eq_of_lt (by omega)
  have e1 : (BitVec.ofInt 64 1).toNat = 1 := by decide
  rw [e, BitVec.toNat_and, em, e1, Nat.and_one_is_mod, IntKind.wrap_i64]
  omega

theorem pow2_pos (k : Nat) : 0 < (2:Int) ^ k := Int.pow_pos (by decide)
theorem pow2_le {a b : Nat} (h : a ≤ b) : (2:Int) ^ a ≤ 2 ^ b := by
  have := Nat.pow_le_pow_right (n := 2) (by omega) h
  have e : ∀ n : Nat, ((2 ^ n : Nat) : Int) = (2:Int) ^ n := fun n => by simp
  rw [← e, ← e]; omega
theorem shl1 {n : Nat} (h : n ≤ 40) : shl .i64 1 (n : Int) = 2 ^ n := by
  unfold shl
  have e : min (n : Int).toNat IntKind.i64.bits = n := by
    have : IntKind.i64.bits = 64 := rfl
    omega
  rw [e, Int.one_mul]
  have h1 := pow2_pos n
  have h2 := pow2_le h
  rw [IntKind.wrap_i64]
  have : (2:Int) ^ 40 = 1099511627776 := by decide
  omega
theorem shr_n {x : Int} {n : Nat} (h : n ≤ 64) : shr .i64 x (n : Int) = x / 2 ^ n := by
  unfold shr
  have : IntKind.i64.bits = 64 := rfl
  rw [show min (n : Int).toNat IntKind.i64.bits = n by omega]
theorem shr_nat {x n : Nat} (h : n ≤ 64) : shr .i64 (x : Int) (n : Int) = ((x / 2 ^ n : Nat) : Int) := by
  rw [shr_n h]; simp

theorem tileKey_l0 (z x y : Nat) (hz : z ≤ 20) (hx : x < 4611686018427387904) (hy : y < 4611686018427387904) : ∀ (d j k : Nat), j ≤ z → z - j = d → d < k →
    impl_tileKey.l0 k z x y ((tk z x y).take j ++ List.replicate (z - j) 0) z j = some (strOfNums (tk z x y)) := by
  intro d
  induction d with
  | zero =>
    intro j k hj hd hk
    obtain ⟨k, rfl⟩ : ∃ m, k = m + 1 := ⟨k - 1, by omega⟩
    obtain rfl : j = z := by omega
    simp only [impl_tileKey.l0]
    rw [if_neg (by omega), List.take_of_length_le (by rw [tk_len]; exact Nat.le_refl _), Nat.sub_self, List.replicate_zero, List.append_nil]
  | succ d ih =>
    intro j k hj hd hk
    obtain ⟨k, rfl⟩ : ∃ m, k = m + 1 := ⟨k - 1, by omega⟩
    have hlt : j < z := by omega
    have hlen : ((tk z x y).take j ++ List.replicate (z - j) (0 : Int)).length = z := by
      rw [List.length_append, List.length_take, tk_len, List.length_replicate]; omega
    have w1 : wrap64 ((z : Int) - 1) = (z : Int) - 1 := w64 (by omega) (by omega)
    have w2 : wrap64 ((z : Int) - 1 - (j : Int)) = ((z - 1 - j : Nat) : Int) := by rw [w64 (by omega) (by omega)]; omega
    simp only [impl_tileKey.l0]
    rw [w1, w2, if_pos (by omega), if_pos (by omega), if_pos (by omega), hlen, if_pos (by omega), shr_nat (by omega), shr_nat (by omega)]
    have bx : x / 2 ^ (z - 1 - j) ≤ x := Nat.div_le_self _ _
    have by' : y / 2 ^ (z - 1 - j) ≤ y := Nat.div_le_self _ _
    have g := tk_get z x y j hlt
    have gl : j < (tk z x y).length := by rw [tk_len]; exact hlt
    rw [List.getElem?_eq_getElem gl] at g
    have g' := Option.some.inj g
    generalize hX : x / 2 ^ (z - 1 - j) = X at *
    generalize hY : y / 2 ^ (z - 1 - j) = Y at *
    rw [bits1 (n := (Y : Int)) (by omega) (by omega), bits1 (n := (X : Int)) (by omega) (by omega)]
    have ev : (wrap64 ((wrap64 (48 + (wrap64 (2 * ((Y : Int) % 2))))) + ((X : Int) % 2))) % 256 = (tk z x y)[j] := by
      rw [g', w64 (n := 2 * ((Y : Int) % 2)) (by omega) (by omega), w64 (n := 48 + 2 * ((Y : Int) % 2)) (by omega) (by omega), w64 (by omega) (by omega)]
      omega
    rw [ev, w64 (by omega) (by omega), Int.toNat_natCast]
    have sf := set_fill (tk z x y) 0 j gl
    rw [tk_len] at sf
    rw [sf]
    exact ih (j + 1) k (by omega) (by omega) (by omega)

theorem tileKey_f {z x y k : Nat} (hz : z ≤ 20) (hx : x < 4611686018427387904) (hy : y < 4611686018427387904) (hk : 30 ≤ k) : impl_tileKey.f k z x y = some (strOfNums (tk z x y)) := by
  unfold impl_tileKey.f
  rw [if_pos (by omega), if_pos (by omega), Int.toNat_natCast]
  simp only [Option.bind_some, List.length_replicate]
  have h := tileKey_l0 z x y hz hx hy z 0 k (by omega) (by omega) (by omega)
  simpa using h

/-! ### strings of digits -/
def Dig (L : List Int) : Prop := ∀ d ∈ L, 48 ≤ d ∧ d ≤ 51
theorem son_size (L : List Int) : (strOfNums L).size = L.length := by simp [strOfNums, ByteArray.size]
theorem son_bt {L : List Int} (h : Dig L) (i : Nat) (hi : i < L.length) : bt (strOfNums L) (i : Int) = L[i] := by
  have hs : (i : Int).toNat < (strOfNums L).size := by rw [son_size]; simpa using hi
  rw [← bt_at _ _ hs]
  have hd := h L[i] (List.getElem_mem hi)
  have e : (strOfNums L)[(i : Int).toNat]'hs = UInt8.ofNat L[i].toNat := by
    simp [strOfNums, ByteArray.getElem_eq_getElem_data]
  rw [e]
  simp
  omega
theorem son_inj {L M : List Int} (hL : Dig L) (hM : Dig M) (h : (strOfNums L).toList = (strOfNums M).toList) : L = M := by
  have e : ∀ A, (strOfNums A).toList = A.map fun n => UInt8.ofNat n.toNat := fun A => by rw [Lib.toList_data]; simp [strOfNums]
  rw [e, e] at h
  have hl : L.length = M.length := by have := congrArg List.length h; simpa using this
  refine List.ext_getElem hl fun i h1 h2 => ?_
  have h3 := congrArg (fun l => l[i]?) h
  simp [h1, h2] at h3
  have a := hL L[i] (List.getElem_mem h1)
  have b := hM M[i] (List.getElem_mem h2)
  have := congrArg UInt8.toNat h3
  simp at this
  omega

theorem dropAll {l : List UInt8} {p : UInt8 → Bool} (h : ∀ b ∈ l, p b = true) : l.dropWhile p = [] := by
  induction l with
  | nil => rfl
  | cons a r ih =>
    rw [List.dropWhile_cons, if_pos (h a (by simp))]
    exact ih fun b hb => h b (by simp [hb])

theorem IsKey_f {L : List Int} (h : Dig L) (hl : L.length ≤ 20) : impl_IsKey.f (strOfNums L) = some true := by
  unfold impl_IsKey.f
  rw [son_size, if_pos (by omega)]
  unfold strings_Trim.f
  have hall : ∀ b ∈ (strOfNums L).data.toList, ([48, 49, 50, 51] : List UInt8).contains b = true := fun b hb => by
    have hb' : b ∈ L.map fun n => UInt8.ofNat n.toNat := by simpa [strOfNums] using hb
    obtain ⟨d, hd, rfl⟩ := List.mem_map.1 hb'
    have := h d hd
    rcases (by omega : d = 48 ∨ d = 49 ∨ d = 50 ∨ d = 51) with rfl | rfl | rfl | rfl <;> decide
  have e : Lib.trimS (strOfNums L).data.toList [48, 49, 50, 51] = [] := by
    unfold Lib.trimS Lib.trimLeftS Lib.trimRightS
    rw [dropAll (l := (strOfNums L).data.toList.reverse) (fun b hb => hall b (List.mem_reverse.1 hb))]
    rfl
  rw [if_pos ⟨by rw [son_size]; omega, by decide, by decide⟩]
  have e2 : (⟨#[48, 49, 50, 51]⟩ : ByteArray).data.toList = [48, 49, 50, 51] := rfl
  rw [e2, e, Option.bind_some, Lib.toList_data]
  rfl

/-! ### reading a key -/
def kx (L : List Int) : Int := L.foldl (fun a d => 2 * a + (d - 48) % 2) 0
def ky (L : List Int) : Int := L.foldl (fun a d => 2 * a + (d - 48) / 2) 0
theorem kx_snoc (L : List Int) (d : Int) : kx (L ++ [d]) = 2 * kx L + (d - 48) % 2 := by simp [kx]
theorem ky_snoc (L : List Int) (d : Int) : ky (L ++ [d]) = 2 * ky L + (d - 48) / 2 := by simp [ky]
theorem k_tk : ∀ z x y, x < 2 ^ z → y < 2 ^ z → kx (tk z x y) = x ∧ ky (tk z x y) = y
  | 0, x, y, hx, hy => by
    have : x = 0 := by simpa using hx
    have : y = 0 := by simpa using hy
    subst x y; exact ⟨rfl, rfl⟩
  | z + 1, x, y, hx, hy => by
    rw [Nat.pow_succ] at hx hy
    obtain ⟨a, b⟩ := k_tk z (x / 2) (y / 2) (by omega) (by omega)
    unfold tk
    rw [kx_snoc, ky_snoc, a, b]
    omega
theorem k_bd : ∀ (n : Nat) (L : List Int), L.length = n → Dig L → 0 ≤ kx L ∧ kx L < 2 ^ n ∧ 0 ≤ ky L ∧ ky L < 2 ^ n
  | 0, L, hl, h => by
    have : L = [] := List.eq_nil_of_length_eq_zero hl
    subst this; decide
  | n + 1, L, hl, h => by
    have hne : L ≠ [] := fun e => by subst e; simp at hl
    have e := (List.dropLast_concat_getLast hne).symm
    have hd := h _ (List.getLast_mem hne)
    have hD : Dig L.dropLast := fun d hd => h d ((List.dropLast_sublist L).subset hd)
    obtain ⟨a, b, c, d⟩ := k_bd n L.dropLast (by rw [List.length_dropLast]; omega) hD
    generalize L.getLast hne = q at *
    generalize L.dropLast = M at *
    subst e
    rw [kx_snoc, ky_snoc]
    have : (2:Int) ^ (n + 1) = 2 ^ n * 2 := Int.pow_succ 2 n
    omega
theorem k_take (L : List Int) (j : Nat) (h : j < L.length) : kx (L.take (j + 1)) = 2 * kx (L.take j) + (L[j] - 48) % 2 ∧ ky (L.take (j + 1)) = 2 * ky (L.take j) + (L[j] - 48) / 2 := by
  rw [List.take_succ_eq_append_getElem h, kx_snoc, ky_snoc]; exact ⟨rfl, rfl⟩

theorem keyTile_l0 {L : List Int} (hL : Dig L) (hl : L.length ≤ 20) : ∀ (d j k : Nat), j ≤ L.length → L.length - j = d → d < k →
    impl_keyTile.l0 k (strOfNums L) (kx (L.take j)) (ky (L.take j)) L.length j = some (kx L, ky L) := by
  intro d
  induction d with
  | zero =>
    intro j k hj hd hk
    obtain ⟨k, rfl⟩ : ∃ m, k = m + 1 := ⟨k - 1, by omega⟩
    simp only [impl_keyTile.l0]
    rw [if_neg (by omega), List.take_of_length_le (by omega)]
  | succ d ih =>
    intro j k hj hd hk
    obtain ⟨k, rfl⟩ : ∃ m, k = m + 1 := ⟨k - 1, by omega⟩
    have hlt : j < L.length := by omega
    have hdj := hL L[j] (List.getElem_mem hlt)
    obtain ⟨a, b, c, e⟩ := k_bd j (L.take j) (by rw [List.length_take]; omega) (fun d hd => hL d (List.mem_of_mem_take hd))
    have p := pow2_le (a := j) (b := 20) (by omega)
    have p2 : (2:Int) ^ 20 = 1048576 := by decide
    simp only [impl_keyTile.l0]
    rw [if_pos (by omega), if_pos (by omega), son_size, if_pos (by omega), son_bt hL j hlt]
    have eb : (L[j] - 48) % 256 = L[j] - 48 := by omega
    obtain ⟨t1, t2⟩ := k_take L j hlt
    rw [eb, bits1 (by omega) (by omega), w64 (n := 2 * kx (L.take j)) (by omega) (by omega), w64 (n := 2 * ky (L.take j)) (by omega) (by omega), w64 (n := 2 * kx (L.take j) + (L[j] - 48) % 2) (by omega) (by omega),
      w64 (n := 2 * ky (L.take j) + (L[j] - 48) / 2) (by omega) (by omega), w64 (n := (j : Int) + 1) (by omega) (by omega), ← t1, ← t2]
    exact ih (j + 1) k (by omega) (by omega) (by omega)
theorem keyTile_f {L : List Int} (hL : Dig L) (hl : L.length ≤ 20) {k : Nat} (hk : 30 ≤ k) : impl_keyTile.f k (strOfNums L) = some (kx L, ky L) := by
  unfold impl_keyTile.f
  rw [son_size]
  exact keyTile_l0 hL hl L.length 0 k (by omega) (by omega) (by omega)
theorem KeyTile_f {L : List Int} (hL : Dig L) (hl : L.length ≤ 20) {k : Nat} (hk : 30 ≤ k) : impl_KeyTile.f k (strOfNums L) = some (kx L, ky L, true) := by
  unfold impl_KeyTile.f
  rw [IsKey_f hL hl]
  simp only [Option.bind_some, if_true]
  rw [keyTile_f hL hl hk]; rfl
theorem isZoom_f {z : Int} : impl_isZoom.f z = some (decide (0 ≤ z) && decide (z ≤ 20)) := by
  unfold impl_isZoom.f; rw [within_f]; rfl
theorem TileKey_f {z x y k : Nat} (hz : z ≤ 20) (hx : x < 2 ^ z) (hy : y < 2 ^ z) (hk : 30 ≤ k) : impl_TileKey.f k z x y = some (strOfNums (tk z x y), true) := by
  have p := Nat.pow_le_pow_right (n := 2) (by omega) hz
  have p2 : 2 ^ 20 = 1048576 := by decide
  have e : ((2 ^ z : Nat) : Int) = (2:Int) ^ z := by simp
  unfold impl_TileKey.f
  rw [isZoom_f, show (decide (0 ≤ (z:Int)) && decide ((z:Int) ≤ 20)) = true by simp; omega]
  simp only [Option.bind_some, if_true]
  rw [if_pos (by omega), shl1 (by omega), ← e, w64 (by omega) (by omega), within_f, within_f]
  rw [show (decide (0 ≤ (x:Int)) && decide ((x:Int) ≤ ((2 ^ z : Nat) : Int) - 1)) = true by simp; omega, show (decide (0 ≤ (y:Int)) && decide ((y:Int) ≤ ((2 ^ z : Nat) : Int) - 1)) = true by simp; omega]
  simp only [Option.bind_some, if_true]
  rw [tileKey_f hz (by omega) (by omega) hk]; rfl
/-- a tile that there is not -/
theorem TileKey_no {z x k : Nat} {y : Int} (hz : z ≤ 20) (hx : x < 2 ^ z) (hy : y < 0 ∨ 2 ^ z ≤ y) : impl_TileKey.f k z x y = some (⟨#[]⟩, false) := by
  have p := Nat.pow_le_pow_right (n := 2) (by omega) hz
  have p2 : 2 ^ 20 = 1048576 := by decide
  have e : ((2 ^ z : Nat) : Int) = (2:Int) ^ z := by simp
  unfold impl_TileKey.f
  rw [isZoom_f, show (decide (0 ≤ (z:Int)) && decide ((z:Int) ≤ 20)) = true by simp; omega]
  simp only [Option.bind_some, if_true]
  rw [← e] at hy
  rw [if_pos (by omega), shl1 (by omega), ← e, w64 (by omega) (by omega), within_f, within_f]
  rw [show (decide (0 ≤ (x:Int)) && decide ((x:Int) ≤ ((2 ^ z : Nat) : Int) - 1)) = true by simp; omega, show (decide (0 ≤ y) && decide (y ≤ ((2 ^ z : Nat) : Int) - 1)) = false by simp; omega]
  simp
end Go.Proofs.YtcfpfbaeagkgmaaDoor.PureK
