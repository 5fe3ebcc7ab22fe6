/-
  FnKeys in plain Lean, second half: the reference's tile beside, parents, the law.
-/
import Derived.Test.YtcfpfbaeagkgmaaDoorKeysLawK
set_option linter.unusedSimpArgs false
set_option linter.unusedVariables false
namespace Go.Proofs.YtcfpfbaeagkgmaaDoor.PureK
open Go.RowKit Go.Proofs.YtcfpfbaeagkgmaaDoor.PK Go.Proofs.YtcfpfbaeagkgmaaDoorW.PrintWords Go.Proofs.YtcfpfbaeagkgmaaDoorW.PrintMore FL

theorem l07Is_l0 {L : List Int} (hL : Dig L) (hl : L.length ≤ 20) : ∀ (d j k : Nat), j ≤ L.length → L.length - j = d → d < k → spec_l07Is.l0 k (strOfNums L) j = some true := by
  intro d
  induction d with
  | zero =>
    intro j k hj hd hk
    obtain ⟨k, rfl⟩ : ∃ m, k = m + 1 := ⟨k - 1, by omega⟩
    simp only [spec_l07Is.l0]
    rw [son_size, if_neg (by omega), decide_eq_true (by omega)]
  | succ d ih =>
    intro j k hj hd hk
    obtain ⟨k, rfl⟩ : ∃ m, k = m + 1 := ⟨k - 1, by omega⟩
    have hlt : j < L.length := by omega
    have hdj := hL L[j] (List.getElem_mem hlt)
    simp only [spec_l07Is.l0]
    rw [son_size, if_pos (by omega), if_pos (by omega), son_bt hL j hlt, if_neg (by omega), if_neg (by omega), w64 (by omega) (by omega)]
    exact ih (j + 1) k (by omega) (by omega) (by omega)
theorem l07Is_f {L : List Int} (hL : Dig L) (hl : L.length ≤ 20) {k : Nat} (hk : 30 ≤ k) : spec_l07Is.f k (strOfNums L) = some true := l07Is_l0 hL hl L.length 0 k (by omega) (by omega) (by omega)

theorem l07Read_l0 {L : List Int} (hL : Dig L) (hl : L.length ≤ 20) : ∀ (d j k : Nat), j ≤ L.length → L.length - j = d → d < k →
    spec_l07Read.l0 k (strOfNums L) (kx (L.take j)) (ky (L.take j)) j = some (kx L, ky L) := by
  intro d
  induction d with
  | zero =>
    intro j k hj hd hk
    obtain ⟨k, rfl⟩ : ∃ m, k = m + 1 := ⟨k - 1, by omega⟩
    simp only [spec_l07Read.l0]
    rw [son_size, if_neg (by omega), List.take_of_length_le (by omega)]
  | succ d ih =>
    intro j k hj hd hk
    obtain ⟨k, rfl⟩ : ∃ m, k = m + 1 := ⟨k - 1, by omega⟩
    have hlt : j < L.length := by omega
    have hdj := hL L[j] (List.getElem_mem hlt)
    obtain ⟨a, b, c, e⟩ := k_bd j (L.take j) (by rw [List.length_take]; omega) (fun d hd => hL d (List.mem_of_mem_take hd))
    have p := pow2_le (a := j) (b := 20) (by omega)
    have p2 : (2:Int) ^ 20 = 1048576 := by decide
    simp only [spec_l07Read.l0]
    rw [son_size, if_pos (by omega), if_pos (by omega), son_bt hL j hlt]
    have eb : (L[j] - 48) % 256 = L[j] - 48 := by omega
    obtain ⟨t1, t2⟩ := k_take L j hlt
    rw [eb, w64 (n := 2 * kx (L.take j)) (by omega) (by omega), w64 (n := 2 * ky (L.take j)) (by omega) (by omega), w64 (n := 2 * kx (L.take j) + (L[j] - 48) % 2) (by omega) (by omega),
      w64 (n := 2 * ky (L.take j) + (L[j] - 48) / 2) (by omega) (by omega), w64 (n := (j : Int) + 1) (by omega) (by omega), ← t1, ← t2]
    exact ih (j + 1) k (by omega) (by omega) (by omega)
theorem l07Read_f {L : List Int} (hL : Dig L) (hl : L.length ≤ 20) {k : Nat} (hk : 30 ≤ k) : spec_l07Read.f k (strOfNums L) = some (kx L, ky L) :=
  l07Read_l0 hL hl L.length 0 k (by omega) (by omega) (by omega)

theorem l07Key_l0 : ∀ (d k : Nat) (x y : Int) (A : List Int), d ≤ A.length → A.length ≤ 20 → d < k → ∃ r, spec_l07Key.l0 k x y A ((d : Int) - 1) = some r := by
  intro d
  induction d with
  | zero =>
    intro k x y A hA _ hk
    obtain ⟨k, rfl⟩ : ∃ m, k = m + 1 := ⟨k - 1, by omega⟩
    simp only [spec_l07Key.l0]
    rw [if_neg (by omega)]
    exact ⟨_, rfl⟩
  | succ d ih =>
    intro k x y A hA h20 hk
    obtain ⟨k, rfl⟩ : ∃ m, k = m + 1 := ⟨k - 1, by omega⟩
    simp only [spec_l07Key.l0]
    rw [if_pos (by omega), if_pos (by omega), if_pos (by omega), w64 (n := ((d + 1 : Nat) : Int) - 1 - 1) (by omega) (by omega), show ((d + 1 : Nat) : Int) - 1 - 1 = (d : Int) - 1 by omega]
    exact ih k _ _ _ (by rw [List.length_set]; omega) (by rw [List.length_set]; exact h20) (by omega)
theorem l07Key_f {z k : Nat} (x y : Int) (hz : z ≤ 20) (hk : 30 ≤ k) : ∃ r, spec_l07Key.f k z x y = some r := by
  unfold spec_l07Key.f
  rw [if_pos (by omega), if_pos (by omega), w64 (by omega) (by omega)]
  exact l07Key_l0 z k x y _ (by simp) (by simp; omega) (by omega)
theorem l00In_f (a b c : Int) : spec_l00In.f a b c = some (decide (b ≤ a) && decide (a ≤ c)) := by
  unfold spec_l00In.f
  by_cases h : b ≤ a <;> simp [h]

theorem sKeyBeside_f {z X Y k : Nat} {e n : Int} (hz : z ≤ 20) (hX : X < 2 ^ z) (hY : Y < 2 ^ z) (h1 : -1000000 ≤ e) (h2 : e ≤ 1000000) (h3 : -1000000 ≤ n) (h4 : n ≤ 1000000) (hk : 31 ≤ k) :
    ∃ r, spec_KeyBeside.f k (strOfNums (tk z X Y)) e n = some (r, decide (0 ≤ (Y : Int) + n) && decide ((Y : Int) + n ≤ (2 ^ z : Nat) - 1)) := by
  obtain ⟨k, rfl⟩ : ∃ m, k = m + 1 := ⟨k - 1, by omega⟩
  have hl := tk_len z X Y
  have hD : Dig (tk z X Y) := tk_dig z X Y
  have p := Nat.pow_le_pow_right (n := 2) (by omega) hz
  have p2 : 2 ^ 20 = 1048576 := by decide
  have p0 := Nat.two_pow_pos z
  obtain ⟨a, b⟩ := k_tk z X Y hX hY
  unfold spec_KeyBeside.f
  rw [l07Is_f hD (by omega) (by omega), l00In_f, l00In_f, show (decide (-1000000 ≤ e) && decide (e ≤ 1000000)) = true by simp; omega, show (decide (-1000000 ≤ n) && decide (n ≤ 1000000)) = true by simp; omega]
  simp only [Option.bind_some, if_true, spec_KeyBeside.j0, Bool.not_true, Bool.false_eq_true, if_false]
  rw [l07Read_f hD (by omega) (by omega), a, b, son_size, hl, shl_z hz]
  simp only [Option.bind_some]
  rw [if_neg (by omega), w64 (n := (Y : Int) + n) (by omega) (by omega), w64 (n := ((2 ^ z : Nat) : Int) - 1) (by omega) (by omega), l00In_f]
  simp only [Option.bind_some]
  by_cases hin : (decide (0 ≤ (Y : Int) + n) && decide ((Y : Int) + n ≤ (2 ^ z : Nat) - 1)) = true
  · rw [hin]
    simp only [if_true]
    obtain ⟨r, hr⟩ := l07Key_f (Int.tmod (wrap64 (Int.tmod (wrap64 ((X : Int) + e)) ((2 ^ z : Nat) : Int) + ((2 ^ z : Nat) : Int))) ((2 ^ z : Nat) : Int)) ((Y : Int) + n) hz (k := k) (by omega)
    rw [hr]
    exact ⟨r, rfl⟩
  · rw [Bool.not_eq_true] at hin
    rw [hin]
    exact ⟨_, rfl⟩

theorem KeyParent_f {z X Y : Nat} (hz : z ≤ 20) : impl_KeyParent.f (strOfNums (tk z X Y)) = if z = 0 then some (⟨#[]⟩, false) else some (strOfNums (tk (z - 1) (X / 2) (Y / 2)), true) := by
  have hl := tk_len z X Y
  have hD : Dig (tk z X Y) := tk_dig z X Y
  unfold impl_KeyParent.f
  rw [IsKey_f hD (by omega)]
  simp only [Option.bind_some, if_true]
  cases z with
  | zero => rw [if_pos (by rw [Lib.toList_data]; rfl), if_pos rfl]
  | succ z =>
    have he : ¬ (strOfNums (tk (z + 1) X Y)).toList = ([] : List UInt8) := by
      intro h
      have h2 := congrArg List.length h
      rw [Lib.toList_data] at h2
      simp [strOfNums, tk_len] at h2
    rw [if_neg he, son_size, hl, w64 (by omega) (by omega), if_pos (by omega), if_pos (by omega), if_neg (by omega)]
    congr 2
    have et : (((z + 1 : Nat) : Int) - 1).toNat = z := by omega
    rw [et]
    have e2 : tk (z + 1) X Y = tk z (X / 2) (Y / 2) ++ [48 + 2 * ((Y % 2 : Nat) : Int) + ((X % 2 : Nat) : Int)] := rfl
    have hz' := tk_len z (X / 2) (Y / 2)
    apply ByteArray.ext
    apply Array.ext'
    rw [Lib.extract_data]
    rw [e2]
    simp [strOfNums, hz']

theorem fv_micro : ∃ c, FV D 4517329193108106637 c ∧ 0 ≤ c ∧ c ≤ 1 := ⟨_, FV.of_fin (by decide +kernel), by decide +kernel, by decide +kernel⟩

/-- p is no farther than q and a little more -/
theorem micro {p : Nat} {n m : Int} (hp : FV S p ((n : Rat) / 16777216)) (hm : m.natAbs ≤ 8388608) (h : n ≤ m) :
    ∃ a b c, cvtO p = some a ∧ cvtO (stepW m) = some b ∧ D.add b 4517329193108106637 = some c ∧ fgt D a c = false := by
  obtain ⟨c, hc, c0, c1⟩ := fv_micro
  have hq := (stepW_fv (n := m) (by omega)).2
  have r1 : FV D (cvt (stepW m)) ((m : Rat) / 16777216) := hq.cvt
  have r2 : FV D (cvt p) ((n : Rat) / 16777216) := hp.cvt
  have hb1 : (m : Rat) ≤ 8388608 := by
    have : (m : Rat) ≤ ((8388608 : Int) : Rat) := Rat.intCast_le_intCast.2 (by omega)
    exact this
  have hb2 : (-8388608 : Rat) ≤ (m : Rat) := by
    have : ((-8388608 : Int) : Rat) ≤ (m : Rat) := Rat.intCast_le_intCast.2 (by omega)
    exact this
  have ha := FV.add_ge r1 hc (by decide) c0 (InR.of_le (c := 2) (rep_of (by decide +kernel)) (by grind) (by grind))
  refine ⟨cvt p, cvt (stepW m), _, by unfold cvtO; rw [if_pos hp.fin], by unfold cvtO; rw [if_pos hq.fin], ha.1, ?_⟩
  rw [fgt_val r2.fin ha.2.1, r2.val]
  have h2 : (n : Rat) / 16777216 ≤ (m : Rat) / 16777216 := ratdiv_le.2 h
  have := ha.2.2
  apply decide_eq_false
  grind

theorem B10Place_f {c : List Int} (hc : Bytes c) : ∃ p q n e, spec_B10Place.f c = some (p, q) ∧ PS p q n e ∧ -3145728 ≤ n ∧ n ≤ 3145728 := by
  unfold spec_B10Place.f
  rw [l00From_f]
  simp only [Option.bind_some]
  obtain ⟨v, a1, s1, e1, v0, v1, q1, q2⟩ := pick_f hc (a := 0) (s := 0) (n := 49) (by omega) (by omega) (by omega) (by omega)
  rw [e1]
  simp only [Option.bind_some]
  obtain ⟨u, a2, s2, e2, u0, u1, q3, q4⟩ := pick_f hc (a := a1) (s := s1) (n := 128) (by omega) (by omega) (by omega) (by omega)
  have dv : ∀ m : Int, m.natAbs ≤ 128 → S.div (ofI S m) 1124073472 = some (fdiv S (ofI S m) 1124073472) ∧ FV S (fdiv S (ofI S m) 1124073472) (((m * 131072 : Int) : Rat) / 16777216) := fun m hm => by
    have h := FV.div (FV.ofS (n := m) (by omega)) fv_128 (by decide) (by have := repS (n := m) 7 (by omega) (by omega); simpa using this)
    refine ⟨h.1, h.2.eq ?_⟩
    rw [Rat.intCast_mul]; grind
  have d1 := dv (v - 24) (by omega)
  have d2 := dv (u - 64) (by omega)
  rw [w64 (n := v - 24) (by omega) (by omega), d1.1]
  simp only [Option.bind_some]
  rw [e2]
  simp only [Option.bind_some]
  rw [w64 (n := u - 64) (by omega) (by omega), d2.1]
  simp only [Option.bind_some]
  exact ⟨_, _, (v - 24) * 131072, (u - 64) * 131072, rfl, ⟨d1.2, d2.2, by omega, by omega, by omega, by omega⟩, by omega, by omega⟩

theorem PS_of_steps {n e : Int} (h1 : -4194304 ≤ n) (h2 : n ≤ 4194304) (h3 : -8388608 ≤ e) (h4 : e ≤ 8388607) : PS (stepW n) (stepW e) n e :=
  ⟨(stepW_fv (by omega)).2, (stepW_fv (by omega)).2, h1, h2, h3, h4⟩

theorem FnKeys_pure : laws_FnKeys.Pure := by
  intro l0 l1 _ _ hw0 _ _ hw1
  have c0 := Bytes.of_wf hw0
  have c1 := Bytes.of_wf hw1
  refine ⟨40, ?_⟩
  unfold laws_FnKeys.f
  obtain ⟨b, hb⟩ := b10Long_f l0 l1
  rw [hb]
  simp only [Option.bind_some]
  cases b with
  | true => rfl
  | false =>
  obtain ⟨p, q, n, e, hp, hP, n1, n2⟩ := B10Place_f c0
  obtain ⟨zi, hzi, z0, z1⟩ := b10At_f c1 (i := 0) (n := 21) (by omega) (by omega) (by omega)
  obtain ⟨z, rfl⟩ := Int.eq_ofNat_of_zero_le z0
  have hz : z ≤ 20 := by omega
  simp only [Bool.false_eq_true, if_false]
  rw [hp]
  simp only [Option.bind_some]
  rw [hzi]
  simp only [Option.bind_some]
  rw [KeyOf_f hP hz (by omega)]
  simp only [Option.bind_some]
  have e1 := hP.e1; have e2 := hP.e2
  -- the tile
  obtain ⟨u, hu⟩ : ∃ u, u = (e + 8388608).toNat := ⟨_, rfl⟩
  obtain ⟨v, hv⟩ : ∃ v, v = min (2 * n + 8388608).toNat 16777215 := ⟨_, rfl⟩
  rw [← hu, ← hv]
  have p24 : 2 ^ z * 2 ^ (24 - z) = 16777216 := by rw [← Nat.pow_add, show z + (24 - z) = 24 by omega]
  have s0 := Nat.two_pow_pos (24 - z)
  have hX : u / 2 ^ (24 - z) < 2 ^ z := Nat.div_lt_of_lt_mul (by rw [Nat.mul_comm, p24]; omega)
  have hY : v / 2 ^ (24 - z) < 2 ^ z := Nat.div_lt_of_lt_mul (by rw [Nat.mul_comm, p24]; omega)
  have ux : u / 2 ^ (24 - z) * 2 ^ (24 - z) ≤ u ∧ u < u / 2 ^ (24 - z) * 2 ^ (24 - z) + 2 ^ (24 - z) := by
    have h1 := Nat.div_add_mod u (2 ^ (24 - z)); have h2 := Nat.mod_lt u s0
    rw [Nat.mul_comm] at h1; omega
  have vy : v / 2 ^ (24 - z) * 2 ^ (24 - z) ≤ v ∧ v < v / 2 ^ (24 - z) * 2 ^ (24 - z) + 2 ^ (24 - z) := by
    have h1 := Nat.div_add_mod v (2 ^ (24 - z)); have h2 := Nat.mod_lt v s0
    rw [Nat.mul_comm] at h1; omega
  -- the parent's tile
  have hpar : 1 ≤ z → u / 2 ^ (24 - z) / 2 = u / 2 ^ (24 - (z - 1)) ∧ v / 2 ^ (24 - z) / 2 = v / 2 ^ (24 - (z - 1)) := fun h => by
    rw [show 24 - (z - 1) = (24 - z) + 1 by omega, Nat.pow_succ, Nat.div_div_eq_div_mul, Nat.div_div_eq_div_mul]
    exact ⟨rfl, rfl⟩
  generalize hXX : u / 2 ^ (24 - z) = X at *
  generalize hYY : v / 2 ^ (24 - z) = Y at *
  have hD : Dig (tk z X Y) := tk_dig z X Y
  have hl := tk_len z X Y
  rw [KeyTile_f hD (by omega) (by omega), (k_tk z X Y hX hY).1, (k_tk z X Y hX hY).2]
  simp only [Option.bind_some]
  rw [TileKey_f hz hX hY (by omega)]
  simp only [Option.bind_some]
  rw [KeyBox_f hz hX hY (by omega)]
  simp only [Option.bind_some, if_true]
  rw [IsKey_f hD (by omega)]
  simp only [Option.bind_some, if_true]
  rw [son_size, hl]
  simp only [if_true]
  have t1 := tile_bd hz hX
  have t2 := tile_bd hz hY
  obtain ⟨t, ht, t0⟩ := half_pow hz
  -- the box
  have hYt : Y * 2 ^ (24 - z) = 2 * (Y * t) := by rw [ht, Nat.mul_left_comm]
  have hlowT : ((((X * 2 ^ (24 - z) : Nat) : Int) - 8388608 + 8388608).toNat) / 2 ^ (24 - z) = X := by
    rw [show ((((X * 2 ^ (24 - z) : Nat) : Int) - 8388608 + 8388608).toNat) = X * 2 ^ (24 - z) by omega, Nat.mul_div_cancel _ s0]
  have hlowY : (min (2 * (((Y * 2 ^ (24 - z) / 2 : Nat) : Int) - 4194304) + 8388608).toNat 16777215) / 2 ^ (24 - z) = Y := by
    rw [show min (2 * (((Y * 2 ^ (24 - z) / 2 : Nat) : Int) - 4194304) + 8388608).toNat 16777215 = Y * 2 ^ (24 - z) by omega, Nat.mul_div_cancel _ s0]
  have hhighT : ((((X * 2 ^ (24 - z) + 2 ^ (24 - z) - 1 : Nat) : Int) - 8388608 + 8388608).toNat) / 2 ^ (24 - z) = X := by
    rw [show ((((X * 2 ^ (24 - z) + 2 ^ (24 - z) - 1 : Nat) : Int) - 8388608 + 8388608).toNat) = 2 ^ (24 - z) * X + (2 ^ (24 - z) - 1) by rw [Nat.mul_comm (2 ^ (24 - z)) X]; omega,
      Nat.mul_add_div s0, Nat.div_eq_of_lt (by omega), Nat.add_zero]
  have hhighY : (min (2 * ((((Y * 2 ^ (24 - z) + 2 ^ (24 - z) - 1) / 2 : Nat) : Int) - 4194304) + 8388608).toNat 16777215) / 2 ^ (24 - z) = Y := by
    rw [show min (2 * ((((Y * 2 ^ (24 - z) + 2 ^ (24 - z) - 1) / 2 : Nat) : Int) - 4194304) + 8388608).toNat 16777215 = 2 ^ (24 - z) * Y + (2 ^ (24 - z) - 2) by rw [Nat.mul_comm (2 ^ (24 - z)) Y]; omega,
      Nat.mul_add_div s0, Nat.div_eq_of_lt (by omega), Nat.add_zero]
  have PL := PS_of_steps (n := ((Y * 2 ^ (24 - z) / 2 : Nat) : Int) - 4194304) (e := ((X * 2 ^ (24 - z) : Nat) : Int) - 8388608) (by omega) (by omega) (by omega) (by omega)
  have PH := PS_of_steps (n := (((Y * 2 ^ (24 - z) + 2 ^ (24 - z) - 1) / 2 : Nat) : Int) - 4194304) (e := ((X * 2 ^ (24 - z) + 2 ^ (24 - z) - 1 : Nat) : Int) - 8388608) (by omega) (by omega) (by omega) (by omega)
  have KL := KeyOf_f PL hz (k := 39) (by omega)
  have KH := KeyOf_f PH hz (k := 39) (by omega)
  rw [hlowT, hlowY] at KL
  rw [hhighT, hhighY] at KH
  have f1 : FL.flt FL.S p (stepW (((Y * 2 ^ (24 - z) / 2 : Nat) : Int) - 4194304)) = false := by
    rw [hP.vn.flt PL.vn]; apply decide_eq_false; rw [ratdiv_lt]; omega
  have f2 : FL.flt FL.S q (stepW (((X * 2 ^ (24 - z) : Nat) : Int) - 8388608)) = false := by
    rw [hP.ve.flt PL.ve]; apply decide_eq_false; rw [ratdiv_lt]; omega
  obtain ⟨a, b, c, m1, m2, m3, m4⟩ := micro hP.vn (m := (((Y * 2 ^ (24 - z) + 2 ^ (24 - z) - 1) / 2 : Nat) : Int) - 4194304) (by omega) (by omega)
  obtain ⟨a', b', c', m1', m2', m3', m4'⟩ := micro hP.ve (m := ((X * 2 ^ (24 - z) + 2 ^ (24 - z) - 1 : Nat) : Int) - 8388608) (by omega) (by omega)
  generalize stepW (((Y * 2 ^ (24 - z) / 2 : Nat) : Int) - 4194304) = W1 at *
  generalize stepW (((X * 2 ^ (24 - z) : Nat) : Int) - 8388608) = W2 at *
  generalize stepW ((((Y * 2 ^ (24 - z) + 2 ^ (24 - z) - 1) / 2 : Nat) : Int) - 4194304) = W3 at *
  generalize stepW (((X * 2 ^ (24 - z) + 2 ^ (24 - z) - 1 : Nat) : Int) - 8388608) = W4 at *
  rw [f1, f2, m1, m2, m1', m2']
  simp only [Bool.false_eq_true, if_false, Option.bind_some]
  rw [m3]
  simp only [Option.bind_some]
  rw [m4, m3']
  simp only [Bool.false_eq_true, if_false, Option.bind_some]
  rw [m4']
  -- the corners
  simp only [laws_FnKeys.j0, Bool.false_eq_true, if_false]
  rw [KL, KH]
  simp only [Option.bind_some, if_true, bne_self_eq_false]
  -- beside
  simp only [laws_FnKeys.j1, Bool.false_eq_true, if_false]
  obtain ⟨de, hde, de0, de1⟩ := b10At_f c1 (i := 1) (n := 21) (by omega) (by omega) (by omega)
  obtain ⟨dn, hdn, dn0, dn1⟩ := b10At_f c1 (i := 2) (n := 7) (by omega) (by omega) (by omega)
  rw [hde]
  simp only [Option.bind_some]
  rw [hdn]
  simp only [Option.bind_some]
  rw [w64 (n := de - 10) (by omega) (by omega), w64 (n := dn - 3) (by omega) (by omega)]
  obtain ⟨r, hr⟩ := sKeyBeside_f (k := 38) (e := de - 10) (n := dn - 3) hz hX hY (by omega) (by omega) (by omega) (by omega) (by omega)
  rw [hr]
  simp only [Option.bind_some]
  rw [KeyBeside_f hz hX hY (by omega) (by omega) (by omega) (by omega) (by omega)]
  have last : laws_FnKeys.j2 38 (z : Int) (strOfNums (tk z X Y)) p q = some true := by
    simp only [laws_FnKeys.j2]
    rw [KeyParent_f hz]
    by_cases hz0 : z = 0
    · subst hz0; rfl
    · rw [if_neg hz0]
      simp only [Option.bind_some]
      rw [if_neg (by omega), w64 (by omega) (by omega), show (z : Int) - 1 = ((z - 1 : Nat) : Int) by omega, KeyOf_f hP (by omega) (by omega)]
      simp only [Option.bind_some, if_true]
      rw [← hu, ← hv, ← (hpar (by omega)).1, ← (hpar (by omega)).2]
      simp
  by_cases hin : 0 ≤ (Y : Int) + (dn - 3) ∧ (Y : Int) + (dn - 3) < (2 ^ z : Nat)
  · rw [if_pos hin]
    have hd : (decide (0 ≤ (Y : Int) + (dn - 3)) && decide ((Y : Int) + (dn - 3) ≤ (2 ^ z : Nat) - 1)) = true := by
      rw [Bool.and_eq_true, decide_eq_true_eq, decide_eq_true_eq]; omega
    rw [hd]
    simp only [Option.bind_some, bne_self_eq_false, Bool.false_eq_true, if_false, if_true]
    rw [w64 (n := -(de - 10)) (by omega) (by omega), w64 (n := -(dn - 3)) (by omega) (by omega), KeyBeside_f hz besideX_lt (by omega) (by omega) (by omega) (by omega) (by omega) (by omega), besideX_back hX]
    rw [if_pos (by omega)]
    have ey : (((((Y : Int) + (dn - 3)).toNat : Nat) : Int) + -(dn - 3)).toNat = Y := by omega
    rw [ey]
    simp only [Option.bind_some, if_true]
    exact last
  · rw [if_neg hin]
    have hd : (decide (0 ≤ (Y : Int) + (dn - 3)) && decide ((Y : Int) + (dn - 3) ≤ (2 ^ z : Nat) - 1)) = false := by
      rw [Bool.and_eq_false_iff, decide_eq_false_iff_not, decide_eq_false_iff_not]; omega
    rw [hd]
    simp only [Option.bind_some, bne_self_eq_false, Bool.false_eq_true, if_false]
    exact last
end Go.Proofs.YtcfpfbaeagkgmaaDoor.PureK
