/-
  Numbers of IEEE 754 as rational numbers: what the model's rounding does, and what follows for sums, products, quotients, roots, comparisons, whole numbers. No program in sight.
-/
import Ieee.Arith
set_option linter.unusedSimpArgs false
set_option linter.unusedVariables false
namespace Go.Proofs.YtcfpfbaeagkgmaaDoor.FL
open Ieee
section
def p2 (k : Int) : Rat := (2:Rat)^k
theorem p2_pos (k : Int) : 0 < p2 k := Rat.zpow_pos (by decide)
theorem p2_add (a b : Int) : p2 (a+b) = p2 a * p2 b := Rat.zpow_add (by decide) a b
theorem p2_zero : p2 0 = 1 := Rat.zpow_zero _
theorem p2_nat (n : Nat) : p2 (n : Int) = ((2^n : Nat) : Rat) := by
  unfold p2; rw [Rat.zpow_natCast, Rat.natCast_pow]; rfl
theorem p2_one : p2 1 = 2 := Rat.zpow_one _
theorem p2_ge_one (n : Nat) : 1 ≤ p2 (n : Int) := by
  rw [p2_nat]
  have : 1 ≤ 2^n := Nat.one_le_two_pow
  have h : ((1:Nat):Rat) ≤ ((2^n : Nat) : Rat) := Rat.natCast_le_natCast.2 this
  simpa using h
theorem p2_le {a b : Int} (h : a ≤ b) : p2 a ≤ p2 b := by
  obtain ⟨n, hn⟩ := Int.le.dest h
  rw [← hn, p2_add]
  have h1 := p2_ge_one n
  have h2 := p2_pos a
  have := Rat.mul_le_mul_of_nonneg_left (c := p2 a) h1 (Rat.le_of_lt h2)
  grind
theorem p2_succ (a : Int) : p2 (a+1) = 2 * p2 a := by rw [p2_add, p2_one]; grind
theorem p2_neg (a : Int) : p2 a * p2 (-a) = 1 := by rw [← p2_add]; simp [p2_zero, Int.add_right_neg]

theorem natc_le {a b : Nat} (h : a ≤ b) : (a:Rat) ≤ b := Rat.natCast_le_natCast.2 h
theorem natc_lt {a b : Nat} (h : a < b) : (a:Rat) < b := Rat.natCast_lt_natCast.2 h
theorem natc_nn (a : Nat) : (0:Rat) ≤ a := Rat.natCast_nonneg

/-- cut to even: within half a unit -/
theorem cut_spec (neg : Bool) (n drop : Nat) :
    2 * n ≤ (2 * Toward.even.cut neg n drop + 1) * 2^drop ∧ 2 * Toward.even.cut neg n drop * 2^drop ≤ 2 * n + 2^drop := by
  unfold Toward.cut
  simp only [Nat.one_shiftLeft]
  by_cases hd : drop ≤ n.log2 + 2
  · rw [Nat.min_eq_left hd]
    have hg : 0 < 2^drop := Nat.two_pow_pos _
    generalize 2^drop = g at *
    have h1 := Nat.div_add_mod n g
    have h2 := Nat.mod_lt n hg
    generalize n / g = q at *
    generalize n % g = r at *
    by_cases hb : (g < 2 * r || (g == 2 * r && q % 2 == 1)) = true
    · have hr : g ≤ 2 * r := by
        simp at hb; omega
      simp only [hb, Bool.toNat_true]
      subst h1
      constructor
      · grind
      · have : 2 * (q+1) * g = 2 * (g * q) + 2 * g := by grind
        omega
    · have hr : 2 * r ≤ g := by
        simp at hb; omega
      simp only [hb, Bool.toNat_false, Nat.add_zero]
      subst h1
      constructor
      · have : (2 * q + 1) * g = 2 * (g * q) + g := by grind
        omega
      · have : 2 * q * g = 2 * (g * q) := by grind
        omega
  · have hd' : n.log2 + 2 ≤ drop := by omega
    rw [Nat.min_eq_right hd']
    have hlt : n < 2^(n.log2+1) := Nat.lt_log2_self
    have hlt2 : 2 * n < 2^(n.log2+2) := by rw [Nat.pow_succ]; omega
    have hlt3 : 2^(n.log2+2) ≤ 2^drop := Nat.pow_le_pow_right (by omega) hd'
    have hq : n / 2^(n.log2+2) = 0 := Nat.div_eq_of_lt (by omega)
    have hm : n % 2^(n.log2+2) = n := Nat.mod_eq_of_lt (by omega)
    rw [hq, hm]
    have hb : (decide (2^(n.log2+2) < 2 * n) || (2^(n.log2+2) == 2 * n && 0 % 2 == 1)) = false := by simp; omega
    simp only [hb]
    simp
    omega

/-- the same in rationals: v = n * p2 place cut at last -/
def keptOf (neg : Bool) (mag : Nat) (place last : Int) : Nat :=
  Toward.even.cut neg (mag <<< (place - last).toNat) (last - place).toNat

theorem kept_spec (neg : Bool) (mag : Nat) (place last : Int) :
    2 * ((mag:Rat) * p2 place) ≤ (2 * (keptOf neg mag place last : Rat) + 1) * p2 last ∧
    2 * (keptOf neg mag place last : Rat) * p2 last ≤ 2 * ((mag:Rat) * p2 place) + p2 last := by
  unfold keptOf
  rw [Nat.shiftLeft_eq]
  obtain ⟨h1, h2⟩ := cut_spec neg (mag * 2 ^ (place - last).toNat) (last - place).toNat
  generalize Toward.even.cut neg (mag * 2 ^ (place - last).toNat) (last - place).toNat = k at *
  have h1' := natc_le h1
  have h2' := natc_le h2
  simp only [Rat.natCast_mul, Rat.natCast_add, ← p2_nat, Rat.natCast_ofNat] at h1' h2'
  have e : p2 place = p2 ((place - last).toNat : Int) * p2 last * p2 (-((last - place).toNat : Int)) := by
    rw [← p2_add, ← p2_add]; congr 1; omega
  have e2 : p2 ((last - place).toNat : Int) * p2 (-((last - place).toNat : Int)) = 1 := p2_neg _
  have hp := p2_pos (-((last - place).toNat : Int))
  have hl := p2_pos last
  rw [e]
  generalize p2 ((place - last).toNat : Int) = A at *
  generalize p2 ((last - place).toNat : Int) = B at *
  generalize p2 (-((last - place).toNat : Int)) = C at *
  generalize p2 last = L at *
  have hCL : 0 ≤ C * L := Rat.le_of_lt (Rat.mul_pos hp hl)
  have m1 := Rat.mul_le_mul_of_nonneg_right h1' hCL
  have m2 := Rat.mul_le_mul_of_nonneg_right h2' hCL
  have a1 : (2 * (k:Rat) + 1) * B * (C * L) = (2 * (k:Rat) + 1) * L := by grind
  have a2 : 2 * ((mag:Rat) * A) * (C * L) = 2 * ((mag:Rat) * (A * L * C)) := by grind
  have a3 : 2 * (k:Rat) * B * (C * L) = 2 * (k:Rat) * L := by grind
  have a4 : (2 * ((mag:Rat) * A) + B) * (C * L) = 2 * ((mag:Rat) * (A * L * C)) + L := by grind
  rw [a1, a2] at m1
  rw [a3, a4] at m2
  exact ⟨m1, m2⟩
end

section
def sgn (s : Bool) : Rat := if s then -1 else 1
def dval : Datum → Rat
  | .number s m e => sgn s * ((m:Rat) * p2 e)
  | _ => 0
def isNum : Datum → Bool
  | .number .. => true
  | _ => false
/-- the value of a word -/
def val (f : Format) (x : Nat) : Rat := dval (f.read x)
/-- a word is finite -/
def fin (f : Format) (x : Nat) : Bool := isNum (f.read x)

theorem bin_pos (f : Format) : 0 < f.binade := Nat.two_pow_pos _

theorem inf_lt (f : Format) : f.infRung < f.signWeight := by
  unfold Format.infRung Format.signWeight Format.binade
  rw [Nat.pow_add]
  exact Nat.mul_lt_mul_of_pos_right (by have := Nat.two_pow_pos f.exponentBits; omega) (Nat.two_pow_pos _)

theorem word_sign (f : Format) (neg : Bool) (r : Nat) (h : r < f.signWeight) : (f.word neg r / f.signWeight % 2 == 1) = neg ∧ f.word neg r % f.signWeight = r := by
  have hp : 0 < f.signWeight := Nat.two_pow_pos _
  unfold Format.word
  cases neg
  · simp [Nat.div_eq_of_lt h, Nat.mod_eq_of_lt h]
  · simp only [if_true]
    have h1 : (f.signWeight + r) / f.signWeight = 1 := by rw [Nat.add_div_left _ hp, Nat.div_eq_of_lt h]
    have h2 : (f.signWeight + r) % f.signWeight = r := by rw [Nat.add_mod_left, Nat.mod_eq_of_lt h]
    simp [h1, h2]

theorem read_word (f : Format) (neg : Bool) (t kept : Nat) (hk : kept ≤ 2 * f.binade) (ht : 0 < t → f.binade ≤ kept) (hr : t * f.binade + kept < f.infRung) :
    ∃ m e, f.read (f.word neg (t * f.binade + kept)) = .number neg m e ∧ (m:Rat) * p2 e = (kept:Rat) * p2 (f.leastPlace + t) := by
  have hb := bin_pos f
  have hi := inf_lt f
  obtain ⟨h1, h2⟩ := word_sign f neg (t * f.binade + kept) (by omega)
  unfold Format.read
  simp only [h1, h2]
  by_cases hlt : t * f.binade + kept < f.binade
  · rw [if_pos hlt]
    have ht0 : t = 0 := by
      rcases Nat.eq_zero_or_pos t with h | h
      · exact h
      · have := ht h; have : f.binade ≤ t * f.binade := Nat.le_mul_of_pos_left _ h; omega
    subst ht0
    exact ⟨_, _, rfl, by simp⟩
  · rw [if_neg hlt, if_pos hr]
    have hkb : f.binade ≤ kept := by
      rcases Nat.eq_zero_or_pos t with h | h
      · subst h; simpa using hlt
      · exact ht h
    by_cases hk2 : kept = 2 * f.binade
    · subst hk2
      have e1 : (t * f.binade + 2 * f.binade) / f.binade = t + 2 := by
        rw [← Nat.add_mul]; exact Nat.mul_div_cancel _ hb
      have e2 : (t * f.binade + 2 * f.binade) % f.binade = 0 := by
        rw [← Nat.add_mul]; exact Nat.mul_mod_left _ _
      rw [e1, e2]
      refine ⟨_, _, rfl, ?_⟩
      have e3 : f.leastPlace + ((t + 2 - 1 : Nat) : Int) = f.leastPlace + t + 1 := by omega
      rw [e3, p2_succ, Nat.add_zero, Rat.natCast_mul, Rat.natCast_ofNat]
      grind
    · have hlt2 : kept - f.binade < f.binade := by omega
      have e0 : t * f.binade + kept = (kept - f.binade) + f.binade * (t + 1) := by
        have : f.binade * (t+1) = t * f.binade + f.binade := by grind
        omega
      have e1 : (t * f.binade + kept) / f.binade = t + 1 := by
        rw [e0, Nat.add_mul_div_left _ _ hb, Nat.div_eq_of_lt hlt2]; omega
      have e2 : (t * f.binade + kept) % f.binade = kept - f.binade := by
        rw [e0, Nat.add_mul_mod_self_left, Nat.mod_eq_of_lt hlt2]
      rw [e1, e2]
      refine ⟨_, _, rfl, ?_⟩
      have e3 : f.leastPlace + ((t + 1 - 1 : Nat) : Int) = f.leastPlace + t := by omega
      have e4 : f.binade + (kept - f.binade) = kept := by omega
      rw [e3, e4]

def lastOf (f : Format) (mag : Nat) (place : Int) : Int := max (place + mag.log2 - f.fractionBits) f.leastPlace

theorem nearest_eq (f : Format) (neg : Bool) (mag : Nat) (place : Int) (hm : mag ≠ 0) :
    f.nearest neg mag place = f.word neg (min ((lastOf f mag place - f.leastPlace).toNat * f.binade + keptOf neg mag place (lastOf f mag place)) f.infRung) := by
  unfold Format.nearest lastOf keptOf
  rw [if_neg hm]

theorem mag_lo (mag : Nat) (place : Int) (hm : mag ≠ 0) : p2 (place + mag.log2) ≤ (mag:Rat) * p2 place := by
  have h : 2^mag.log2 ≤ mag := Nat.log2_self_le hm
  have h1 := natc_le h
  rw [← p2_nat] at h1
  have h2 := Rat.mul_le_mul_of_nonneg_right h1 (Rat.le_of_lt (p2_pos place))
  rw [Int.add_comm, p2_add]; exact h2
theorem mag_hi (mag : Nat) (place : Int) : (mag:Rat) * p2 place < p2 (place + mag.log2 + 1) := by
  have h : mag < 2^(mag.log2+1) := Nat.lt_log2_self
  have h1 := natc_lt h
  rw [← p2_nat] at h1
  have h2 := Rat.mul_lt_mul_of_pos_right h1 (p2_pos place)
  have e : place + (mag.log2:Int) + 1 = ((mag.log2+1 : Nat):Int) + place := by omega
  rw [e, p2_add]; exact h2

/-- what nearest keeps -/
theorem kept_bd (f : Format) (neg : Bool) (mag : Nat) (place : Int) (hm : mag ≠ 0) :
    keptOf neg mag place (lastOf f mag place) ≤ 2 * f.binade ∧ (f.leastPlace < lastOf f mag place → f.binade ≤ keptOf neg mag place (lastOf f mag place)) := by
  obtain ⟨h1, h2⟩ := kept_spec neg mag place (lastOf f mag place)
  generalize hk : keptOf neg mag place (lastOf f mag place) = k at *
  have hlo := mag_lo mag place hm
  have hhi := mag_hi mag place
  generalize (mag:Rat) * p2 place = v at *
  have hb : ((f.binade : Nat):Rat) = p2 f.fractionBits := by rw [p2_nat]; rfl
  have hL := p2_pos (lastOf f mag place)
  constructor
  · have hle : place + mag.log2 + 1 ≤ lastOf f mag place + f.fractionBits + 1 := by unfold lastOf; omega
    have h3 := p2_le hle
    have e : p2 (lastOf f mag place + f.fractionBits + 1) = 2 * ((f.binade:Nat):Rat) * p2 (lastOf f mag place) := by
      rw [p2_succ, p2_add, hb]; grind
    rw [e] at h3
    generalize p2 (lastOf f mag place) = L at *
    have h4 : 2 * (k:Rat) * L < (4 * ((f.binade:Nat):Rat) + 1) * L := by
      have a1 : (4 * ((f.binade:Nat):Rat) + 1) * L = 2 * (2 * ((f.binade:Nat):Rat) * L) + L := by grind
      rw [a1]; grind
    have h5 := Rat.lt_of_mul_lt_mul_right h4 (Rat.le_of_lt hL)
    have h6 : ((2 * k : Nat):Rat) < ((4 * f.binade + 1 : Nat):Rat) := by
      simp only [Rat.natCast_mul, Rat.natCast_add, Rat.natCast_ofNat]; simpa using h5
    have := Rat.natCast_lt_natCast.1 h6
    omega
  · intro hlt
    have hle : lastOf f mag place + f.fractionBits ≤ place + mag.log2 := by unfold lastOf at *; omega
    have h3 := p2_le hle
    rw [p2_add, ← hb] at h3
    generalize p2 (lastOf f mag place) = L at *
    have h4 : (2 * ((f.binade:Nat):Rat)) * L ≤ (2 * (k:Rat) + 1) * L := by grind
    have h5 := Rat.le_of_mul_le_mul_right h4 hL
    have h6 : ((2 * f.binade : Nat):Rat) ≤ ((2 * k + 1 : Nat):Rat) := by
      simp only [Rat.natCast_mul, Rat.natCast_add, Rat.natCast_ofNat]; simpa using h5
    have := Rat.natCast_le_natCast.1 h6
    omega
end

section
def top (f : Format) : Int := f.leastPlace + (2 ^ f.exponentBits : Nat) - 3
/-- a number that the format has, by its digits -/
def RepN (f : Format) (K : Nat) (l : Int) : Prop := K < 2 * f.binade ∧ f.leastPlace ≤ l ∧ l ≤ top f
def Rep (f : Format) (c : Rat) : Prop := ∃ (s : Bool) (K : Nat) (l : Int), c = sgn s * ((K:Rat) * p2 l) ∧ RepN f K l

structure Rnd (f : Format) (v : Rat) (x : Nat) : Prop where
  fin : fin f x = true
  le : ∀ c, Rep f c → v ≤ c → val f x ≤ c
  ge : ∀ c, Rep f c → c ≤ v → c ≤ val f x
  err : ∀ e, (∀ s, sgn s * v * p2 (-(f.fractionBits : Int)) ≤ e) → p2 f.leastPlace ≤ e → ∀ s, sgn s * (val f x - v) ≤ e

theorem binp (f : Format) : ((f.binade : Nat):Rat) = p2 f.fractionBits := by rw [p2_nat]; rfl

section
variable {f : Format} {neg : Bool} {mag : Nat} {place : Int}

theorem u_normal (hm : mag ≠ 0) (h : f.leastPlace < lastOf f mag place) : p2 (lastOf f mag place + f.fractionBits) ≤ (mag:Rat) * p2 place :=
  Rat.le_trans (p2_le (by unfold lastOf at *; omega)) (mag_lo mag place hm)

theorem split_at {K : Nat} {l last : Int} (h : last ≤ l) : (K:Rat) * p2 l = ((K * 2^(l-last).toNat : Nat):Rat) * p2 last := by
  have e : l = ((l - last).toNat : Int) + last := by omega
  have e2 : p2 l = p2 ((l - last).toNat : Int) * p2 last := by rw [← p2_add]; congr 1
  rw [e2, Rat.natCast_mul, p2_nat]; grind

theorem u_le (hm : mag ≠ 0) {K : Nat} {l : Int} (hK : K < 2 * f.binade) (hl : f.leastPlace ≤ l) (h : (mag:Rat) * p2 place ≤ (K:Rat) * p2 l) :
    lastOf f mag place ≤ l ∧ (keptOf neg mag place (lastOf f mag place) : Rat) * p2 (lastOf f mag place) ≤ (K:Rat) * p2 l := by
  obtain ⟨h1, h2⟩ := kept_spec neg mag place (lastOf f mag place)
  have hll : lastOf f mag place ≤ l := by
    refine Decidable.byContradiction fun hn => ?_
    have hn : l < lastOf f mag place := by omega
    have h3 := u_normal (f := f) (place := place) hm (by omega)
    have h4 : (K:Rat) * p2 l < p2 (lastOf f mag place + f.fractionBits) := by
      have h5 := Rat.mul_lt_mul_of_pos_right (natc_lt hK) (p2_pos l)
      have h6 : ((2 * f.binade : Nat) : Rat) * p2 l = p2 (l + f.fractionBits + 1) := by
        rw [p2_succ, p2_add, Rat.natCast_mul, binp]; simp; grind
      have h7 : p2 (l + f.fractionBits + 1) ≤ p2 (lastOf f mag place + f.fractionBits) := p2_le (by omega)
      rw [h6] at h5
      grind
    grind
  refine ⟨hll, ?_⟩
  generalize keptOf neg mag place (lastOf f mag place) = k at *
  rw [split_at hll] at h ⊢
  generalize K * 2 ^ (l - lastOf f mag place).toNat = N at *
  have hL := p2_pos (lastOf f mag place)
  generalize p2 (lastOf f mag place) = L at *
  have h3 : (2 * (k:Rat)) * L ≤ (2 * (N:Rat) + 1) * L := by
    have : (2 * (N:Rat) + 1) * L = 2 * ((N:Rat) * L) + L := by grind
    rw [this]; grind
  have h4 := Rat.le_of_mul_le_mul_right h3 hL
  have h5 : ((2 * k : Nat):Rat) ≤ ((2 * N + 1 : Nat):Rat) := by
    simp only [Rat.natCast_mul, Rat.natCast_add, Rat.natCast_ofNat]; simpa using h4
  have h6 := Rat.natCast_le_natCast.1 h5
  exact Rat.mul_le_mul_of_nonneg_right (natc_le (by omega)) (Rat.le_of_lt hL)

theorem u_ge (hm : mag ≠ 0) {K : Nat} {l : Int} (hK : K ≤ 2 * f.binade) (h : (K:Rat) * p2 l ≤ (mag:Rat) * p2 place) (hl : f.leastPlace ≤ l) :
    (K:Rat) * p2 l ≤ (keptOf neg mag place (lastOf f mag place) : Rat) * p2 (lastOf f mag place) := by
  obtain ⟨h1, h2⟩ := kept_spec neg mag place (lastOf f mag place)
  by_cases hll : lastOf f mag place ≤ l
  · generalize keptOf neg mag place (lastOf f mag place) = k at *
    rw [split_at hll] at h ⊢
    generalize K * 2 ^ (l - lastOf f mag place).toNat = N at *
    have hL := p2_pos (lastOf f mag place)
    generalize p2 (lastOf f mag place) = L at *
    have h3 : (2 * (N:Rat)) * L ≤ (2 * (k:Rat) + 1) * L := by
      have : (2 * (N:Rat)) * L = 2 * ((N:Rat) * L) := by grind
      rw [this]; grind
    have h4 := Rat.le_of_mul_le_mul_right h3 hL
    have h5 : ((2 * N : Nat):Rat) ≤ ((2 * k + 1 : Nat):Rat) := by
      simp only [Rat.natCast_mul, Rat.natCast_add, Rat.natCast_ofNat]; simpa using h4
    have h6 := Rat.natCast_le_natCast.1 h5
    exact Rat.mul_le_mul_of_nonneg_right (natc_le (by omega)) (Rat.le_of_lt hL)
  · have hk := (kept_bd f neg mag place hm).2 (by omega)
    have h5 := Rat.mul_le_mul_of_nonneg_right (natc_le hK) (Rat.le_of_lt (p2_pos l))
    have h6 : ((2 * f.binade : Nat) : Rat) * p2 l = p2 (l + f.fractionBits + 1) := by
      rw [p2_succ, p2_add, Rat.natCast_mul, binp]; simp; grind
    have h7 : p2 (l + f.fractionBits + 1) ≤ p2 (lastOf f mag place + f.fractionBits) := p2_le (by omega)
    have h8 := Rat.mul_le_mul_of_nonneg_right (natc_le hk) (Rat.le_of_lt (p2_pos (lastOf f mag place)))
    have h9 : ((f.binade : Nat) : Rat) * p2 (lastOf f mag place) = p2 (lastOf f mag place + f.fractionBits) := by
      rw [p2_add, binp]; grind
    rw [h6] at h5
    rw [h9] at h8
    grind

theorem nearest_read (hm : mag ≠ 0) {K : Nat} {l : Int} (hR : RepN f K l) (h : (mag:Rat) * p2 place ≤ (K:Rat) * p2 l) :
    ∃ m e, f.read (f.nearest neg mag place) = .number neg m e ∧ (m:Rat) * p2 e = (keptOf neg mag place (lastOf f mag place) : Rat) * p2 (lastOf f mag place) := by
  obtain ⟨hK, hl, ht⟩ := hR
  obtain ⟨hll, hle⟩ := u_le (neg := neg) hm hK hl h
  obtain ⟨hb1, hb2⟩ := kept_bd f neg mag place hm
  have hlp : f.leastPlace ≤ lastOf f mag place := by unfold lastOf; omega
  have hb := bin_pos f
  have hrung : (lastOf f mag place - f.leastPlace).toNat * f.binade + keptOf neg mag place (lastOf f mag place) < f.infRung := by
    unfold top at ht
    unfold Format.infRung
    have hE := Nat.two_pow_pos f.exponentBits
    generalize 2 ^ f.exponentBits = E at *
    by_cases hlt : (lastOf f mag place - f.leastPlace).toNat + 4 ≤ E
    · have h1 : ((lastOf f mag place - f.leastPlace).toNat + 3) * f.binade ≤ (E - 1) * f.binade := Nat.mul_le_mul_right _ (by omega)
      have h2 : ((lastOf f mag place - f.leastPlace).toNat + 3) * f.binade = (lastOf f mag place - f.leastPlace).toNat * f.binade + 3 * f.binade := by grind
      omega
    · have hlast : lastOf f mag place = l := by omega
      rw [hlast] at hle
      have hkK : keptOf neg mag place l ≤ K := Rat.natCast_le_natCast.1 (Rat.le_of_mul_le_mul_right hle (p2_pos l))
      have h1 : ((lastOf f mag place - f.leastPlace).toNat + 2) * f.binade ≤ (E - 1) * f.binade := Nat.mul_le_mul_right _ (by omega)
      have h2 : ((lastOf f mag place - f.leastPlace).toNat + 2) * f.binade = (lastOf f mag place - f.leastPlace).toNat * f.binade + 2 * f.binade := by grind
      rw [hlast] at h1 h2 ⊢
      omega
  rw [nearest_eq f neg mag place hm, Nat.min_eq_left (by omega)]
  obtain ⟨m, e, h1, h2⟩ := read_word f neg (lastOf f mag place - f.leastPlace).toNat (keptOf neg mag place (lastOf f mag place)) hb1 (fun h => hb2 (by omega)) hrung
  refine ⟨m, e, h1, ?_⟩
  rw [h2]
  have e : f.leastPlace + ((lastOf f mag place - f.leastPlace).toNat : Int) = lastOf f mag place := by omega
  rw [e]
end

theorem sgn_cases (s : Bool) : sgn s = 1 ∨ sgn s = -1 := by cases s <;> simp [sgn]
theorem kp_nn (K : Nat) (l : Int) : 0 ≤ (K:Rat) * p2 l := Rat.mul_nonneg (natc_nn K) (Rat.le_of_lt (p2_pos l))

/-- the same with half the error -/
structure Rnd' (f : Format) (v : Rat) (x : Nat) : Prop where
  fin : fin f x = true
  le : ∀ c, Rep f c → v ≤ c → val f x ≤ c
  ge : ∀ c, Rep f c → c ≤ v → c ≤ val f x
  err : ∀ e, (∀ s, sgn s * v * p2 (-(f.fractionBits + 1 : Int)) ≤ e) → p2 (f.leastPlace - 1) ≤ e → ∀ s, sgn s * (val f x - v) ≤ e

theorem Rnd'.rnd {f : Format} {v : Rat} {x : Nat} (h : Rnd' f v x) : Rnd f v x :=
  ⟨h.fin, h.le, h.ge, fun e he hp s => by
    have e1 : p2 f.leastPlace = 2 * p2 (f.leastPlace - 1) := by rw [← p2_succ]; congr 1; omega
    have e2 : p2 (-(f.fractionBits : Int)) = 2 * p2 (-(f.fractionBits + 1 : Int)) := by rw [← p2_succ]; congr 1; omega
    rw [e1] at hp
    rw [e2] at he
    have := p2_pos (f.leastPlace - 1)
    have h1 := h.err (e / 2) (fun s => by have := he s; grind) (by grind) s
    grind⟩

theorem nearest_rnd' {f : Format} (neg : Bool) (mag : Nat) (place : Int) (h : ∃ K l, RepN f K l ∧ (mag:Rat) * p2 place ≤ (K:Rat) * p2 l) :
    Rnd' f (sgn neg * ((mag:Rat) * p2 place)) (f.nearest neg mag place) ∧ ∃ m e, f.read (f.nearest neg mag place) = .number neg m e := by
  obtain ⟨K0, l0, hR, hC⟩ := h
  by_cases hm : mag = 0
  · subst hm
    have e : f.nearest neg 0 place = f.word neg (0 * f.binade + 0) := by simp [Format.nearest]
    obtain ⟨m, e', h1, h2⟩ := read_word f neg 0 0 (by omega) (by omega) (by
      unfold Format.infRung
      have := Nat.two_pow_pos f.exponentBits
      have : 2 ≤ 2 ^ f.exponentBits := by
        unfold RepN top at hR
        omega
      have hb := bin_pos f
      have := Nat.mul_pos (show 0 < 2 ^ f.exponentBits - 1 by omega) hb
      omega)
    have hv : val f (f.nearest neg 0 place) = 0 := by
      unfold val; rw [e, h1]; show sgn neg * ((m:Rat) * p2 e') = 0; rw [h2]; simp
    have hz : sgn neg * (((0:Nat):Rat) * p2 place) = 0 := by simp
    rw [hz]
    refine ⟨⟨by unfold fin; rw [e, h1]; rfl, fun c _ hc => by rw [hv]; exact hc, fun c _ hc => by rw [hv]; exact hc, fun e he hp s => ?_⟩, m, e', by rw [e, h1]⟩
    rw [hv]
    have := p2_pos (f.leastPlace - 1)
    have : sgn s * (0 - 0 : Rat) = 0 := by grind
    rw [this]; grind
  · obtain ⟨m, e, hr, hme⟩ := nearest_read (neg := neg) hm hR hC
    have hv : val f (f.nearest neg mag place) = sgn neg * ((keptOf neg mag place (lastOf f mag place) : Rat) * p2 (lastOf f mag place)) := by
      unfold val; rw [hr]; show sgn neg * ((m:Rat) * p2 e) = _; rw [hme]
    have hpos : 0 ≤ (mag:Rat) * p2 place := kp_nn _ _
    have hkp : 0 ≤ (keptOf neg mag place (lastOf f mag place) : Rat) * p2 (lastOf f mag place) := kp_nn _ _
    refine ⟨⟨by unfold fin; rw [hr]; rfl, ?_, ?_, ?_⟩, m, e, hr⟩
    · rintro c ⟨s, K, l, rfl, hK⟩ hc
      rw [hv]
      have hKp := kp_nn K l
      have hU := u_le (neg := neg) (f := f) (K := K) (l := l) (place := place) hm hK.1 hK.2.1
      have hG := u_ge (neg := neg) (f := f) (K := K) (l := l) (place := place) hm (Nat.le_of_lt hK.1)
      generalize (keptOf neg mag place (lastOf f mag place) : Rat) * p2 (lastOf f mag place) = r at *
      generalize (mag:Rat) * p2 place = u at *
      generalize (K:Rat) * p2 l = c at *
      rcases neg with _ | _ <;> rcases s with _ | _ <;> simp only [sgn, Bool.false_eq_true, if_true, if_false] at *
      · have := (hU (by grind)).2; grind
      · have h0 : u ≤ c := by grind
        have := (hU h0).2
        have hc0 : c = 0 := by grind
        have : u = 0 := by grind
        grind
      · grind
      · have := hG (by grind) hK.2.1; grind
    · rintro c ⟨s, K, l, rfl, hK⟩ hc
      rw [hv]
      have hKp := kp_nn K l
      have hU := u_le (neg := neg) (f := f) (K := K) (l := l) (place := place) hm hK.1 hK.2.1
      have hG := u_ge (neg := neg) (f := f) (K := K) (l := l) (place := place) hm (Nat.le_of_lt hK.1)
      generalize (keptOf neg mag place (lastOf f mag place) : Rat) * p2 (lastOf f mag place) = r at *
      generalize (mag:Rat) * p2 place = u at *
      generalize (K:Rat) * p2 l = c at *
      rcases neg with _ | _ <;> rcases s with _ | _ <;> simp only [sgn, Bool.false_eq_true, if_true, if_false] at *
      · have := hG (by grind) hK.2.1; grind
      · grind
      · have h0 : u ≤ c := by grind
        have := (hU h0).2
        have hc0 : c = 0 := by grind
        grind
      · have := (hU (by grind)).2; grind
    · intro e he hp s
      rw [hv]
      obtain ⟨h1, h2⟩ := kept_spec neg mag place (lastOf f mag place)
      have hlast : p2 (lastOf f mag place) ≤ 2 * e := by
        by_cases hn : f.leastPlace < lastOf f mag place
        · have h3 := u_normal (f := f) (place := place) hm hn
          have h4 := Rat.mul_le_mul_of_nonneg_right h3 (Rat.le_of_lt (p2_pos (-(f.fractionBits + 1 : Int))))
          have h5 : p2 (lastOf f mag place + f.fractionBits) * p2 (-(f.fractionBits + 1 : Int)) = p2 (lastOf f mag place - 1) := by
            rw [← p2_add]; congr 1; omega
          have h6 : p2 (lastOf f mag place) = 2 * p2 (lastOf f mag place - 1) := by
            rw [← p2_succ]; congr 1; omega
          have h7 := he neg
          have h8 : sgn neg * (sgn neg * ((mag:Rat) * p2 place)) = (mag:Rat) * p2 place := by
            rcases sgn_cases neg with h | h <;> rw [h] <;> grind
          rw [h8] at h7
          grind
        · have h6 : p2 f.leastPlace = 2 * p2 (f.leastPlace - 1) := by
            rw [← p2_succ]; congr 1; omega
          have h7 : lastOf f mag place = f.leastPlace := by unfold lastOf at *; omega
          rw [h7, h6]; grind
      generalize keptOf neg mag place (lastOf f mag place) = k at *
      generalize p2 (lastOf f mag place) = L at *
      generalize (mag:Rat) * p2 place = u at *
      have a1 : (2 * (k:Rat) + 1) * L = 2 * ((k:Rat) * L) + L := by grind
      have a2 : 2 * (k:Rat) * L = 2 * ((k:Rat) * L) := by grind
      rw [a1] at h1
      rw [a2] at h2
      generalize (k:Rat) * L = r at *
      rcases sgn_cases neg with h | h <;> rcases sgn_cases s with h' | h' <;> rw [h, h'] <;> grind
end

section
variable {f : Format}
def InR (f : Format) (v : Rat) : Prop := ∃ K l, RepN f K l ∧ v ≤ (K:Rat) * p2 l ∧ -v ≤ (K:Rat) * p2 l

theorem nearest_rnd (neg : Bool) (mag : Nat) (place : Int) (h : InR f (sgn neg * ((mag:Rat) * p2 place))) :
    Rnd f (sgn neg * ((mag:Rat) * p2 place)) (f.nearest neg mag place) := by
  obtain ⟨K, l, hR, h1, h2⟩ := h
  refine (nearest_rnd' neg mag place ⟨K, l, hR, ?_⟩).1.rnd
  rcases sgn_cases neg with h | h <;> rw [h] at h1 h2 <;> grind

theorem fin_num {x : Nat} (h : fin f x = true) : ∃ s m e, f.read x = .number s m e ∧ val f x = sgn s * ((m:Rat) * p2 e) := by
  unfold fin isNum at h
  unfold val dval
  cases hr : f.read x with
  | number s m e => exact ⟨s, m, e, rfl, rfl⟩
  | infinity s => rw [hr] at h; cases h
  | nan s t => rw [hr] at h; cases h

theorem signed_val (s : Bool) (m up : Nat) (base : Int) : ((signed s m up : Int) : Rat) * p2 base = sgn s * ((m:Rat) * p2 (base + up)) := by
  unfold signed
  rw [p2_add, p2_nat, Nat.shiftLeft_eq]
  cases s
  · simp only [Bool.false_eq_true, if_false, sgn, Rat.intCast_natCast, Rat.natCast_mul]; grind
  · simp only [if_true, sgn, Rat.intCast_neg, Rat.intCast_natCast, Rat.natCast_mul]; grind

theorem natAbs_val (n : Int) (b : Bool) (h : n ≠ 0 → b = decide (n < 0)) : sgn b * (n.natAbs : Rat) = (n : Rat) := by
  by_cases h0 : n = 0
  · subst h0; simp
  · rw [h h0]
    by_cases hn : n < 0
    · obtain ⟨k, hk⟩ := Int.eq_ofNat_of_zero_le (a := -n) (by omega)
      have e : n = -(k:Int) := by omega
      subst e
      simp only [hn, decide_true, sgn, if_true, Int.natAbs_neg, Int.natAbs_natCast, Rat.intCast_neg, Rat.intCast_natCast]
      grind
    · obtain ⟨k, hk⟩ := Int.eq_ofNat_of_zero_le (a := n) (by omega)
      subst hk
      have hd : decide ((k:Int) < 0) = false := by simp
      rw [hd]
      simp [sgn, Rat.intCast_natCast]

theorem sum_val {s t : Bool} {m n : Nat} {i j : Int} : ∃ neg mag base, Datum.sum (.number s m i) (.number t n j) = some (.number neg mag base) ∧
    sgn neg * ((mag:Rat) * p2 base) = sgn s * ((m:Rat) * p2 i) + sgn t * ((n:Rat) * p2 j) := by
  refine ⟨_, _, _, rfl, ?_⟩
  have h1 := signed_val s m (i - min i j).toNat (min i j)
  have h2 := signed_val t n (j - min i j).toNat (min i j)
  have e1 : min i j + ((i - min i j).toNat : Int) = i := by omega
  have e2 : min i j + ((j - min i j).toNat : Int) = j := by omega
  rw [e1] at h1
  rw [e2] at h2
  rw [← h1, ← h2]
  generalize signed s m (i - min i j).toNat = a
  generalize signed t n (j - min i j).toNat = b
  rw [← Rat.mul_assoc, natAbs_val _ _ (fun h => by simp [h])]
  simp only [Rat.intCast_add]; grind

/-- operations that never fail, as total functions -/
def fadd (f : Format) (x y : Nat) : Nat := (f.add x y).getD 0
def fsub (f : Format) (x y : Nat) : Nat := (f.sub x y).getD 0
def fmul (f : Format) (x y : Nat) : Nat := (f.mul x y).getD 0
def fdiv (f : Format) (x y : Nat) : Nat := (f.div x y).getD 0
def fsqrt (f : Format) (x : Nat) : Nat := (f.sqrt x).getD 0

theorem add_ok {x y : Nat} (hx : fin f x = true) (hy : fin f y = true) :
    f.add x y = some (fadd f x y) ∧ (InR f (val f x + val f y) → Rnd f (val f x + val f y) (fadd f x y)) := by
  obtain ⟨s, m, i, h1, v1⟩ := fin_num hx
  obtain ⟨t, n, j, h2, v2⟩ := fin_num hy
  obtain ⟨neg, mag, base, h3, v3⟩ := @sum_val s t m n i j
  rw [← v1, ← v2] at v3
  have e : f.add x y = some (f.nearest neg mag base) := by unfold Format.add; rw [h1, h2, h3]; rfl
  have e2 : fadd f x y = f.nearest neg mag base := by unfold fadd; rw [e]; rfl
  refine ⟨by rw [e, e2], fun h => ?_⟩
  rw [e2, ← v3]
  exact nearest_rnd _ _ _ (by rw [v3]; exact h)

theorem opp_num {s : Bool} {m : Nat} {e : Int} : Datum.opposite (.number s m e) = .number (!s) m e := rfl
theorem sgn_not (s : Bool) : sgn (!s) = - sgn s := by cases s <;> simp [sgn] <;> grind

theorem sub_ok {x y : Nat} (hx : fin f x = true) (hy : fin f y = true) :
    f.sub x y = some (fsub f x y) ∧ (InR f (val f x - val f y) → Rnd f (val f x - val f y) (fsub f x y)) := by
  obtain ⟨s, m, i, h1, v1⟩ := fin_num hx
  obtain ⟨t, n, j, h2, v2⟩ := fin_num hy
  obtain ⟨neg, mag, base, h3, v3⟩ := @sum_val s (!t) m n i j
  have v3 : sgn neg * ((mag:Rat) * p2 base) = val f x - val f y := by rw [v3, sgn_not, v1, v2]; grind
  have e : f.sub x y = some (f.nearest neg mag base) := by unfold Format.sub; rw [h1, h2, opp_num, h3]; rfl
  have e2 : fsub f x y = f.nearest neg mag base := by unfold fsub; rw [e]; rfl
  refine ⟨by rw [e, e2], fun h => ?_⟩
  rw [e2, ← v3]
  exact nearest_rnd _ _ _ (by rw [v3]; exact h)

theorem sgn_xor (s t : Bool) : sgn (s ^^ t) = sgn s * sgn t := by cases s <;> cases t <;> simp [sgn] <;> grind

theorem mul_ok {x y : Nat} (hx : fin f x = true) (hy : fin f y = true) :
    f.mul x y = some (fmul f x y) ∧ (InR f (val f x * val f y) → Rnd f (val f x * val f y) (fmul f x y)) := by
  obtain ⟨s, m, i, h1, v1⟩ := fin_num hx
  obtain ⟨t, n, j, h2, v2⟩ := fin_num hy
  have v3 : sgn (s ^^ t) * (((m * n : Nat):Rat) * p2 (i + j)) = val f x * val f y := by
    rw [v1, v2, sgn_xor, p2_add, Rat.natCast_mul]; grind
  have e : f.mul x y = some (f.nearest (s ^^ t) (m * n) (i + j)) := by unfold Format.mul; rw [h1, h2]; rfl
  have e2 : fmul f x y = f.nearest (s ^^ t) (m * n) (i + j) := by unfold fmul; rw [e]; rfl
  refine ⟨by rw [e, e2], fun h => ?_⟩
  rw [e2, ← v3]
  exact nearest_rnd _ _ _ (by rw [v3]; exact h)

/-! order -/
theorem order_val {x y : Nat} (hx : fin f x = true) (hy : fin f y = true) :
    f.order x y = some (if val f x < val f y then .lt else if val f x = val f y then .eq else .gt) := by
  obtain ⟨s, m, i, h1, v1⟩ := fin_num hx
  obtain ⟨t, n, j, h2, v2⟩ := fin_num hy
  unfold Format.order
  rw [h1, h2]
  show some (compare (signed s m (i - min i j).toNat) (signed t n (j - min i j).toNat)) = _
  have g1 := signed_val s m (i - min i j).toNat (min i j)
  have g2 := signed_val t n (j - min i j).toNat (min i j)
  have e1 : min i j + ((i - min i j).toNat : Int) = i := by omega
  have e2 : min i j + ((j - min i j).toNat : Int) = j := by omega
  rw [e1, ← v1] at g1
  rw [e2, ← v2] at g2
  rw [← g1, ← g2]
  generalize signed s m (i - min i j).toNat = a
  generalize signed t n (j - min i j).toNat = b
  have hp := p2_pos (min i j)
  have hlt : ((a:Rat) * p2 (min i j) < (b:Rat) * p2 (min i j)) ↔ a < b := by
    rw [Rat.mul_lt_mul_right hp]; exact Rat.intCast_lt_intCast
  have heq : ((a:Rat) * p2 (min i j) = (b:Rat) * p2 (min i j)) ↔ a = b := by
    constructor
    · intro h
      have h1 : ¬ (a < b) := by rw [← hlt, h]; exact Rat.lt_irrefl
      have h2 : ¬ (b < a) := by
        have : ((b:Rat) * p2 (min i j) < (a:Rat) * p2 (min i j)) ↔ b < a := by
          rw [Rat.mul_lt_mul_right hp]; exact Rat.intCast_lt_intCast
        rw [← this, h]; exact Rat.lt_irrefl
      omega
    · intro h; rw [h]
  by_cases h : a < b
  · rw [if_pos (hlt.2 h)]; simp [compare, compareOfLessAndEq, h]
  · rw [if_neg (fun g => h (hlt.1 g))]
    by_cases h' : a = b
    · rw [if_pos (heq.2 h')]; simp [compare, compareOfLessAndEq, h']
    · rw [if_neg (fun g => h' (heq.1 g))]; simp [compare, compareOfLessAndEq, h, h']

/-! division -/
theorem div_zero_free {y : Nat} (hy : fin f y = true) (h : val f y ≠ 0) : ∃ t n j, f.read y = .number t n j ∧ val f y = sgn t * ((n:Rat) * p2 j) ∧ n ≠ 0 := by
  obtain ⟨t, n, j, h2, v2⟩ := fin_num hy
  refine ⟨t, n, j, h2, v2, fun h0 => h ?_⟩
  subst h0; rw [v2]; simp

theorem div_ok {x y : Nat} (hx : fin f x = true) (hy : fin f y = true) (h0 : val f y ≠ 0) :
    f.div x y = some (fdiv f x y) ∧ (InR f (val f x / val f y) → Rnd f (val f x / val f y) (fdiv f x y)) := by
  obtain ⟨s, m, i, h1, v1⟩ := fin_num hx
  obtain ⟨t, n, j, h2, v2, hn⟩ := div_zero_free hy h0
  have e : f.div x y = some (f.nearest (s ^^ t) (2 * (m <<< (f.fractionBits + 2 + n.log2 - m.log2) / n) + (m <<< (f.fractionBits + 2 + n.log2 - m.log2) % n != 0).toNat)
      (i - j - (f.fractionBits + 2 + n.log2 - m.log2 : Nat) - 1)) := by
    unfold Format.div; rw [h1, h2]; simp only [Datum.quotient, if_neg hn]; rfl
  generalize hmore : f.fractionBits + 2 + n.log2 - m.log2 = more at e
  rw [Nat.shiftLeft_eq] at e
  generalize hdv : m * 2^more = D at e
  generalize hr : f.nearest (s ^^ t) (2 * (D / n) + (D % n != 0).toNat) (i - j - (more:Nat) - 1) = r at e
  have e2 : fdiv f x y = r := by unfold fdiv; rw [e]; rfl
  refine ⟨by rw [e, e2], fun hin => ?_⟩
  rw [e2]
  -- the true quotient
  have hn0 : (0:Rat) < n := Rat.natCast_pos.2 (by omega)
  have hD : (D:Rat) = (m:Rat) * p2 (more:Int) := by rw [← hdv, p2_nat, Rat.natCast_mul]
  have hq : val f x / val f y = sgn (s ^^ t) * ((D:Rat) / (n:Rat) * p2 (i - j - (more:Int))) := by
    rw [v1, v2, sgn_xor, hD]
    have ej : p2 i = p2 (i - j - (more:Int)) * p2 (more:Int) * p2 j := by rw [← p2_add, ← p2_add]; congr 1; omega
    rw [ej]
    have hpj := p2_pos j
    have hne : ((n:Rat) * p2 j) ≠ 0 := by
      have := Rat.mul_pos hn0 hpj; grind
    rcases sgn_cases s with h | h <;> rcases sgn_cases t with h' | h' <;> rw [h, h'] <;> grind
  have hdm := Nat.div_add_mod D n
  have hml := Nat.mod_lt D (show 0 < n by omega)
  generalize ha : D / n = a at *
  generalize hb : D % n = b at *
  have hDab : (D:Rat) / (n:Rat) = (a:Rat) + (b:Rat) / (n:Rat) := by
    rw [← hdm, Rat.natCast_add, Rat.natCast_mul]; grind
  have hfrac0 : 0 ≤ (b:Rat) / (n:Rat) := by
    have := natc_nn b
    rw [Rat.div_def]; exact Rat.mul_nonneg this (Rat.le_of_lt (Rat.inv_pos.2 hn0))
  have hfrac1 : (b:Rat) / (n:Rat) < 1 := by
    rw [Rat.div_lt_iff hn0]; have := natc_lt hml; grind
  have hU := p2_pos (i - j - (more:Int))
  have hplace : p2 (i - j - (more:Int)) = 2 * p2 (i - j - (more:Int) - 1) := by rw [← p2_succ]; congr 1; omega
  -- the mantissa written
  have hst : ((2 * a + (b != 0).toNat : Nat):Rat) * p2 (i - j - (more:Int) - 1) = ((a:Rat) + (if b = 0 then 0 else 1/2)) * p2 (i - j - (more:Int)) := by
    rw [hplace, Rat.natCast_add, Rat.natCast_mul]
    by_cases hb0 : b = 0
    · simp [hb0]; grind
    · have e3 : (b != 0) = true := by simp [hb0]
      rw [e3, if_neg hb0]; simp; grind
  -- a is long
  have hlong : m ≠ 0 → 2 * f.binade ≤ a := by
    intro hm
    have g1 : 2 ^ (f.fractionBits + 2 + n.log2) ≤ D := by
      rw [← hdv]
      have g2 : 2 ^ m.log2 ≤ m := Nat.log2_self_le hm
      calc 2 ^ (f.fractionBits + 2 + n.log2) ≤ 2 ^ (m.log2 + more) := Nat.pow_le_pow_right (by omega) (by omega)
        _ = 2 ^ m.log2 * 2 ^ more := by rw [Nat.pow_add]
        _ ≤ m * 2 ^ more := Nat.mul_le_mul_right _ g2
    rw [← ha]
    rw [Nat.le_div_iff_mul_le (by omega)]
    have g3 : n < 2 ^ (n.log2 + 1) := Nat.lt_log2_self
    refine Nat.le_trans (Nat.mul_le_mul_left _ (Nat.le_of_lt g3)) ?_
    refine Nat.le_trans ?_ g1
    unfold Format.binade
    have : 2 * 2 ^ f.fractionBits * 2 ^ (n.log2 + 1) = 2 ^ (f.fractionBits + 2 + n.log2) := by
      rw [← Nat.pow_succ', ← Nat.pow_add]; congr 1; omega
    omega
  by_cases hm : m = 0
  · have hD0 : D = 0 := by rw [← hdv, hm]; simp
    have ha0 : a = 0 := by rw [← ha, hD0]; simp
    have hb0 : b = 0 := by rw [← hb, hD0]; simp
    have hq0 : val f x / val f y = sgn (s ^^ t) * (((2 * a + (b != 0).toNat : Nat):Rat) * p2 (i - j - (more:Int) - 1)) := by
      rw [hq, hst, hDab, ha0, hb0]; simp; grind
    rw [hq0, ← hr]
    exact nearest_rnd _ _ _ (by rw [← hq0]; exact hin)
  · have hA := hlong hm
    -- comparisons with what the format has
    have hcmp : ∀ K : Nat, ∀ l : Int, K < 2 * f.binade → (((D:Rat) / (n:Rat) * p2 (i - j - (more:Int)) ≤ (K:Rat) * p2 l) ↔ (((2 * a + (b != 0).toNat : Nat):Rat) * p2 (i - j - (more:Int) - 1) ≤ (K:Rat) * p2 l)) ∧
        (((K:Rat) * p2 l ≤ (D:Rat) / (n:Rat) * p2 (i - j - (more:Int))) ↔ ((K:Rat) * p2 l ≤ ((2 * a + (b != 0).toNat : Nat):Rat) * p2 (i - j - (more:Int) - 1))) := by
      intro K l hK
      rw [hst, hDab]
      by_cases hl : i - j - (more:Int) ≤ l
      · rw [split_at hl]
        generalize K * 2 ^ (l - (i - j - (more:Int))).toNat = N
        generalize p2 (i - j - (more:Int)) = U at *
        have aN : (a:Rat) < N → (a:Rat) + 1 ≤ N := by
          intro h
          have := Rat.natCast_lt_natCast.1 h
          have h2 := natc_le (show a + 1 ≤ N by omega)
          simpa using h2
        have aN' : (N:Rat) ≤ a ∨ (a:Rat) + 1 ≤ N := by
          by_cases h : (N:Rat) ≤ a
          · exact .inl h
          · exact .inr (aN (by grind))
        by_cases hb0 : b = 0
        · have z : ((0:Nat):Rat) / (n:Rat) = 0 := by simp [Rat.div_def]
          subst hb0; rw [z, if_pos rfl]; exact ⟨Iff.rfl, Iff.rfl⟩
        · have hbp : (0:Rat) < (b:Rat) / (n:Rat) := by
            have hb1 : (0:Rat) < b := Rat.natCast_pos.2 (by omega)
            rw [Rat.div_def]; exact Rat.mul_pos hb1 (Rat.inv_pos.2 hn0)
          simp only [hb0, if_false]
          rcases aN' with h | h
          · have p1 : (N:Rat) * U < ((a:Rat) + (b:Rat) / (n:Rat)) * U := Rat.mul_lt_mul_of_pos_right (by grind) hU
            have p2' : (N:Rat) * U < ((a:Rat) + 1 / 2) * U := Rat.mul_lt_mul_of_pos_right (by grind) hU
            grind
          · have p1 : ((a:Rat) + (b:Rat) / (n:Rat)) * U < (N:Rat) * U := Rat.mul_lt_mul_of_pos_right (by grind) hU
            have p2' : ((a:Rat) + 1 / 2) * U < (N:Rat) * U := Rat.mul_lt_mul_of_pos_right (by grind) hU
            grind
      · have g1 : (K:Rat) * p2 l < (a:Rat) * p2 (i - j - (more:Int)) := by
          have g2 : (K:Rat) * p2 l ≤ (K:Rat) * p2 (i - j - (more:Int)) := Rat.mul_le_mul_of_nonneg_left (p2_le (by omega)) (natc_nn K)
          have g3 : (K:Rat) * p2 (i - j - (more:Int)) < (a:Rat) * p2 (i - j - (more:Int)) := Rat.mul_lt_mul_of_pos_right (natc_lt (by omega)) hU
          grind
        have g4 : (a:Rat) * p2 (i - j - (more:Int)) ≤ ((a:Rat) + (b:Rat) / (n:Rat)) * p2 (i - j - (more:Int)) := Rat.mul_le_mul_of_nonneg_right (by grind) (Rat.le_of_lt hU)
        have g5 : (a:Rat) * p2 (i - j - (more:Int)) ≤ ((a:Rat) + (if b = 0 then 0 else 1/2)) * p2 (i - j - (more:Int)) := Rat.mul_le_mul_of_nonneg_right (by split <;> grind) (Rat.le_of_lt hU)
        grind
    have hin' : InR f (sgn (s ^^ t) * (((2 * a + (b != 0).toNat : Nat):Rat) * p2 (i - j - (more:Int) - 1))) := by
      obtain ⟨K, l, hK, hk1, hk2⟩ := hin
      rw [hq] at hk1 hk2
      have hc := hcmp K l hK.1
      have n1 := kp_nn (2 * a + (b != 0).toNat) (i - j - (more:Int) - 1)
      have n2 := kp_nn K l
      refine ⟨K, l, hK, ?_, ?_⟩ <;> rcases sgn_cases (s ^^ t) with h | h <;> rw [h] at hk1 hk2 ⊢ <;> grind
    have hR := (nearest_rnd' (s ^^ t) (2 * a + (b != 0).toNat) (i - j - (more:Int) - 1) (by
      obtain ⟨K, l, hK, hk1, hk2⟩ := hin'
      refine ⟨K, l, hK, ?_⟩
      rcases sgn_cases (s ^^ t) with h | h <;> rw [h] at hk1 hk2 <;> grind)).1
    rw [hr] at hR
    refine ⟨hR.fin, ?_, ?_, ?_⟩
    · intro c hc hle
      refine hR.le c hc ?_
      obtain ⟨s', K, l, rfl, hK⟩ := hc
      have hcm := hcmp K l hK.1
      rw [hq] at hle
      have n1 := kp_nn (2 * a + (b != 0).toNat) (i - j - (more:Int) - 1)
      have n2 := kp_nn K l
      have n3 : 0 ≤ (D:Rat) / (n:Rat) * p2 (i - j - (more:Int)) := by
        rw [hDab]; exact Rat.mul_nonneg (by have := natc_nn a; grind) (Rat.le_of_lt hU)
      have hz : (D:Rat) / (n:Rat) * p2 (i - j - (more:Int)) ≤ 0 → False := by
        intro hz
        have g := natc_le hA
        have g' : (0:Rat) < ((2 * f.binade : Nat):Rat) := Rat.natCast_pos.2 (by have := bin_pos f; omega)
        have : 0 < (D:Rat) / (n:Rat) * p2 (i - j - (more:Int)) := Rat.mul_pos (by rw [hDab]; grind) hU
        grind
      rcases sgn_cases (s ^^ t) with h | h <;> rcases sgn_cases s' with h' | h' <;> rw [h, h'] at hle ⊢ <;> grind
    · intro c hc hle
      refine hR.ge c hc ?_
      obtain ⟨s', K, l, rfl, hK⟩ := hc
      have hcm := hcmp K l hK.1
      rw [hq] at hle
      have n1 := kp_nn (2 * a + (b != 0).toNat) (i - j - (more:Int) - 1)
      have n2 := kp_nn K l
      have n3 : 0 ≤ (D:Rat) / (n:Rat) * p2 (i - j - (more:Int)) := by
        rw [hDab]; exact Rat.mul_nonneg (by have := natc_nn a; grind) (Rat.le_of_lt hU)
      have hz : (D:Rat) / (n:Rat) * p2 (i - j - (more:Int)) ≤ 0 → False := by
        intro hz
        have g := natc_le hA
        have g' : (0:Rat) < ((2 * f.binade : Nat):Rat) := Rat.natCast_pos.2 (by have := bin_pos f; omega)
        have : 0 < (D:Rat) / (n:Rat) * p2 (i - j - (more:Int)) := Rat.mul_pos (by rw [hDab]; grind) hU
        grind
      rcases sgn_cases (s ^^ t) with h | h <;> rcases sgn_cases s' with h' | h' <;> rw [h, h'] at hle ⊢ <;> grind
    · intro e he hp s'
      have hq1 := he (s ^^ t)
      rw [hq] at hq1 ⊢
      have hss : sgn (s ^^ t) * sgn (s ^^ t) = 1 := by rcases sgn_cases (s ^^ t) with h | h <;> rw [h] <;> grind
      have hV0 := kp_nn (2 * a + (b != 0).toNat) (i - j - (more:Int) - 1)
      generalize hQ : (D:Rat) / (n:Rat) * p2 (i - j - (more:Int)) = Q at *
      generalize hV : ((2 * a + (b != 0).toNat : Nat):Rat) * p2 (i - j - (more:Int) - 1) = V at *
      have hbin : ((f.binade:Nat):Rat) * p2 (-(f.fractionBits:Int)) = 1 := by rw [binp]; exact p2_neg _
      have hd1 : p2 (-(f.fractionBits : Int)) = 2 * p2 (-(f.fractionBits + 1 : Int)) := by rw [← p2_succ]; congr 1; omega
      have hd2 : p2 f.leastPlace = 2 * p2 (f.leastPlace - 1) := by rw [← p2_succ]; congr 1; omega
      have hd3 : p2 (-(f.fractionBits : Int)) ≤ 1 := by rw [← p2_zero]; exact p2_le (by omega)
      have hdp := p2_pos (-(f.fractionBits : Int))
      have hlp := p2_pos (f.leastPlace - 1)
      generalize p2 (i - j - (more:Int)) = U at *
      have hQU : (a:Rat) * U ≤ Q ∧ Q - a * U ≤ U := by
        rw [← hQ, hDab]
        have g1 : (a:Rat) * U ≤ ((a:Rat) + (b:Rat) / (n:Rat)) * U := Rat.mul_le_mul_of_nonneg_right (by grind) (Rat.le_of_lt hU)
        have g2 : (b:Rat) / (n:Rat) * U ≤ 1 * U := Rat.mul_le_mul_of_nonneg_right (Rat.le_of_lt hfrac1) (Rat.le_of_lt hU)
        constructor
        · exact g1
        · have : ((a:Rat) + (b:Rat) / (n:Rat)) * U - a * U = (b:Rat) / (n:Rat) * U := by grind
          rw [this]; grind
      have hVQ : V - Q ≤ U / 2 ∧ Q - V ≤ U / 2 := by
        rw [hst]
        by_cases hb0 : b = 0
        · have z : ((0:Nat):Rat) / (n:Rat) = 0 := by simp [Rat.div_def]
          have e5 : Q = (a:Rat) * U := by rw [← hQ, hDab, hb0, z]; grind
          rw [if_pos hb0, e5]; grind
        · rw [if_neg hb0]
          have : ((a:Rat) + 1/2) * U = a * U + U / 2 := by grind
          rw [this]; grind
      have hU2 : 2 * U ≤ Q * p2 (-(f.fractionBits : Int)) := by
        have g1 : ((2 * f.binade : Nat):Rat) * U ≤ (a:Rat) * U := Rat.mul_le_mul_of_nonneg_right (natc_le hA) (Rat.le_of_lt hU)
        have g2 : ((2 * f.binade : Nat):Rat) * U ≤ Q := by grind
        have g3 := Rat.mul_le_mul_of_nonneg_right g2 (Rat.le_of_lt hdp)
        have g4 : ((2 * f.binade : Nat):Rat) * U * p2 (-(f.fractionBits : Int)) = 2 * U := by
          rw [Rat.natCast_mul]; simp; grind
        rw [g4] at g3; exact g3
      have hQe : Q * p2 (-(f.fractionBits : Int)) ≤ e := by
        have : sgn (s ^^ t) * (sgn (s ^^ t) * Q) = Q := by grind
        rw [this] at hq1; exact hq1
      have hVe : V * p2 (-(f.fractionBits + 1 : Int)) ≤ 3 * e / 4 := by
        have g1 : V * p2 (-(f.fractionBits : Int)) ≤ (Q + U / 2) * p2 (-(f.fractionBits : Int)) := Rat.mul_le_mul_of_nonneg_right (by grind) (Rat.le_of_lt hdp)
        have g2 : (U / 2) * p2 (-(f.fractionBits : Int)) ≤ (U / 2) * 1 := Rat.mul_le_mul_of_nonneg_left hd3 (by grind)
        have g3 : (Q + U / 2) * p2 (-(f.fractionBits : Int)) = Q * p2 (-(f.fractionBits : Int)) + (U / 2) * p2 (-(f.fractionBits : Int)) := by grind
        have g4 : V * p2 (-(f.fractionBits + 1 : Int)) = V * p2 (-(f.fractionBits : Int)) / 2 := by rw [hd1]; grind
        rw [g4]; grind
      have hE := hR.err (3 * e / 4) (fun s'' => by
        have g : sgn s'' * (sgn (s ^^ t) * V) * p2 (-(f.fractionBits + 1 : Int)) ≤ V * p2 (-(f.fractionBits + 1 : Int)) := by
          refine Rat.mul_le_mul_of_nonneg_right ?_ (Rat.le_of_lt (p2_pos _))
          rcases sgn_cases s'' with h | h <;> rcases sgn_cases (s ^^ t) with h' | h' <;> rw [h, h'] <;> grind
        grind) (by grind) s'
      have g5 : sgn s' * (sgn (s ^^ t) * V - sgn (s ^^ t) * Q) ≤ U / 2 := by
        rcases sgn_cases s' with h | h <;> rcases sgn_cases (s ^^ t) with h' | h' <;> rw [h, h'] <;> grind
      have g6 : sgn s' * (val f r - sgn (s ^^ t) * Q) = sgn s' * (val f r - sgn (s ^^ t) * V) + sgn s' * (sgn (s ^^ t) * V - sgn (s ^^ t) * Q) := by grind
      rw [g6]; grind
end

section
variable {f : Format}
abbrev S : Format := Ieee.single
abbrev D : Format := Ieee.double

theorem Rnd.exact {v : Rat} {x : Nat} (h : Rnd f v x) (hv : Rep f v) : val f x = v :=
  Rat.le_antisymm (h.le v hv Rat.le_refl) (h.ge v hv Rat.le_refl)

theorem rep_val (he : 2 ≤ f.exponentBits) {x : Nat} (hx : fin f x = true) : Rep f (val f x) := by
  unfold fin at hx
  unfold val
  unfold Format.read at *
  simp only at *
  have hb := bin_pos f
  have h4 : 2 ^ 2 ≤ 2 ^ f.exponentBits := Nat.pow_le_pow_right (by omega) he
  by_cases h1 : x % f.signWeight < f.binade
  · rw [if_pos h1]
    refine ⟨_, _, _, rfl, by omega, Int.le_refl _, ?_⟩
    unfold top
    omega
  · rw [if_neg h1] at hx ⊢
    by_cases h2 : x % f.signWeight < f.infRung
    · rw [if_pos h2]
      refine ⟨_, _, _, rfl, ?_, ?_, ?_⟩
      · have := Nat.mod_lt (x % f.signWeight) hb; omega
      · omega
      · unfold top
        have h3 : x % f.signWeight / f.binade < 2 ^ f.exponentBits - 1 := by
          rw [Nat.div_lt_iff_lt_mul hb]; exact h2
        have h4 : 0 < x % f.signWeight / f.binade := Nat.div_pos (by omega) hb
        omega
    · rw [if_neg h2] at hx
      split at hx <;> cases hx

theorem Rep.inR {c : Rat} (h : Rep f c) : InR f c := by
  obtain ⟨s, K, l, rfl, hK⟩ := h
  refine ⟨K, l, hK, ?_, ?_⟩ <;> rcases sgn_cases s with h | h <;> rw [h] <;> have := kp_nn K l <;> grind
theorem InR.of_le {c v : Rat} (h : Rep f c) (h1 : v ≤ c) (h2 : -v ≤ c) : InR f v := by
  obtain ⟨K, l, hK, a1, a2⟩ := h.inR
  exact ⟨K, l, hK, by grind, by grind⟩
theorem Rep.neg {c : Rat} (h : Rep f c) : Rep f (-c) := by
  obtain ⟨s, K, l, rfl, hK⟩ := h
  exact ⟨!s, K, l, by rw [sgn_not]; grind, hK⟩
theorem fin_inR (he : 2 ≤ f.exponentBits) {x : Nat} (hx : fin f x = true) : InR f (val f x) := (rep_val he hx).inR

/-- a literal that the format has -/
theorem rep_lit (s : Bool) (K : Nat) (l : Int) (h : RepN f K l) : Rep f (sgn s * ((K:Rat) * p2 l)) := ⟨s, K, l, rfl, h⟩

/-! writing a number anew -/
theorem write_rnd {d : Datum} (hd : isNum d = true) (h : InR f (dval d)) : Rnd f (dval d) (f.write d) := by
  cases d with
  | number s m e => exact nearest_rnd s m e h
  | infinity s => cases hd
  | nan s t => cases hd

/-- float32 to float64 -/
def cvt (x : Nat) : Nat := D.write (S.read x)
/-- float64 to float32 -/
def nar (x : Nat) : Nat := S.write (D.read x)

theorem rep_SD {c : Rat} (h : Rep S c) : Rep D c := by
  obtain ⟨s, K, l, rfl, h1, h2, h3⟩ := h
  refine ⟨s, K, l, rfl, ?_, ?_, ?_⟩
  · have : S.binade ≤ D.binade := by decide
    omega
  · have : D.leastPlace ≤ S.leastPlace := by decide
    omega
  · have : top S ≤ top D := by decide
    omega

theorem cvt_ok {x : Nat} (hx : fin S x = true) : fin D (cvt x) = true ∧ val D (cvt x) = val S x := by
  have hr := rep_SD (rep_val (by decide) hx)
  have h := write_rnd (f := D) (d := S.read x) hx hr.inR
  exact ⟨h.fin, h.exact hr⟩

theorem nar_ok {x : Nat} (hx : fin D x = true) (h : InR S (val D x)) : Rnd S (val D x) (nar x) :=
  write_rnd (f := S) (d := D.read x) hx h

theorem fin_not_inf {x : Nat} (h : fin f x = true) : (f.read x).isInfinity = false := by
  obtain ⟨s, m, e, h1, _⟩ := fin_num h
  rw [h1]; rfl

/-! square root -/
theorem rootFrom_spec (n : Nat) : ∀ (todo root : Nat), root * root ≤ n → n < (root + 2^todo) * (root + 2^todo) →
    Datum.rootFrom n todo root * Datum.rootFrom n todo root ≤ n ∧ n < (Datum.rootFrom n todo root + 1) * (Datum.rootFrom n todo root + 1) := by
  intro todo
  induction todo with
  | zero => intro root h1 h2; simpa [Datum.rootFrom] using ⟨h1, h2⟩
  | succ t ih =>
    intro root h1 h2
    unfold Datum.rootFrom
    simp only
    have e : root + 1 <<< t = root + 2^t := by rw [Nat.one_shiftLeft]
    rw [e]
    have e2 : 2^(t+1) = 2^t + 2^t := by rw [Nat.pow_succ]; omega
    split
    · rename_i h
      refine ih _ h ?_
      rw [e2] at h2
      have : root + 2^t + 2^t = root + (2^t + 2^t) := by omega
      rw [this]; exact h2
    · rename_i h
      exact ih _ h1 (by omega)

theorem root_spec (n : Nat) : Datum.rootFrom n (n.log2 / 2 + 1) 0 * Datum.rootFrom n (n.log2 / 2 + 1) 0 ≤ n ∧
    n < (Datum.rootFrom n (n.log2 / 2 + 1) 0 + 1) * (Datum.rootFrom n (n.log2 / 2 + 1) 0 + 1) := by
  refine rootFrom_spec n _ 0 (by omega) ?_
  simp only [Nat.zero_add]
  rw [← Nat.pow_add]
  have h1 : n < 2^(n.log2+1) := Nat.lt_log2_self
  exact Nat.lt_of_lt_of_le h1 (Nat.pow_le_pow_right (by omega) (by omega))

/-- a root: compared with what the format has; and how near -/
structure Root (f : Format) (v : Rat) (x : Nat) : Prop where
  fin : fin f x = true
  nn : 0 ≤ val f x
  le : ∀ c, Rep f c → 0 ≤ c → v ≤ c * c → val f x ≤ c
  ge : ∀ c, Rep f c → c * c ≤ v → c ≤ val f x
  near : ∃ a u, 0 ≤ a ∧ 0 ≤ u ∧ a * a ≤ v ∧ v ≤ (a + u) * (a + u) ∧ 4 * (f.binade : Rat) * u ≤ a ∧ ∃ v', a ≤ v' ∧ v' ≤ a + u ∧ Rnd f v' x

theorem sqrt_ok (he : 2 ≤ f.exponentBits) (hfb : (f.fractionBits : Int) ≤ top f) {x : Nat} (hx : fin f x = true) (h0 : 0 ≤ val f x) :
    f.sqrt x = some (fsqrt f x) ∧ Root f (val f x) (fsqrt f x) := by
  obtain ⟨s, m, i, h1, v1⟩ := fin_num hx
  by_cases hm : m = 0
  · subst hm
    have e : f.sqrt x = some (f.nearest s 0 i) := by unfold Format.sqrt; rw [h1]; simp only [Datum.root, if_true]; rfl
    have e2 : fsqrt f x = f.nearest s 0 i := by unfold fsqrt; rw [e]; rfl
    have hv : val f x = 0 := by rw [v1]; simp
    have hz : sgn s * (((0:Nat):Rat) * p2 i) = 0 := by simp
    have hR : Rnd f 0 (f.nearest s 0 i) := by
      rw [← hz]
      refine nearest_rnd s 0 i ?_
      rw [hz, ← hv]; exact fin_inR he hx
    have hv0 : val f (f.nearest s 0 i) = 0 := by
      refine hR.exact ?_
      rw [← hv]; exact rep_val he hx
    refine ⟨by rw [e, e2], ?_⟩
    rw [e2, hv]
    refine ⟨hR.fin, by rw [hv0]; exact Rat.le_refl, fun c _ hc _ => by rw [hv0]; exact hc, fun c _ hc => ?_, 0, 0, Rat.le_refl, Rat.le_refl, by grind, by grind, by grind, 0, Rat.le_refl, by grind, hR⟩
    rw [hv0]
    refine Rat.not_lt.1 fun hlt => ?_
    have := Rat.mul_pos hlt hlt
    grind
  · have hs : s = false := by
      cases s with
      | false => rfl
      | true =>
        exfalso
        rw [v1] at h0
        have h2 := mag_lo m i hm
        have h3 := p2_pos (i + m.log2)
        simp only [sgn, if_true] at h0
        grind
    subst hs
    have v1 : val f x = (m:Rat) * p2 i := by rw [v1]; simp [sgn]
    generalize hmore0 : 2 * (f.fractionBits + 2) - m.log2 = more0
    generalize hmore : more0 + ((i - more0) % 2).toNat = more
    generalize hN : m <<< more = n
    generalize hW : Datum.rootFrom n (n.log2 / 2 + 1) 0 = wh
    have e : f.sqrt x = some (f.nearest false (2 * wh + (wh * wh != n).toNat) ((i - more) / 2 - 1)) := by
      unfold Format.sqrt; rw [h1]; simp only [Datum.root, if_neg hm, Bool.false_eq_true, if_false, hmore0, hmore, hN, hW]; rfl
    generalize hr : f.nearest false (2 * wh + (wh * wh != n).toNat) ((i - more) / 2 - 1) = r at e
    have e2 : fsqrt f x = r := by unfold fsqrt; rw [e]; rfl
    refine ⟨by rw [e, e2], ?_⟩
    rw [e2]
    have heven : (i - (more:Int)) = 2 * ((i - (more:Int)) / 2) := by omega
    generalize hk : (i - (more:Int)) / 2 = k at *
    obtain ⟨q1, q2⟩ := root_spec n
    rw [hW] at q1 q2
    have hU := p2_pos k
    have hval : val f x = (n:Rat) * (p2 k * p2 k) := by
      rw [v1, ← hN, Nat.shiftLeft_eq, Rat.natCast_mul, ← p2_nat, ← p2_add]
      have : p2 i = p2 (more:Int) * p2 (k + k) := by rw [← p2_add]; congr 1; omega
      rw [this]; grind
    have hst : ((2 * wh + (wh * wh != n).toNat : Nat):Rat) * p2 (k - 1) = ((wh:Rat) + (if wh * wh = n then 0 else 1/2)) * p2 k := by
      have hplace : p2 k = 2 * p2 (k - 1) := by rw [← p2_succ]; congr 1; omega
      rw [hplace, Rat.natCast_add, Rat.natCast_mul]
      by_cases hb0 : wh * wh = n
      · have e3 : (wh * wh != n) = false := by simp [hb0]
        rw [e3, if_pos hb0]; simp; grind
      · have e3 : (wh * wh != n) = true := by simp [hb0]
        rw [e3, if_neg hb0]; simp; grind
    have hA : 4 * f.binade ≤ wh := by
      have g1 : 2 ^ (2 * (f.fractionBits + 2)) ≤ n := by
        rw [← hN, Nat.shiftLeft_eq]
        have g2 : 2 ^ m.log2 ≤ m := Nat.log2_self_le hm
        calc 2 ^ (2 * (f.fractionBits + 2)) ≤ 2 ^ (m.log2 + more) := Nat.pow_le_pow_right (by omega) (by omega)
          _ = 2 ^ m.log2 * 2 ^ more := by rw [Nat.pow_add]
          _ ≤ m * 2 ^ more := Nat.mul_le_mul_right _ g2
      have e4 : 4 * f.binade = 2 ^ (f.fractionBits + 2) := by unfold Format.binade; rw [Nat.pow_add]; omega
      rw [e4]
      have g3 : 2 ^ (f.fractionBits + 2) * 2 ^ (f.fractionBits + 2) < (wh + 1) * (wh + 1) := by
        rw [← Nat.pow_add]
        have : f.fractionBits + 2 + (f.fractionBits + 2) = 2 * (f.fractionBits + 2) := by omega
        rw [this]; omega
      have g4 : 2 ^ (f.fractionBits + 2) < wh + 1 := by
        refine Nat.lt_of_not_le fun h => ?_
        have := Nat.mul_le_mul h h
        omega
      omega
    have hcmp : ∀ K : Nat, ∀ l : Int, K < 2 * f.binade → ((val f x ≤ ((K:Rat) * p2 l) * ((K:Rat) * p2 l)) ↔ (((wh:Rat) + (if wh * wh = n then 0 else 1/2)) * p2 k ≤ (K:Rat) * p2 l)) ∧
        ((((K:Rat) * p2 l) * ((K:Rat) * p2 l) ≤ val f x) ↔ ((K:Rat) * p2 l ≤ ((wh:Rat) + (if wh * wh = n then 0 else 1/2)) * p2 k)) := by
      intro K l hK
      rw [hval]
      have hUU : 0 < p2 k * p2 k := Rat.mul_pos hU hU
      by_cases hl : k ≤ l
      · rw [split_at hl]
        generalize K * 2 ^ (l - k).toNat = N
        have ee : ((N:Rat) * p2 k) * ((N:Rat) * p2 k) = ((N * N : Nat):Rat) * (p2 k * p2 k) := by rw [Rat.natCast_mul]; grind
        rw [ee]
        have c1 : ((n:Rat) * (p2 k * p2 k) ≤ ((N * N : Nat):Rat) * (p2 k * p2 k)) ↔ n ≤ N * N :=
          ⟨fun h => Rat.natCast_le_natCast.1 (Rat.le_of_mul_le_mul_right h hUU), fun h => Rat.mul_le_mul_of_nonneg_right (natc_le h) (Rat.le_of_lt hUU)⟩
        have c2 : (((N * N : Nat):Rat) * (p2 k * p2 k) ≤ (n:Rat) * (p2 k * p2 k)) ↔ N * N ≤ n :=
          ⟨fun h => Rat.natCast_le_natCast.1 (Rat.le_of_mul_le_mul_right h hUU), fun h => Rat.mul_le_mul_of_nonneg_right (natc_le h) (Rat.le_of_lt hUU)⟩
        have c3 : (((wh:Rat) + (if wh * wh = n then 0 else 1/2)) * p2 k ≤ (N:Rat) * p2 k) ↔ ((wh:Rat) + (if wh * wh = n then 0 else 1/2) ≤ (N:Rat)) :=
          ⟨fun h => Rat.le_of_mul_le_mul_right h hU, fun h => Rat.mul_le_mul_of_nonneg_right h (Rat.le_of_lt hU)⟩
        have c4 : ((N:Rat) * p2 k ≤ ((wh:Rat) + (if wh * wh = n then 0 else 1/2)) * p2 k) ↔ ((N:Rat) ≤ (wh:Rat) + (if wh * wh = n then 0 else 1/2)) :=
          ⟨fun h => Rat.le_of_mul_le_mul_right h hU, fun h => Rat.mul_le_mul_of_nonneg_right h (Rat.le_of_lt hU)⟩
        rw [c1, c2, c3, c4]
        rcases Nat.lt_trichotomy N wh with h | h | h
        · have d1 := natc_le (show N + 1 ≤ wh by omega)
          have d2 : N * N < wh * wh := by
            have := Nat.mul_le_mul (show N + 1 ≤ wh by omega) (show N + 1 ≤ wh by omega)
            have : (N+1)*(N+1) = N*N + 2*N + 1 := by grind
            omega
          simp only [Rat.natCast_add] at d1
          have d3 : ((1:Nat):Rat) = 1 := rfl
          rw [d3] at d1
          constructor
          · constructor
            · intro h'; omega
            · intro h'; exfalso; split at h' <;> grind
          · constructor
            · intro _; split <;> grind
            · intro _; omega
        · subst h
          by_cases hb0 : N * N = n
          · rw [if_pos hb0]; constructor
            · constructor
              · intro _; grind
              · intro _; omega
            · constructor
              · intro _; grind
              · intro _; omega
          · rw [if_neg hb0]; constructor
            · constructor
              · intro h'; omega
              · intro h'; grind
            · constructor
              · intro _; grind
              · intro _; omega
        · have d1 := natc_le (show wh + 1 ≤ N by omega)
          have d2 := Nat.mul_le_mul (show wh + 1 ≤ N by omega) (show wh + 1 ≤ N by omega)
          simp only [Rat.natCast_add] at d1
          have d3 : ((1:Nat):Rat) = 1 := rfl
          rw [d3] at d1
          constructor
          · constructor
            · intro _; split <;> grind
            · intro _; omega
          · constructor
            · intro h'; omega
            · intro h'; exfalso; split at h' <;> grind
      · have g0 : (K:Rat) * p2 l < (wh:Rat) * p2 k := by
          have g2 : (K:Rat) * p2 l ≤ (K:Rat) * p2 k := Rat.mul_le_mul_of_nonneg_left (p2_le (by omega)) (natc_nn K)
          have g3 : (K:Rat) * p2 k < (wh:Rat) * p2 k := Rat.mul_lt_mul_of_pos_right (natc_lt (by omega)) hU
          grind
        have g5 : (wh:Rat) * p2 k ≤ ((wh:Rat) + (if wh * wh = n then 0 else 1/2)) * p2 k := Rat.mul_le_mul_of_nonneg_right (by split <;> grind) (Rat.le_of_lt hU)
        have g6 : ((wh:Rat) * p2 k) * ((wh:Rat) * p2 k) ≤ (n:Rat) * (p2 k * p2 k) := by
          have := Rat.mul_le_mul_of_nonneg_right (natc_le q1) (Rat.le_of_lt hUU)
          rw [Rat.natCast_mul] at this
          grind
        have g7 : ((K:Rat) * p2 l) * ((K:Rat) * p2 l) < ((wh:Rat) * p2 k) * ((wh:Rat) * p2 k) := by
          have n0 := kp_nn K l
          generalize (K:Rat) * p2 l = c at *
          generalize (wh:Rat) * p2 k = d at *
          have t1 : c * c ≤ c * d := Rat.mul_le_mul_of_nonneg_left (by grind) n0
          have t2 : c * d < d * d := Rat.mul_lt_mul_of_pos_right g0 (by grind)
          grind
        constructor
        · constructor
          · intro h'; exfalso; grind
          · intro h'; exfalso; grind
        · constructor
          · intro h'; grind
          · intro h'; grind
    have hbig : ∃ K l, RepN f K l ∧ val f x ≤ ((K:Rat) * p2 l) * ((K:Rat) * p2 l) := by
      obtain ⟨K, l, hK, hk1, hk2⟩ := fin_inR he hx
      -- the largest number of the format is at least 1
      refine ⟨2 * f.binade - 1, top f, ⟨by have := bin_pos f; omega, by have := hK.2; omega, Int.le_refl _⟩, ?_⟩
      have b1 : (K:Rat) * p2 l ≤ ((2 * f.binade - 1 : Nat):Rat) * p2 (top f) := by
        have t1 : (K:Rat) * p2 l ≤ ((2 * f.binade - 1 : Nat):Rat) * p2 l := Rat.mul_le_mul_of_nonneg_right (natc_le (by have := hK.1; omega)) (Rat.le_of_lt (p2_pos l))
        have t2 : ((2 * f.binade - 1 : Nat):Rat) * p2 l ≤ ((2 * f.binade - 1 : Nat):Rat) * p2 (top f) := Rat.mul_le_mul_of_nonneg_left (p2_le hK.2.2) (natc_nn _)
        grind
      have b2 : 1 ≤ ((2 * f.binade - 1 : Nat):Rat) * p2 (top f) := by
        have t1 : (1:Rat) ≤ ((2 * f.binade - 1 : Nat):Rat) := by
          have := natc_le (show 1 ≤ 2 * f.binade - 1 by have := bin_pos f; omega)
          simpa using this
        have t2 : (1:Rat) ≤ p2 (top f) := by rw [← p2_zero]; exact p2_le (by omega)
        have t3 := Rat.mul_le_mul_of_nonneg_left t2 (natc_nn (2 * f.binade - 1))
        grind
      generalize ((2 * f.binade - 1 : Nat):Rat) * p2 (top f) = c at *
      have t4 : 1 * c ≤ c * c := Rat.mul_le_mul_of_nonneg_right b2 (by grind)
      grind
    have hR := (nearest_rnd' (f := f) false (2 * wh + (wh * wh != n).toNat) (k - 1) (by
      obtain ⟨K, l, hK, hk1⟩ := hbig
      refine ⟨K, l, hK, ?_⟩
      rw [hst]; exact ((hcmp K l hK.1).1).1 hk1)).1
    rw [hr, hst] at hR
    have s1 : sgn false = 1 := rfl
    rw [s1, Rat.one_mul] at hR
    have hWnn : 0 ≤ ((wh:Rat) + (if wh * wh = n then 0 else 1/2)) * p2 k := Rat.mul_nonneg (by have := natc_nn wh; split <;> grind) (Rat.le_of_lt hU)
    refine ⟨hR.fin, ?_, ?_, ?_, ?_⟩
    · refine hR.ge 0 ?_ hWnn
      exact ⟨false, 0, f.leastPlace, by simp, by have := bin_pos f; omega, Int.le_refl _, by
        obtain ⟨K, l, hK, _⟩ := hbig; have := hK.2; omega⟩
    · rintro c hc hc0 hle
      refine hR.le c hc ?_
      obtain ⟨s', K, l, rfl, hK⟩ := hc
      have hcm := hcmp K l hK.1
      have n2 := kp_nn K l
      rcases sgn_cases s' with h' | h' <;> rw [h'] at hle hc0 ⊢
      · have : val f x ≤ (K:Rat) * p2 l * ((K:Rat) * p2 l) := by grind
        have := hcm.1.1 this
        grind
      · have : val f x ≤ (K:Rat) * p2 l * ((K:Rat) * p2 l) := by grind
        have := hcm.1.1 this
        grind
    · rintro c hc hle
      refine hR.ge c hc ?_
      obtain ⟨s', K, l, rfl, hK⟩ := hc
      have hcm := hcmp K l hK.1
      have n2 := kp_nn K l
      rcases sgn_cases s' with h' | h' <;> rw [h'] at hle ⊢
      · have : (K:Rat) * p2 l * ((K:Rat) * p2 l) ≤ val f x := by grind
        have := hcm.2.1 this
        grind
      · grind
    · refine ⟨(wh:Rat) * p2 k, p2 k, kp_nn wh k, Rat.le_of_lt hU, ?_, ?_, ?_, ((wh:Rat) + (if wh * wh = n then 0 else 1/2)) * p2 k, ?_, ?_, hR.rnd⟩
      · rw [hval]
        have := Rat.mul_le_mul_of_nonneg_right (natc_le q1) (Rat.le_of_lt (Rat.mul_pos hU hU))
        rw [Rat.natCast_mul] at this
        grind
      · rw [hval]
        have := Rat.mul_le_mul_of_nonneg_right (natc_le (Nat.le_of_lt q2)) (Rat.le_of_lt (Rat.mul_pos hU hU))
        rw [Rat.natCast_mul, Rat.natCast_add] at this
        have d3 : ((1:Nat):Rat) = 1 := rfl
        rw [d3] at this
        grind
      · have := Rat.mul_le_mul_of_nonneg_right (natc_le hA) (Rat.le_of_lt hU)
        rw [Rat.natCast_mul] at this
        simpa using this
      · exact Rat.mul_le_mul_of_nonneg_right (by split <;> grind) (Rat.le_of_lt hU)
      · have : (wh:Rat) * p2 k + p2 k = ((wh:Rat) + 1) * p2 k := by grind
        rw [this]
        exact Rat.mul_le_mul_of_nonneg_right (by split <;> grind) (Rat.le_of_lt hU)
end

section
variable {f : Format}
/-- the gap of cut -/
theorem gap_div (n drop : Nat) : n / (1 <<< min drop (n.log2 + 2)) = n / 2^drop ∧ ((n % (1 <<< min drop (n.log2 + 2)) = 0) ↔ (n % 2^drop = 0)) := by
  rw [Nat.one_shiftLeft]
  by_cases hd : drop ≤ n.log2 + 2
  · rw [Nat.min_eq_left hd]; exact ⟨rfl, Iff.rfl⟩
  · rw [Nat.min_eq_right (by omega)]
    have hlt : n < 2^(n.log2+1) := Nat.lt_log2_self
    have h1 : 2^(n.log2+1) ≤ 2^(n.log2+2) := Nat.pow_le_pow_right (by omega) (by omega)
    have h2 : 2^(n.log2+1) ≤ 2^drop := Nat.pow_le_pow_right (by omega) (by omega)
    rw [Nat.div_eq_of_lt (by omega), Nat.div_eq_of_lt (by omega), Nat.mod_eq_of_lt (by omega), Nat.mod_eq_of_lt (by omega)]
    exact ⟨rfl, Iff.rfl⟩

theorem cut_zero (neg : Bool) (n drop : Nat) : Toward.zero.cut neg n drop = n / 2^drop := by
  unfold Toward.cut
  simp only [Bool.toNat_false, Nat.add_zero]
  exact (gap_div n drop).1
theorem cut_down (neg : Bool) (n drop : Nat) : Toward.down.cut neg n drop = if neg ∧ n % 2^drop ≠ 0 then n / 2^drop + 1 else n / 2^drop := by
  unfold Toward.cut
  obtain ⟨h1, h2⟩ := gap_div n drop
  simp only
  rw [h1]
  by_cases h : neg = true ∧ n % 2^drop ≠ 0
  · have e : (neg && n % (1 <<< min drop (n.log2 + 2)) != 0) = true := by
      simp [h.1]; exact fun g => h.2 (h2.1 g)
    rw [if_pos h, e]; rfl
  · have e : (neg && n % (1 <<< min drop (n.log2 + 2)) != 0) = false := by
      cases neg
      · rfl
      · simp at h; simp [h2.2 h]
    rw [if_neg h, e]; rfl

theorem floor_eq {v : Rat} {n : Int} (h1 : (n:Rat) ≤ v) (h2 : v < (n:Rat) + 1) : v.floor = n := by
  have a := Rat.le_floor_iff.2 h1
  have b : v.floor < n + 1 := Rat.floor_lt_iff.2 (by rw [Rat.intCast_add]; exact h2)
  omega

theorem natcast_int (n : Nat) : ((n : Int) : Rat) = (n : Rat) := Rat.intCast_natCast n

/-- a magnitude over its digits behind the point -/
theorem mag_split (m : Nat) (i : Int) : ((m <<< i.toNat : Nat) : Rat) = (m:Rat) * p2 i * p2 ((-i).toNat : Int) := by
  rw [Nat.shiftLeft_eq, Rat.natCast_mul, ← p2_nat, Rat.mul_assoc, ← p2_add]
  congr 2; omega

theorem div_floor (n k : Nat) : ((n / 2^k : Nat):Rat) * p2 k ≤ n ∧ (n:Rat) < (((n / 2^k : Nat):Rat) + 1) * p2 k := by
  have hp := Nat.two_pow_pos k
  have h1 := Nat.div_add_mod n (2^k)
  have h2 := Nat.mod_lt n hp
  rw [p2_nat]
  constructor
  · rw [← Rat.natCast_mul]
    exact natc_le (by rw [Nat.mul_comm]; omega)
  · have : ((n / 2^k : Nat):Rat) + 1 = ((n / 2^k + 1 : Nat):Rat) := by rw [Rat.natCast_add]; rfl
    rw [this, ← Rat.natCast_mul]
    refine natc_lt ?_
    have : (n / 2^k + 1) * 2^k = 2^k * (n / 2^k) + 2^k := by grind
    omega

/-- the whole number of 'down' -/
theorem down_floor (s : Bool) (m : Nat) (i : Int) :
    (signed s (Toward.down.cut s (m <<< i.toNat) (-i).toNat) 0) = (sgn s * ((m:Rat) * p2 i)).floor := by
  symm
  rw [cut_down]
  generalize hn : m <<< i.toNat = n
  have hv : (n:Rat) = (m:Rat) * p2 i * p2 ((-i).toNat : Int) := by rw [← hn]; exact mag_split m i
  generalize (-i).toNat = k at *
  obtain ⟨d1, d2⟩ := div_floor n k
  have hp := p2_pos (k:Int)
  rw [hv] at d1 d2
  generalize (m:Rat) * p2 i = u at *
  have d1 := Rat.le_of_mul_le_mul_right d1 hp
  have d2 := Rat.lt_of_mul_lt_mul_right d2 (Rat.le_of_lt hp)
  have hmod := Nat.div_add_mod n (2^k)
  have hex : n % 2^k = 0 → u = ((n / 2^k : Nat) : Rat) := by
    intro h
    have : n = (n / 2^k) * 2^k := by rw [h] at hmod; rw [Nat.mul_comm]; omega
    have h3 : (n:Rat) = ((n / 2^k : Nat):Rat) * p2 k := by rw [p2_nat, ← Rat.natCast_mul, ← this]
    rw [h3] at hv
    have : u * p2 k ≤ ((n / 2^k : Nat):Rat) * p2 k := by rw [hv]; exact Rat.le_refl
    have := Rat.le_of_mul_le_mul_right this hp
    grind
  have hex2 : n % 2^k ≠ 0 → ((n / 2^k : Nat) : Rat) < u := by
    intro h
    have : n / 2^k * 2^k < n := by rw [Nat.mul_comm]; omega
    have h3 := natc_lt this
    rw [Rat.natCast_mul, ← p2_nat, hv] at h3
    exact Rat.lt_of_mul_lt_mul_right h3 (Rat.le_of_lt hp)
  generalize n / 2^k = q at *
  unfold signed sgn
  rw [Nat.shiftLeft_zero]
  cases s
  · simp only [Bool.false_eq_true, if_false, false_and]
    refine floor_eq ?_ ?_ <;> rw [natcast_int] <;> grind
  · simp only [if_true, true_and]
    by_cases h : n % 2^k = 0
    · rw [if_neg (by simp [h])]
      have := hex h
      refine floor_eq ?_ ?_ <;> rw [Rat.intCast_neg, natcast_int] <;> grind
    · rw [if_pos h]
      have := hex2 h
      have e : ((q + 1 : Nat) : Rat) = (q:Rat) + 1 := by rw [Rat.natCast_add]; rfl
      refine floor_eq ?_ ?_ <;> rw [Rat.intCast_neg, natcast_int, e] <;> grind

/-- a number cut towards zero -/
def truncR (v : Rat) : Int := if v < 0 then -((-v).floor) else v.floor

theorem zero_trunc (s : Bool) (m : Nat) (i : Int) :
    (signed s (Toward.zero.cut s (m <<< i.toNat) (-i).toNat) 0) = truncR (sgn s * ((m:Rat) * p2 i)) := by
  have e : Toward.zero.cut s (m <<< i.toNat) (-i).toNat = Toward.down.cut false (m <<< i.toNat) (-i).toNat := by
    rw [cut_zero, cut_down]; simp
  rw [e]
  have h := down_floor false m i
  have hu := kp_nn m i
  unfold truncR
  unfold signed sgn at *
  simp only [Bool.false_eq_true, if_false, Nat.shiftLeft_zero] at h
  rw [Nat.shiftLeft_zero, h]
  generalize (m:Rat) * p2 i = u at *
  have e2 : (1:Rat) * u = u := Rat.one_mul u
  rw [e2]
  cases s
  · simp only [Bool.false_eq_true, if_false, e2]
    rw [if_neg (by grind)]
  · simp only [if_true]
    by_cases h0 : u = 0
    · subst h0; simp; rfl
    · rw [if_pos (by grind)]
      have : -(-1 * u) = u := by grind
      rw [this]

/-- math.Floor, math.Trunc -/
def ffloor (x : Nat) : Nat := D.write ((D.read x).integral .down)
def ftrunc (x : Nat) : Nat := D.write ((D.read x).integral .zero)
/-- an integer as a 64-bit number -/
def ofI (f : Format) (n : Int) : Nat := f.write (.number (n < 0) n.natAbs 0)

theorem intval (n : Int) (b : Bool) (h : n ≠ 0 → b = decide (n < 0)) : dval (.number b n.natAbs 0) = (n:Rat) := by
  show sgn b * ((n.natAbs:Rat) * p2 0) = (n:Rat)
  rw [p2_zero, Rat.mul_one]
  exact natAbs_val n b h

theorem rep_int {n : Int} (hn : n.natAbs < 2 * f.binade) (hl : f.leastPlace ≤ 0) (ht : 0 ≤ top f) : Rep f (n:Rat) := by
  refine ⟨decide (n < 0), n.natAbs, 0, ?_, hn, hl, ht⟩
  rw [← intval n (decide (n < 0)) (fun _ => rfl)]; rfl

theorem ofI_ok {n : Int} (hn : n.natAbs < 2 * f.binade) (hl : f.leastPlace ≤ 0) (ht : 0 ≤ top f) : fin f (ofI f n) = true ∧ val f (ofI f n) = (n:Rat) := by
  have hv := intval n (decide (n < 0)) (fun _ => rfl)
  have hr := rep_int (f := f) hn hl ht
  have h := write_rnd (f := f) (d := .number (decide (n < 0)) n.natAbs 0) rfl (by rw [hv]; exact hr.inR)
  rw [hv] at h
  exact ⟨h.fin, h.exact hr⟩

theorem floor_le_abs {v : Rat} {B : Int} (h1 : -(B:Rat) ≤ v) (h2 : v ≤ (B:Rat)) : -B ≤ v.floor ∧ v.floor ≤ B := by
  constructor
  · exact Rat.le_floor_iff.2 (by rw [Rat.intCast_neg]; exact h1)
  · have := Rat.floor_monotone h2
    rwa [Rat.floor_intCast] at this

theorem down_num (s : Bool) (m : Nat) (i : Int) : ∃ k, (Datum.number s m i).integral .down = .number s k 0 ∧ signed s k 0 = (sgn s * ((m:Rat) * p2 i)).floor :=
  ⟨_, rfl, down_floor s m i⟩
theorem zero_num (s : Bool) (m : Nat) (i : Int) : ∃ k, (Datum.number s m i).integral .zero = .number s k 0 ∧ signed s k 0 = truncR (sgn s * ((m:Rat) * p2 i)) :=
  ⟨_, rfl, zero_trunc s m i⟩

theorem signed_num (s : Bool) (k : Nat) : dval (.number s k 0) = ((signed s k 0 : Int) : Rat) ∧ (signed s k 0).natAbs = k := by
  constructor
  · have := signed_val s k 0 0
    rw [p2_zero, Rat.mul_one] at this
    rw [this]; show sgn s * ((k:Rat) * p2 0) = _; simp
  · unfold signed; cases s <;> simp

theorem ffloor_ok {x : Nat} (hx : fin D x = true) (h1 : -(4503599627370496:Rat) ≤ val D x) (h2 : val D x ≤ 4503599627370496) :
    fin D (ffloor x) = true ∧ val D (ffloor x) = ((val D x).floor : Rat) := by
  obtain ⟨s, m, i, hr, hv⟩ := fin_num hx
  obtain ⟨k, e1, e2⟩ := down_num s m i
  rw [← hv] at e2
  obtain ⟨g1, g2⟩ := signed_num s k
  rw [e2] at g1 g2
  obtain ⟨b1, b2⟩ := floor_le_abs (v := val D x) (B := 4503599627370496) h1 h2
  have hrep : Rep D ((val D x).floor : Rat) := rep_int (by
    have : (2 * D.binade) = 9007199254740992 := by decide
    rw [this]; omega) (by decide) (by decide)
  have h := write_rnd (f := D) (d := .number s k 0) rfl (by rw [g1]; exact hrep.inR)
  rw [g1] at h
  unfold ffloor
  rw [hr, e1]
  exact ⟨h.fin, h.exact hrep⟩

theorem truncR_bd {v : Rat} {B : Int} (h1 : -(B:Rat) ≤ v) (h2 : v ≤ (B:Rat)) : -B ≤ truncR v ∧ truncR v ≤ B := by
  unfold truncR
  split
  · have := floor_le_abs (v := -v) (B := B) (by grind) (by grind); omega
  · exact floor_le_abs h1 h2

theorem ftrunc_ok {x : Nat} (hx : fin D x = true) (h1 : -(4503599627370496:Rat) ≤ val D x) (h2 : val D x ≤ 4503599627370496) :
    fin D (ftrunc x) = true ∧ val D (ftrunc x) = (truncR (val D x) : Rat) ∧ (truncR (val D x) ≠ 0 → ftrunc x = ofI D (truncR (val D x))) := by
  obtain ⟨s, m, i, hr, hv⟩ := fin_num hx
  obtain ⟨k, e1, e2⟩ := zero_num s m i
  rw [← hv] at e2
  obtain ⟨g1, g2⟩ := signed_num s k
  rw [e2] at g1 g2
  obtain ⟨b1, b2⟩ := truncR_bd (v := val D x) (B := 4503599627370496) h1 h2
  have hrep : Rep D (truncR (val D x) : Rat) := rep_int (by
    have : (2 * D.binade) = 9007199254740992 := by decide
    rw [this]; omega) (by decide) (by decide)
  have h := write_rnd (f := D) (d := .number s k 0) rfl (by rw [g1]; exact hrep.inR)
  rw [g1] at h
  unfold ftrunc
  rw [hr, e1]
  refine ⟨h.fin, h.exact hrep, fun hne => ?_⟩
  unfold ofI
  rw [g2]
  have : s = decide (truncR (val D x) < 0) := by
    rw [← e2] at hne ⊢
    unfold signed at *
    cases s
    · simp
    · simp at *; omega
  rw [this]

/-- a number as an integer -/
theorem toInt_ok {x : Nat} (hx : fin D x = true) : (D.read x).toInt .zero = some (truncR (val D x)) := by
  obtain ⟨s, m, i, hr, hv⟩ := fin_num hx
  obtain ⟨k, e1, e2⟩ := zero_num s m i
  unfold Datum.toInt
  rw [hr, e1, hv]
  simp only [e2]

theorem truncR_int (n : Int) : truncR (n:Rat) = n := by
  unfold truncR
  split
  · rw [← Rat.intCast_neg, Rat.floor_intCast]; omega
  · exact Rat.floor_intCast n
end

section
variable {f : Format}
/-- a rational that the format has, by reckoning -/
def repB (f : Format) (c : Rat) : Bool :=
  c.den == 2 ^ c.den.log2 && c.num.natAbs % 2 ^ (c.num.natAbs.log2 - f.fractionBits) == 0 && decide (c.num.natAbs / 2 ^ (c.num.natAbs.log2 - f.fractionBits) < 2 * f.binade) &&
    decide (f.leastPlace ≤ ((c.num.natAbs.log2 - f.fractionBits : Nat) : Int) - (c.den.log2 : Int)) && decide (((c.num.natAbs.log2 - f.fractionBits : Nat) : Int) - (c.den.log2 : Int) ≤ top f)

theorem rep_of {c : Rat} (h : repB f c = true) : Rep f c := by
  unfold repB at h
  simp only [Bool.and_eq_true, decide_eq_true_eq, beq_iff_eq] at h
  obtain ⟨⟨⟨⟨h1, h0⟩, h2⟩, h3⟩, h4⟩ := h
  generalize c.num.natAbs.log2 - f.fractionBits = k at *
  refine ⟨decide (c.num < 0), c.num.natAbs / 2 ^ k, (k : Int) - (c.den.log2 : Int), ?_, h2, h3, h4⟩
  have hv := natAbs_val c.num (decide (c.num < 0)) (fun _ => rfl)
  have hk : ((c.num.natAbs / 2 ^ k : Nat) : Rat) * p2 (k : Int) = (c.num.natAbs : Rat) := by
    rw [p2_nat, ← Rat.natCast_mul, Nat.div_mul_cancel (Nat.dvd_of_mod_eq_zero h0)]
  have e0 : (k : Int) - (c.den.log2 : Int) = (k : Int) + -(c.den.log2 : Int) := by omega
  rw [e0, p2_add, ← Rat.mul_assoc ((c.num.natAbs / 2 ^ k : Nat) : Rat), hk, ← Rat.mul_assoc, hv]
  have hd : (c.den : Rat) = p2 (c.den.log2 : Int) := by rw [p2_nat, ← h1]
  have h5 := p2_neg (c.den.log2 : Int)
  rw [← hd] at h5
  have h6 : c = (c.num : Rat) / (c.den : Rat) := by
    conv => lhs; rw [← Rat.mkRat_self c, Rat.mkRat_eq_div]
  have h8 : p2 (-(c.den.log2 : Int)) = (c.den : Rat)⁻¹ := (Rat.inv_eq_of_mul_eq_one h5).symm
  rw [h8, ← Rat.div_def]; exact h6

/-- finite, from lo to hi -/
structure Iv (f : Format) (lo hi : Rat) (x : Nat) : Prop where
  fin : fin f x = true
  lo : lo ≤ val f x
  hi : val f x ≤ hi

theorem Rnd.iv {v : Rat} {x : Nat} (h : Rnd f v x) {lo hi : Rat} (hl : Rep f lo) (hh : Rep f hi) (h1 : lo ≤ v) (h2 : v ≤ hi) : Iv f lo hi x :=
  ⟨h.fin, h.ge lo hl h1, h.le hi hh h2⟩

theorem inR_iv {lo hi v : Rat} (hl : Rep f lo) (hh : Rep f hi) (h1 : lo ≤ v) (h2 : v ≤ hi) : InR f v := by
  by_cases h : -lo ≤ hi
  · exact InR.of_le hh h2 (by grind)
  · exact InR.of_le hl.neg (by grind) (by grind)

theorem Iv.mono {lo hi lo' hi' : Rat} {x : Nat} (h : Iv f lo hi x) (h1 : lo' ≤ lo) (h2 : hi ≤ hi') : Iv f lo' hi' x :=
  ⟨h.fin, Rat.le_trans h1 h.lo, Rat.le_trans h.hi h2⟩
theorem Iv.of_eq {x : Nat} {v : Rat} (hf : FL.fin f x = true) (h : val f x = v) : Iv f v v x := ⟨hf, by rw [h]; exact Rat.le_refl, by rw [h]; exact Rat.le_refl⟩

theorem Iv.add {a b c d lo hi : Rat} {x y : Nat} (hx : Iv f a b x) (hy : Iv f c d y) (hl : repB f lo = true) (hh : repB f hi = true) (h1 : lo ≤ a + c) (h2 : b + d ≤ hi) :
    Iv f lo hi (fadd f x y) := by
  have e1 := hx.lo; have e2 := hx.hi; have e3 := hy.lo; have e4 := hy.hi
  exact ((add_ok hx.fin hy.fin).2 (inR_iv (rep_of hl) (rep_of hh) (by grind) (by grind))).iv (rep_of hl) (rep_of hh) (by grind) (by grind)
theorem Iv.sub {a b c d lo hi : Rat} {x y : Nat} (hx : Iv f a b x) (hy : Iv f c d y) (hl : repB f lo = true) (hh : repB f hi = true) (h1 : lo ≤ a - d) (h2 : b - c ≤ hi) :
    Iv f lo hi (fsub f x y) := by
  have e1 := hx.lo; have e2 := hx.hi; have e3 := hy.lo; have e4 := hy.hi
  exact ((sub_ok hx.fin hy.fin).2 (inR_iv (rep_of hl) (rep_of hh) (by grind) (by grind))).iv (rep_of hl) (rep_of hh) (by grind) (by grind)

theorem mul_bounds {a b c d x y lo hi : Rat} (h1 : a ≤ x) (h2 : x ≤ b) (h3 : c ≤ y) (h4 : y ≤ d)
    (l1 : lo ≤ a * c) (l2 : lo ≤ a * d) (l3 : lo ≤ b * c) (l4 : lo ≤ b * d) (u1 : a * c ≤ hi) (u2 : a * d ≤ hi) (u3 : b * c ≤ hi) (u4 : b * d ≤ hi) :
    lo ≤ x * y ∧ x * y ≤ hi := by
  have k1 : ∀ t, a * t ≤ x * t ∧ x * t ≤ b * t ∨ b * t ≤ x * t ∧ x * t ≤ a * t := by
    intro t
    by_cases h : 0 ≤ t
    · exact .inl ⟨Rat.mul_le_mul_of_nonneg_right h1 h, Rat.mul_le_mul_of_nonneg_right h2 h⟩
    · have h' : 0 ≤ -t := by grind
      have g1 := Rat.mul_le_mul_of_nonneg_right h1 h'
      have g2 := Rat.mul_le_mul_of_nonneg_right h2 h'
      exact .inr ⟨by grind, by grind⟩
  have k2 : ∀ t, t * c ≤ t * y ∧ t * y ≤ t * d ∨ t * d ≤ t * y ∧ t * y ≤ t * c := by
    intro t
    by_cases h : 0 ≤ t
    · exact .inl ⟨Rat.mul_le_mul_of_nonneg_left h3 h, Rat.mul_le_mul_of_nonneg_left h4 h⟩
    · have h' : 0 ≤ -t := by grind
      have g1 := Rat.mul_le_mul_of_nonneg_left h3 h'
      have g2 := Rat.mul_le_mul_of_nonneg_left h4 h'
      exact .inr ⟨by grind, by grind⟩
  have a1 := k1 y
  have a2 := k2 a
  have a3 := k2 b
  constructor <;> grind

theorem Iv.mul {a b c d lo hi : Rat} {x y : Nat} (hx : Iv f a b x) (hy : Iv f c d y) (hl : repB f lo = true) (hh : repB f hi = true)
    (l1 : lo ≤ a * c) (l2 : lo ≤ a * d) (l3 : lo ≤ b * c) (l4 : lo ≤ b * d) (u1 : a * c ≤ hi) (u2 : a * d ≤ hi) (u3 : b * c ≤ hi) (u4 : b * d ≤ hi) :
    Iv f lo hi (fmul f x y) := by
  obtain ⟨g1, g2⟩ := mul_bounds hx.lo hx.hi hy.lo hy.hi l1 l2 l3 l4 u1 u2 u3 u4
  exact ((mul_ok hx.fin hy.fin).2 (inR_iv (rep_of hl) (rep_of hh) g1 g2)).iv (rep_of hl) (rep_of hh) g1 g2

theorem Rat.le_div_iff' {a b c : Rat} (hc : 0 < c) : a ≤ b / c ↔ a * c ≤ b := by
  rw [← Rat.not_lt, Rat.div_lt_iff hc, Rat.not_lt]
theorem Rat.div_le_iff' {a b c : Rat} (hc : 0 < c) : b / c ≤ a ↔ b ≤ a * c := by
  rw [← Rat.not_lt, Rat.lt_div_iff hc, Rat.not_lt]

/-- division by what is greater than 0 -/
theorem Iv.div {a b c d lo hi : Rat} {x y : Nat} (hx : Iv f a b x) (hy : Iv f c d y) (hc : 0 < c) (hl : repB f lo = true) (hh : repB f hi = true)
    (l1 : lo * c ≤ a) (l2 : lo * d ≤ a) (u1 : b ≤ hi * c) (u2 : b ≤ hi * d) : Iv f lo hi (fdiv f x y) := by
  have e1 := hx.lo; have e2 := hx.hi; have e3 := hy.lo; have e4 := hy.hi
  have hp : 0 < val f y := by grind
  have g1 : lo ≤ val f x / val f y := by
    rw [Rat.le_div_iff' hp]
    by_cases h : 0 ≤ lo
    · have := Rat.mul_le_mul_of_nonneg_left e4 h; grind
    · have := Rat.mul_le_mul_of_nonneg_left (c := -lo) e3 (by grind); grind
  have g2 : val f x / val f y ≤ hi := by
    rw [Rat.div_le_iff' hp]
    by_cases h : 0 ≤ hi
    · have := Rat.mul_le_mul_of_nonneg_left e3 h; grind
    · have := Rat.mul_le_mul_of_nonneg_left (c := -hi) e4 (by grind); grind
  exact ((div_ok hx.fin hy.fin (by grind)).2 (inR_iv (rep_of hl) (rep_of hh) g1 g2)).iv (rep_of hl) (rep_of hh) g1 g2

theorem Iv.cvt {a b : Rat} {x : Nat} (hx : Iv S a b x) : Iv D a b (cvt x) := by
  obtain ⟨h1, h2⟩ := cvt_ok hx.fin
  exact ⟨h1, by rw [h2]; exact hx.lo, by rw [h2]; exact hx.hi⟩
theorem Iv.nar {a b lo hi : Rat} {x : Nat} (hx : Iv D a b x) (hl : repB S lo = true) (hh : repB S hi = true) (h1 : lo ≤ a) (h2 : b ≤ hi) : Iv S lo hi (nar x) := by
  have e1 := hx.lo; have e2 := hx.hi
  exact (nar_ok hx.fin (inR_iv (rep_of hl) (rep_of hh) (by grind) (by grind))).iv (rep_of hl) (rep_of hh) (by grind) (by grind)
theorem Iv.sqrt (he : 2 ≤ f.exponentBits) (hfb : (f.fractionBits : Int) ≤ top f) {a b lo hi : Rat} {x : Nat} (hx : Iv f a b x) (ha : 0 ≤ a) (hl : repB f lo = true) (hh : repB f hi = true) (hh0 : 0 ≤ hi) (h1 : lo * lo ≤ a) (h2 : b ≤ hi * hi) : Iv f lo hi (fsqrt f x) := by
  have e1 := hx.lo; have e2 := hx.hi
  have h := (sqrt_ok he hfb hx.fin (by grind)).2
  exact ⟨h.fin, h.ge lo (rep_of hl) (by grind), h.le hi (rep_of hh) hh0 (by grind)⟩

/-- the comparisons -/
def flt (f : Format) (x y : Nat) : Bool := f.order x y == some .lt
def fle (f : Format) (x y : Nat) : Bool := f.order x y == some .lt || f.order x y == some .eq
def fgt (f : Format) (x y : Nat) : Bool := f.order x y == some .gt
def fge (f : Format) (x y : Nat) : Bool := f.order x y == some .gt || f.order x y == some .eq
def feq (f : Format) (x y : Nat) : Bool := f.order x y == some .eq

theorem flt_val {x y : Nat} (hx : fin f x = true) (hy : fin f y = true) : flt f x y = decide (val f x < val f y) := by
  unfold flt; rw [order_val hx hy]
  by_cases h : val f x < val f y
  · simp [h]
  · by_cases h' : val f x = val f y <;> simp [h, h']
theorem fle_val {x y : Nat} (hx : fin f x = true) (hy : fin f y = true) : fle f x y = decide (val f x ≤ val f y) := by
  unfold fle; rw [order_val hx hy]
  by_cases h : val f x < val f y
  · have := Rat.le_of_lt h; simp [h, this]
  · by_cases h' : val f x = val f y
    · have : val f x ≤ val f y := by rw [h']; exact Rat.le_refl
      simp [h, h']
    · have : ¬ val f x ≤ val f y := by grind
      simp [h, h', this]
theorem fgt_val {x y : Nat} (hx : fin f x = true) (hy : fin f y = true) : fgt f x y = decide (val f y < val f x) := by
  unfold fgt; rw [order_val hx hy]
  by_cases h : val f x < val f y
  · have : ¬ val f y < val f x := by grind
    simp [h, this]
  · by_cases h' : val f x = val f y
    · simp [h, h']
    · have : val f y < val f x := by grind
      simp [h, h', this]
theorem fge_val {x y : Nat} (hx : fin f x = true) (hy : fin f y = true) : fge f x y = decide (val f y ≤ val f x) := by
  unfold fge; rw [order_val hx hy]
  by_cases h : val f x < val f y
  · have : ¬ val f y ≤ val f x := by grind
    simp [h, this]
  · by_cases h' : val f x = val f y
    · simp [h, h']
    · have : val f y ≤ val f x := by grind
      simp [h, h', this]
theorem feq_val {x y : Nat} (hx : fin f x = true) (hy : fin f y = true) : feq f x y = decide (val f x = val f y) := by
  unfold feq; rw [order_val hx hy]
  by_cases h : val f x < val f y
  · have : ¬ val f x = val f y := by grind
    simp [h, this]
  · by_cases h' : val f x = val f y <;> simp [h, h']

/-- a bound tells that a number is finite -/
theorem order_some {x y : Nat} (h : f.order x y ≠ none) : (∀ s t, f.read x ≠ .nan s t) ∧ (∀ s t, f.read y ≠ .nan s t) := by
  unfold Format.order at h
  constructor
  · intro s t e; rw [e] at h; simp [Datum.order] at h
  · intro s t e; rw [e] at h; cases hx : f.read x <;> rw [hx] at h <;> simp [Datum.order] at h

/-- within two finite bounds: finite -/
theorem fin_of_between {x lo hi : Nat} (hlo : fin f lo = true) (hhi : fin f hi = true) (h1 : fge f x lo = true) (h2 : fle f x hi = true) : fin f x = true := by
  obtain ⟨s, m, i, e1, _⟩ := fin_num hlo
  obtain ⟨t, n, j, e2, _⟩ := fin_num hhi
  unfold fge at h1
  unfold fle at h2
  unfold Format.order at h1 h2
  rw [e1] at h1
  rw [e2] at h2
  unfold fin
  cases hx : f.read x with
  | number s m e => rfl
  | infinity s =>
    rw [hx] at h1 h2
    cases s <;> simp [Datum.order] at h1 h2
  | nan s t => rw [hx] at h1; simp [Datum.order] at h1
end
end Go.Proofs.YtcfpfbaeagkgmaaDoor.FL
