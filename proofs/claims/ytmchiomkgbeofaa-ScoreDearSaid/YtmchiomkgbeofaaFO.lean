/- Sums, products, quotients of words that are not below zero: each rises with what it is made of. -/
import Derived.Test.YtmchiomkgbeofaaFN
namespace Go.Proofs.Ytmchiomkgbeofaa
open Ieee

/-- The word nearest to N / D units of 2 ^ b. -/
def RQ (b : Int) (N D : Nat) : Nat :=
  min ((max (b + ((N / D).log2 : Nat) - 52) lp - lp).toNat * 4503599627370496 + rne N (D * 2 ^ (max (b + ((N / D).log2 : Nat) - 52) lp - b).toNat)) I

theorem log2_mono {a b : Nat} (h : a ≤ b) : a.log2 ≤ b.log2 := by
  rcases Nat.eq_zero_or_pos a with rfl | ha
  · simp
  · exact (Nat.le_log2 (by omega)).2 (Nat.le_trans (Nat.log2_self_le (by omega)) h)

theorem RQ_mono {b : Int} {N D N' D' : Nat} (hb : b ≤ lp) (hD : 0 < D) (hD' : 0 < D') (h : N * D' ≤ N' * D) : RQ b N D ≤ RQ b N' D' := by
  have hq : N / D ≤ N' / D' := by
    rw [Nat.le_div_iff_mul_le hD']
    have h1 : N / D * D ≤ N := Nat.div_mul_le_self N D
    have h2 : N / D * D' * D ≤ N' * D := by
      rw [Nat.mul_right_comm]
      exact Nat.le_trans (Nat.mul_le_mul_right _ h1) h
    exact Nat.le_of_mul_le_mul_right h2 hD
  have hl := log2_mono hq
  unfold RQ
  have hN : N < (N / D + 1) * D := by
    have := Nat.div_add_mod N D
    have := Nat.mod_lt N hD
    rw [Nat.add_mul, Nat.one_mul, Nat.mul_comm (N / D) D]; omega
  have hN' : N' / D' * D' ≤ N' := Nat.div_mul_le_self _ _
  generalize N / D = q at *
  generalize N' / D' = q' at *
  have hq1 : q < 2 ^ (q.log2 + 1) := Nat.lt_log2_self
  have hq2 : q' ≠ 0 → 2 ^ q'.log2 ≤ q' := fun h => Nat.log2_self_le h
  have hz : q' = 0 → q'.log2 = 0 := fun h => by subst h; simp
  generalize q.log2 = a at *
  generalize q'.log2 = a' at *
  generalize hx : max (b + (a : Nat) - 52) lp = x
  generalize hy : max (b + (a' : Nat) - 52) lp = y
  refine Nat.le_min.2 ⟨?_, Nat.min_le_right _ _⟩
  refine Nat.le_trans (Nat.min_le_left _ _) ?_
  rcases Int.lt_trichotomy x y with hxy | hxy | hxy
  · have hx2 : rne N (D * 2 ^ (x - b).toNat) ≤ 2 ^ 53 := by
      refine rne_le (Nat.mul_pos hD (Nat.two_pow_pos _)) ?_
      have h1 : 2 ^ (a + 1) ≤ 2 ^ (53 + (x - b).toNat) := Nat.pow_le_pow_right (by decide) (by omega)
      have h2 : N ≤ 2 ^ (53 + (x - b).toNat) * D := by
        have := Nat.mul_le_mul_right D (show q + 1 ≤ 2 ^ (53 + (x - b).toNat) by omega)
        omega
      rw [Nat.pow_add] at h2
      rw [Nat.mul_comm D, ← Nat.mul_assoc]; exact h2
    have hy2 : 2 ^ 52 ≤ rne N' (D' * 2 ^ (y - b).toNat) := by
      refine rne_ge (Nat.mul_pos hD' (Nat.two_pow_pos _)) ?_
      have h0 : a' = 52 + (y - b).toNat := by omega
      have h1 := hq2 (fun h => by have := hz h; omega)
      rw [h0, Nat.pow_add] at h1
      have h2 := Nat.mul_le_mul_right D' h1
      rw [Nat.mul_comm D', ← Nat.mul_assoc]
      omega
    have e : (y - lp).toNat ≥ (x - lp).toNat + 1 := by omega
    generalize (y - lp).toNat = u at *
    generalize (x - lp).toNat = v at *
    generalize rne N (D * 2 ^ (x - b).toNat) = r at *
    generalize rne N' (D' * 2 ^ (y - b).toNat) = r' at *
    omega
  · subst hxy
    refine Nat.add_le_add_left (rne_mono (Nat.mul_pos hD (Nat.two_pow_pos _)) (Nat.mul_pos hD' (Nat.two_pow_pos _)) ?_) _
    rw [← Nat.mul_assoc, ← Nat.mul_assoc]
    exact Nat.mul_le_mul_right _ h
  · omega

theorem RQ_le (b : Int) (N D : Nat) : RQ b N D ≤ I := Nat.min_le_right _ _

theorem log2_shift (m k : Nat) (hm : m ≠ 0) : (m * 2 ^ k).log2 = m.log2 + k := by
  have h1 := Nat.log2_self_le hm
  have h2 : m < 2 ^ (m.log2 + 1) := Nat.lt_log2_self
  have hz : m * 2 ^ k ≠ 0 := Nat.mul_ne_zero hm (Nat.ne_of_gt (Nat.two_pow_pos _))
  refine Nat.le_antisymm ?_ ?_
  · have : (m * 2 ^ k).log2 < m.log2 + 1 + k := (Nat.log2_lt hz).2 (by rw [Nat.pow_add]; exact Nat.mul_lt_mul_of_pos_right h2 (Nat.two_pow_pos _))
    omega
  · exact (Nat.le_log2 hz).2 (by rw [Nat.pow_add]; exact Nat.mul_le_mul_right _ h1)

theorem nearest_def (m : Nat) (i : Int) (hm : m ≠ 0) : D.nearest false m i =
    min ((max (i + (m.log2 : Nat) - 52) lp - lp).toNat * 4503599627370496 + rne (m * 2 ^ (i - max (i + (m.log2 : Nat) - 52) lp).toNat) (2 ^ (max (i + (m.log2 : Nat) - 52) lp - i).toNat)) I := by
  have hf : ((D.fractionBits : Nat) : Int) = 52 := rfl
  have hI : I = 9218868437227405312 := rfl
  unfold Format.nearest
  rw [if_neg hm]
  dsimp only
  rw [hf, lp_eq, bin_eq, inf_eq, cut_eq, Nat.shiftLeft_eq, hI]
  unfold Format.word
  rw [if_neg (by decide)]

theorem nearest_zero (i : Int) : D.nearest false 0 i = 0 := by unfold Format.nearest; rw [if_pos rfl]; rfl
theorem RQ_zero (b : Int) (hb : b ≤ lp) : RQ b 0 1 = 0 := by
  unfold RQ
  rw [Nat.zero_div, Nat.log2_zero, rne_zero, show (max (b + ((0 : Nat) : Int) - 52) lp - lp).toNat = 0 by omega, Nat.zero_mul, Nat.zero_add]
  exact Nat.min_eq_left (Nat.zero_le I)
theorem rne_shift (m : Nat) (i x b : Int) (hi : b ≤ i) (hx : b ≤ x) : rne (m * 2 ^ (i - x).toNat) (2 ^ (x - i).toNat) = rne (m * 2 ^ (i - b).toNat) (2 ^ (x - b).toNat) := by
  rcases Int.le_total x i with h | h
  · have := rne_scale (m * 2 ^ (i - x).toNat) (2 ^ (x - i).toNat) (2 ^ (x - b).toNat) (Nat.two_pow_pos _)
    rw [← this, Nat.mul_assoc, ← Nat.pow_add, ← Nat.pow_add, show (i - x).toNat + (x - b).toNat = (i - b).toNat by omega, show (x - i).toNat + (x - b).toNat = (x - b).toNat by omega]
  · have := rne_scale (m * 2 ^ (i - x).toNat) (2 ^ (x - i).toNat) (2 ^ (i - b).toNat) (Nat.two_pow_pos _)
    rw [← this, Nat.mul_assoc, ← Nat.pow_add, ← Nat.pow_add, show (i - x).toNat + (i - b).toNat = (i - b).toNat by omega, show (x - i).toNat + (i - b).toNat = (x - b).toNat by omega]

theorem nearest_RQ (m : Nat) (b i : Int) (hi : b ≤ i) (hb : b ≤ lp) : D.nearest false m i = RQ b (m * 2 ^ (i - b).toNat) 1 := by
  by_cases hm : m = 0
  · subst hm
    rw [nearest_zero, Nat.zero_mul, RQ_zero b hb]
  · rw [nearest_def m i hm]
    unfold RQ
    rw [Nat.div_one, log2_shift _ _ hm, show b + ((m.log2 + (i - b).toNat : Nat) : Int) = i + (m.log2 : Nat) by omega, Nat.one_mul]
    generalize hx : max (i + (m.log2 : Nat) - 52) lp = x
    rw [rne_shift m i x b hi (by omega)]

/-! ### Sums -/
theorem add_fin {x y : Nat} (hx : x < I) (hy : y < I) : D.add x y = some (RQ lp (V x + V y) 1) := by
  unfold Format.add
  rw [read_pos hx, read_pos hy]
  show some (D.nearest (if signed false (mant x) (lp + ((ex x : Nat) : Int) - min (lp + ((ex x : Nat) : Int)) (lp + ((ex y : Nat) : Int))).toNat + signed false (mant y) (lp + ((ex y : Nat) : Int) - min (lp + ((ex x : Nat) : Int)) (lp + ((ex y : Nat) : Int))).toNat = 0 then false && false else decide (signed false (mant x) (lp + ((ex x : Nat) : Int) - min (lp + ((ex x : Nat) : Int)) (lp + ((ex y : Nat) : Int))).toNat + signed false (mant y) (lp + ((ex y : Nat) : Int) - min (lp + ((ex x : Nat) : Int)) (lp + ((ex y : Nat) : Int))).toNat < 0))
    (signed false (mant x) (lp + ((ex x : Nat) : Int) - min (lp + ((ex x : Nat) : Int)) (lp + ((ex y : Nat) : Int))).toNat + signed false (mant y) (lp + ((ex y : Nat) : Int) - min (lp + ((ex x : Nat) : Int)) (lp + ((ex y : Nat) : Int))).toNat).natAbs (min (lp + ((ex x : Nat) : Int)) (lp + ((ex y : Nat) : Int)))) = _
  rw [show (lp + ((ex x : Nat) : Int) - min (lp + ((ex x : Nat) : Int)) (lp + ((ex y : Nat) : Int))).toNat = ex x - min (ex x) (ex y) by omega,
    show (lp + ((ex y : Nat) : Int) - min (lp + ((ex x : Nat) : Int)) (lp + ((ex y : Nat) : Int))).toNat = ex y - min (ex x) (ex y) by omega]
  have e1 : ∀ m k, signed false m k = ((m * 2 ^ k : Nat) : Int) := fun m k => by
    show ((m <<< k : Nat) : Int) = _
    rw [Nat.shiftLeft_eq]
  rw [e1, e1]
  have e2 : (if (((mant x * 2 ^ (ex x - min (ex x) (ex y)) : Nat) : Int) + ((mant y * 2 ^ (ex y - min (ex x) (ex y)) : Nat) : Int)) = 0 then false && false else decide ((((mant x * 2 ^ (ex x - min (ex x) (ex y)) : Nat) : Int) + ((mant y * 2 ^ (ex y - min (ex x) (ex y)) : Nat) : Int)) < 0)) = false := by
    split
    · rfl
    · exact decide_eq_false (by omega)
  rw [e2, show ((((mant x * 2 ^ (ex x - min (ex x) (ex y)) : Nat) : Int) + ((mant y * 2 ^ (ex y - min (ex x) (ex y)) : Nat) : Int))).natAbs = mant x * 2 ^ (ex x - min (ex x) (ex y)) + mant y * 2 ^ (ex y - min (ex x) (ex y)) by omega]
  rw [nearest_RQ _ lp _ (by omega) (Int.le_refl _), show (min (lp + ((ex x : Nat) : Int)) (lp + ((ex y : Nat) : Int)) - lp).toNat = min (ex x) (ex y) by omega]
  rw [Nat.add_mul, Nat.mul_assoc, Nat.mul_assoc, ← Nat.pow_add, ← Nat.pow_add, show ex x - min (ex x) (ex y) + min (ex x) (ex y) = ex x by omega, show ex y - min (ex x) (ex y) + min (ex x) (ex y) = ex y by omega]
  rfl

theorem add_inf {x : Nat} (hx : x < I) : D.add x I = some I := by
  unfold Format.add
  rw [read_pos hx, read_inf]
  show some (D.write (.infinity false)) = some I
  rfl

/-! ### Products with a constant -/
theorem mul_fin {x c : Nat} (hx : x < I) (hc : c < I) : D.mul x c = some (RQ (lp + lp) (V x * V c) 1) := by
  unfold Format.mul
  rw [read_pos hx, read_pos hc]
  show some (D.nearest (false ^^ false) (mant x * mant c) (lp + ((ex x : Nat) : Int) + (lp + ((ex c : Nat) : Int)))) = _
  rw [show (false ^^ false) = false from rfl, nearest_RQ _ (lp + lp) _ (by omega) (by decide), show (lp + ((ex x : Nat) : Int) + (lp + ((ex c : Nat) : Int)) - (lp + lp)).toNat = ex x + ex c by omega]
  unfold V
  rw [Nat.pow_add]
  congr 2
  simp only [Nat.mul_comm, Nat.mul_left_comm, Nat.mul_assoc]

/-! ### Whole numbers -/
def E1 : Nat := 1074
def E3 : Nat := 3000
theorem int_fin (n : Nat) : FloatKind.f64.nearest (n : Int) = RQ lp (n * 2 ^ E1) 1 := by
  unfold FloatKind.nearest FloatKind.encode
  show D.nearest (decide ((n : Int) < 0)) ((n : Int).natAbs) 0 = _
  rw [show decide ((n : Int) < 0) = false from decide_eq_false (by omega), Int.natAbs_natCast, nearest_RQ _ lp _ (by decide) (Int.le_refl _), show ((0 : Int) - lp).toNat = E1 by decide]

/-! ### Quotients -/
theorem log2_quot (A n k : Nat) (hn : 0 < n) (hq : A / n ≠ 0) : (A * 2 ^ k / n).log2 = (A / n).log2 + k := by
  have h1 := Nat.log2_self_le hq
  have h2 : A / n < 2 ^ ((A / n).log2 + 1) := Nat.lt_log2_self
  generalize (A / n).log2 = l at *
  have h3 : 2 ^ l * n ≤ A := by rwa [Nat.le_div_iff_mul_le hn] at h1
  have h4 : A < 2 ^ (l + 1) * n := by rwa [Nat.div_lt_iff_lt_mul hn] at h2
  have p := Nat.two_pow_pos k
  have h5 : 2 ^ (l + k) ≤ A * 2 ^ k / n := by
    rw [Nat.le_div_iff_mul_le hn, Nat.pow_add, Nat.mul_right_comm]
    exact Nat.mul_le_mul_right _ h3
  have h6 : A * 2 ^ k / n < 2 ^ (l + 1 + k) := by
    rw [Nat.div_lt_iff_lt_mul hn, Nat.pow_add, Nat.mul_right_comm]
    exact Nat.mul_lt_mul_of_pos_right h4 p
  have hz : A * 2 ^ k / n ≠ 0 := by have := Nat.two_pow_pos (l + k); omega
  refine Nat.le_antisymm ?_ ((Nat.le_log2 hz).2 h5)
  have := (Nat.log2_lt hz).2 h6
  omega

set_option maxRecDepth 100000 in
theorem div_fin {c x : Nat} (hc : c < I) (hc0 : 0 < c) (hx : x < I) (hx0 : 0 < x) : D.div c x = some (RQ (-3000) (V c * 2 ^ E3) (V x)) := by
  unfold Format.div
  rw [read_pos hc, read_pos hx]
  have hm := mant_pos hc0
  have hn := mant_pos hx0
  have hm2 := mant_lt c
  have hn2 := mant_lt x
  have hec := ex_le hc
  have hex := ex_le hx
  unfold V
  generalize mant c = m at *
  generalize mant x = n at *
  generalize ex c = ec at *
  generalize ex x = e at *
  have lm : m.log2 ≤ 52 := by have := (Nat.log2_lt (by omega)).2 hm2; omega
  have ln : n.log2 ≤ 52 := by have := (Nat.log2_lt (by omega)).2 hn2; omega
  obtain ⟨more, hmore⟩ : ∃ more, 54 + n.log2 - m.log2 = more := ⟨_, rfl⟩
  have hd : Datum.quotient (D.fractionBits + 2) (.number false m (lp + (ec : Int))) (.number false n (lp + (e : Int))) =
      some (.number false (2 * (m * 2 ^ more / n) + (m * 2 ^ more % n != 0).toNat) (lp + (ec : Int) - (lp + (e : Int)) - (more : Int) - 1)) := by
    show (if n = 0 then if m = 0 then none else some (Datum.infinity (false ^^ false)) else some (Datum.number (false ^^ false) (2 * ((m <<< (54 + n.log2 - m.log2)) / n) + ((m <<< (54 + n.log2 - m.log2)) % n != 0).toNat) (lp + (ec : Int) - (lp + (e : Int)) - ((54 + n.log2 - m.log2 : Nat) : Int) - 1))) = _
    rw [if_neg (by omega), hmore, Nat.shiftLeft_eq]
    rfl
  rw [hd]
  show some (D.nearest false _ _) = _
  congr 1
  have hA : 2 ^ (54 + n.log2) ≤ m * 2 ^ more := by
    have h1 : 2 ^ m.log2 ≤ m := Nat.log2_self_le (by omega)
    calc 2 ^ (54 + n.log2) = 2 ^ m.log2 * 2 ^ more := by rw [← Nat.pow_add]; congr 1; omega
      _ ≤ m * 2 ^ more := Nat.mul_le_mul_right _ h1
  have hnl : n < 2 ^ (n.log2 + 1) := Nat.lt_log2_self
  obtain ⟨A, hAA⟩ : ∃ A, m * 2 ^ more = A := ⟨_, rfl⟩
  rw [hAA] at hA ⊢
  have hq : 2 ^ 53 ≤ A / n := by
    rw [Nat.le_div_iff_mul_le hn]
    have : 2 ^ 53 * n ≤ 2 ^ 53 * 2 ^ (n.log2 + 1) := Nat.mul_le_mul_left _ (Nat.le_of_lt hnl)
    rw [← Nat.pow_add, show 53 + (n.log2 + 1) = 54 + n.log2 by omega] at this
    omega
  have hq0 : A / n ≠ 0 := by have := Nat.two_pow_pos 53; omega
  have hl53 : 53 ≤ (A / n).log2 := (Nat.le_log2 hq0).2 hq
  have hb : (A % n != 0).toNat ≤ 1 := Bool.toNat_le _
  have hmag : (2 * (A / n) + (A % n != 0).toNat).log2 = (A / n).log2 + 1 := by
    have h1 := Nat.log2_self_le hq0
    have h2 : A / n < 2 ^ ((A / n).log2 + 1) := Nat.lt_log2_self
    have hz : 2 * (A / n) + (A % n != 0).toNat ≠ 0 := by omega
    generalize (A / n).log2 = l at *
    refine Nat.le_antisymm ?_ ((Nat.le_log2 hz).2 (by rw [Nat.pow_succ]; omega))
    have : (2 * (A / n) + (A % n != 0).toNat).log2 < l + 2 := (Nat.log2_lt hz).2 (by rw [Nat.pow_succ]; omega)
    omega
  rw [nearest_def _ _ (by omega), hmag]
  obtain ⟨k, hk⟩ : ∃ k : Nat, (k : Int) = (ec : Int) - (e : Int) - (more : Int) + 3000 := ⟨((ec : Int) - (e : Int) - (more : Int) + 3000).toNat, by omega⟩
  have hN : m * 2 ^ ec * 2 ^ E3 = A * 2 ^ k * 2 ^ e := by
    have hE : E3 = 3000 := rfl
    rw [← hAA, Nat.mul_assoc, Nat.mul_assoc, Nat.mul_assoc, ← Nat.pow_add, ← Nat.pow_add, ← Nat.pow_add]
    congr 2; omega
  unfold RQ
  rw [hN]
  have hL : (A * 2 ^ k * 2 ^ e / (n * 2 ^ e)).log2 = (A / n).log2 + k := by
    rw [Nat.mul_div_mul_right _ _ (Nat.two_pow_pos _), log2_quot A n k hn hq0]
  rw [hL]
  rw [show lp + (ec : Int) - (lp + (e : Int)) - (more : Int) - 1 + (((A / n).log2 + 1 : Nat) : Int) - 52 = -3000 + (((A / n).log2 + k : Nat) : Int) - 52 by omega]
  generalize hx : max (-3000 + (((A / n).log2 + k : Nat) : Int) - 52) lp = last
  obtain ⟨d, hd2⟩ : ∃ d : Nat, last - (lp + (ec : Int) - (lp + (e : Int)) - (more : Int) - 1) = (d : Int) + 2 := ⟨(last - (lp + (ec : Int) - (lp + (e : Int)) - (more : Int) - 1) - 2).toNat, by omega⟩
  rw [show (lp + (ec : Int) - (lp + (e : Int)) - (more : Int) - 1 - last).toNat = 0 by omega, show (last - (lp + (ec : Int) - (lp + (e : Int)) - (more : Int) - 1)).toNat = d + 2 by omega, show (last - -3000).toNat = d + 1 + k by omega]
  rw [Nat.pow_zero, Nat.mul_one, show 2 ^ (d + 2) = 2 * (2 * 2 ^ d) by rw [Nat.pow_succ, Nat.pow_succ]; omega, rne_sticky A n (2 ^ d) hn (Nat.two_pow_pos _)]
  have := rne_scale A (n * (2 * 2 ^ d)) (2 ^ k * 2 ^ e) (Nat.mul_pos (Nat.two_pow_pos _) (Nat.two_pow_pos _))
  rw [← this]
  have e1 : n * (2 * 2 ^ d) * (2 ^ k * 2 ^ e) = n * 2 ^ e * 2 ^ (d + 1 + k) := by
    rw [Nat.pow_add, Nat.pow_succ]
    simp only [Nat.mul_comm, Nat.mul_left_comm, Nat.mul_assoc]
  rw [e1, Nat.mul_assoc A]

theorem div_inf {c : Nat} (hc : c < I) : D.div c I = some 0 := by
  unfold Format.div
  rw [read_pos hc, read_inf]
  rfl

end Go.Proofs.Ytmchiomkgbeofaa
