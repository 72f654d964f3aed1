/- Floats: their order by a key. -/
import GoSem.Core.Float
import Ieee.Arith
namespace Go.Proofs.Ytmchiomkgbeofaa
open Ieee

abbrev D : Format := Ieee.double
def lp : Int := -1074
theorem lp_eq : D.leastPlace = lp := by decide
theorem bin_eq : D.binade = 4503599627370496 := by decide
theorem inf_eq : D.infRung = 9218868437227405312 := by decide
theorem sw_eq : D.signWeight = 9223372036854775808 := by decide

/-! ### The key -/
def keyG (g : Int) : Datum → Option Int
  | .nan _ _ => none
  | .infinity s => some (if s then -g else g)
  | .number s m i => some (signed s m (i - lp).toNat)

/-- What a word stands for. -/
inductive Fit : Datum → Prop
  | nan (s t) : Fit (.nan s t)
  | inf (s) : Fit (.infinity s)
  | num (s m) (k : Nat) (hm : m < 2 ^ 53) (hk : k ≤ 2046) : Fit (.number s m (lp + k))

theorem fit_read (x : Nat) : Fit (D.read x) := by
  unfold Format.read
  rw [bin_eq, inf_eq, sw_eq, lp_eq]
  dsimp only
  generalize (x / 9223372036854775808 % 2 == 1) = s
  have hr : x % 9223372036854775808 < 9223372036854775808 := Nat.mod_lt _ (by decide)
  generalize x % 9223372036854775808 = r at *
  split
  · have := Fit.num s r 0 (by omega) (by omega)
    simpa using this
  · split
    · exact Fit.num s _ (r / 4503599627370496 - 1) (by omega) (by omega)
    · split
      · exact Fit.inf s
      · exact Fit.nan s _

theorem signed_scale (s : Bool) (m a b : Nat) : signed s m (a + b) = signed s m a * ((2 ^ b : Nat) : Int) := by
  have h : m <<< (a + b) = m <<< a * 2 ^ b := by rw [Nat.shiftLeft_eq, Nat.shiftLeft_eq, Nat.pow_add, Nat.mul_assoc]
  unfold signed
  rw [h]
  generalize m <<< a = z
  generalize 2 ^ b = y
  cases s
  · simp only [Bool.false_eq_true, if_false]; rw [Int.natCast_mul]
  · simp only [if_true]; rw [Int.natCast_mul, Int.neg_mul]

theorem compare_scale (x y : Int) (k : Nat) (hk : 0 < k) : compare (x * (k : Int)) (y * (k : Int)) = compare x y := by
  have hk' : (0 : Int) < (k : Int) := by omega
  rcases Int.lt_trichotomy x y with h | h | h
  · have h2 : x * (k : Int) < y * (k : Int) := Int.mul_lt_mul_of_pos_right h hk'
    rw [Int.compare_eq_lt.2 h, Int.compare_eq_lt.2 h2]
  · subst h; rw [Int.compare_eq_eq.2 rfl, Int.compare_eq_eq.2 rfl]
  · have h2 : y * (k : Int) < x * (k : Int) := Int.mul_lt_mul_of_pos_right h hk'
    rw [Int.compare_eq_gt.2 h, Int.compare_eq_gt.2 h2]

def cmpO : Option Int → Option Int → Option Ordering
  | some a, some b => some (compare a b)
  | _, _ => none

theorem order_key (g : Int) (hg : 0 < g) (hs : ∀ s m k, m < 2 ^ 53 → k ≤ 2046 → -g < signed s m k ∧ signed s m k < g) {x y : Datum} (hx : Fit x) (hy : Fit y) : x.order y = cmpO (keyG g x) (keyG g y) := by
  cases hx with
  | nan s t => rfl
  | inf s =>
    cases hy with
    | nan s' t' => rfl
    | inf s' =>
      show some (compare s'.toNat s.toNat) = some (compare (if s then -g else g) (if s' then -g else g))
      cases s <;> cases s' <;> simp only [if_true, if_false, Bool.false_eq_true, Bool.toNat]
      · rw [Int.compare_eq_eq.2 rfl]; rfl
      · rw [Int.compare_eq_gt.2 (by omega)]; rfl
      · rw [Int.compare_eq_lt.2 (by omega)]; rfl
      · rw [Int.compare_eq_eq.2 rfl]; rfl
    | num s' n j hn hj =>
      have h := hs s' n j hn hj
      have e : (lp + (j : Int) - lp).toNat = j := by omega
      show some (if s then Ordering.lt else .gt) = some (compare (if s then -g else g) (signed s' n (lp + (j : Int) - lp).toNat))
      rw [e]
      cases s <;> simp only [if_true, if_false, Bool.false_eq_true]
      · rw [Int.compare_eq_gt.2 h.2]
      · rw [Int.compare_eq_lt.2 h.1]
  | num s m i hm hi =>
    have e : (lp + (i : Int) - lp).toNat = i := by omega
    cases hy with
    | nan s' t' => rfl
    | inf s' =>
      have h := hs s m i hm hi
      show some (if s' then Ordering.gt else .lt) = some (compare (signed s m (lp + (i : Int) - lp).toNat) (if s' then -g else g))
      rw [e]
      cases s' <;> simp only [if_true, if_false, Bool.false_eq_true]
      · rw [Int.compare_eq_lt.2 h.2]
      · rw [Int.compare_eq_gt.2 h.1]
    | num s' n j hn hj =>
      have e' : (lp + (j : Int) - lp).toNat = j := by omega
      show some (compare (signed s m (lp + (i : Int) - min (lp + (i : Int)) (lp + (j : Int))).toNat) (signed s' n (lp + (j : Int) - min (lp + (i : Int)) (lp + (j : Int))).toNat)) =
        some (compare (signed s m (lp + (i : Int) - lp).toNat) (signed s' n (lp + (j : Int) - lp).toNat))
      rw [e, e']
      have e1 : (lp + (i : Int) - min (lp + (i : Int)) (lp + (j : Int))).toNat = i - min i j := by omega
      have e2 : (lp + (j : Int) - min (lp + (i : Int)) (lp + (j : Int))).toNat = j - min i j := by omega
      rw [e1, e2]
      have h1 := signed_scale s m (i - min i j) (min i j)
      have h2 := signed_scale s' n (j - min i j) (min i j)
      rw [show i - min i j + min i j = i by omega] at h1
      rw [show j - min i j + min i j = j by omega] at h2
      rw [h1, h2, compare_scale _ _ _ (Nat.two_pow_pos _)]

theorem big_ex : ∃ g : Int, 0 < g ∧ ∀ s m k, m < 2 ^ 53 → k ≤ 2046 → -g < signed s m k ∧ signed s m k < g := by
  obtain ⟨e, he⟩ : ∃ e : Nat, 53 + 2046 ≤ e := ⟨_, Nat.le_refl _⟩
  have hp : 0 < 2 ^ e := Nat.two_pow_pos _
  refine ⟨((2 ^ e : Nat) : Int), by omega, fun s m k hm hk => ?_⟩
  have h1 : m <<< k < 2 ^ e := by
    rw [Nat.shiftLeft_eq]
    exact Nat.lt_of_lt_of_le (Nat.mul_lt_mul_of_pos_right hm (Nat.two_pow_pos _)) (by rw [← Nat.pow_add]; exact Nat.pow_le_pow_right (by decide) (by omega))
  unfold signed
  generalize m <<< k = z at *
  generalize 2 ^ e = g at *
  cases s <;> simp only [if_true, if_false, Bool.false_eq_true] <;> omega

/-! ### Words that are not below zero -/
def mant (x : Nat) : Nat := if x < 4503599627370496 then x else 4503599627370496 + x % 4503599627370496
def ex (x : Nat) : Nat := x / 4503599627370496 - 1
def V (x : Nat) : Nat := mant x * 2 ^ ex x
def I : Nat := 9218868437227405312

theorem mant_lt (x : Nat) : mant x < 2 ^ 53 := by unfold mant; split <;> omega
theorem ex_le {x : Nat} (h : x < I) : ex x ≤ 2046 := by unfold ex; unfold I at h; omega
theorem mant_pos {x : Nat} (h : 0 < x) : 0 < mant x := by unfold mant; split <;> omega

theorem read_pos {x : Nat} (h : x < I) : D.read x = .number false (mant x) (lp + (ex x : Nat)) := by
  unfold I at h
  unfold Format.read mant ex
  rw [bin_eq, inf_eq, sw_eq, lp_eq]
  dsimp only
  have e1 : (x / 9223372036854775808 % 2 == 1) = false := by
    have : x / 9223372036854775808 = 0 := Nat.div_eq_of_lt (by omega)
    rw [this]; rfl
  rw [e1, Nat.mod_eq_of_lt (show x < 9223372036854775808 by omega)]
  by_cases h1 : x < 4503599627370496
  · rw [if_pos h1, if_pos h1]
    rw [show x / 4503599627370496 - 1 = 0 by omega]
    rfl
  · rw [if_neg h1, if_neg h1, if_pos h]
theorem read_inf : D.read I = .infinity false := by decide

theorem V_step (x : Nat) : V x < V (x + 1) := by
  unfold V mant ex
  by_cases h1 : x + 1 < 4503599627370496
  · rw [if_pos (by omega), if_pos h1, show x / 4503599627370496 - 1 = 0 by omega, show (x + 1) / 4503599627370496 - 1 = 0 by omega]
    omega
  · by_cases h2 : x < 4503599627370496
    · rw [if_pos h2, if_neg h1, show x / 4503599627370496 - 1 = 0 by omega, show (x + 1) / 4503599627370496 - 1 = 0 by omega]
      omega
    · rw [if_neg h2, if_neg h1]
      obtain ⟨q, hq⟩ : ∃ q, x / 4503599627370496 = q + 1 := ⟨x / 4503599627370496 - 1, by omega⟩
      by_cases h3 : x % 4503599627370496 + 1 < 4503599627370496
      · rw [show (x + 1) / 4503599627370496 = q + 1 by omega, hq, show (x + 1) % 4503599627370496 = x % 4503599627370496 + 1 by omega]
        exact Nat.mul_lt_mul_of_pos_right (by omega) (Nat.two_pow_pos _)
      · rw [show (x + 1) / 4503599627370496 = q + 1 + 1 by omega, hq, show (x + 1) % 4503599627370496 = 0 by omega]
        rw [show q + 1 + 1 - 1 = q + 1 by omega, show q + 1 - 1 = q by omega, Nat.pow_succ]
        have h4 : (4503599627370496 + x % 4503599627370496) * 2 ^ q < 9007199254740992 * 2 ^ q := Nat.mul_lt_mul_of_pos_right (by omega) (Nat.two_pow_pos _)
        generalize 2 ^ q = z at *
        omega
theorem V_lt {x y : Nat} (h : x < y) : V x < V y := by
  induction y with
  | zero => omega
  | succ y ih =>
    rcases Nat.lt_or_ge x y with h1 | h1
    · exact Nat.lt_trans (ih h1) (V_step y)
    · obtain rfl : x = y := by omega
      exact V_step x
theorem V_le {x y : Nat} (h : x ≤ y) : V x ≤ V y := by
  rcases Nat.eq_or_lt_of_le h with rfl | h1
  · exact Nat.le_refl _
  · exact Nat.le_of_lt (V_lt h1)

theorem compare_nat (x y : Nat) : compare (x : Int) (y : Int) = compare x y := by
  rcases Nat.lt_trichotomy x y with h | h | h
  · rw [Int.compare_eq_lt.2 (by omega), Nat.compare_eq_lt.2 h]
  · subst h; rw [Int.compare_eq_eq.2 rfl, Nat.compare_eq_eq.2 rfl]
  · rw [Int.compare_eq_gt.2 (by omega), Nat.compare_eq_gt.2 h]
theorem compare_V (x y : Nat) : compare (V x) (V y) = compare x y := by
  rcases Nat.lt_trichotomy x y with h | h | h
  · rw [Nat.compare_eq_lt.2 (V_lt h), Nat.compare_eq_lt.2 h]
  · subst h; rw [Nat.compare_eq_eq.2 rfl, Nat.compare_eq_eq.2 rfl]
  · rw [Nat.compare_eq_gt.2 (V_lt h), Nat.compare_eq_gt.2 h]

/-- Of words that are not below zero the greater number is the greater word. -/
theorem order_pos {x y : Nat} (hx : x ≤ I) (hy : y ≤ I) : D.order x y = some (compare x y) := by
  unfold Format.order
  rcases Nat.eq_or_lt_of_le hx with rfl | hx
  · rw [read_inf]
    rcases Nat.eq_or_lt_of_le hy with rfl | hy
    · rw [read_inf, Nat.compare_eq_eq.2 rfl]; rfl
    · rw [read_pos hy, Nat.compare_eq_gt.2 hy]; rfl
  · rw [read_pos hx]
    rcases Nat.eq_or_lt_of_le hy with rfl | hy
    · rw [read_inf, Nat.compare_eq_lt.2 hx]; rfl
    · rw [read_pos hy]
      obtain ⟨g, h1, h2⟩ := big_ex
      rw [order_key g h1 h2 (.num _ _ _ (mant_lt x) (ex_le hx)) (.num _ _ _ (mant_lt y) (ex_le hy))]
      show some (compare (signed false (mant x) (lp + ((ex x : Nat) : Int) - lp).toNat) (signed false (mant y) (lp + ((ex y : Nat) : Int) - lp).toNat)) = _
      rw [show (lp + ((ex x : Nat) : Int) - lp).toNat = ex x by omega, show (lp + ((ex y : Nat) : Int) - lp).toNat = ex y by omega]
      show some (compare ((mant x <<< ex x : Nat) : Int) ((mant y <<< ex y : Nat) : Int)) = _
      rw [Nat.shiftLeft_eq, Nat.shiftLeft_eq]
      show some (compare ((V x : Nat) : Int) ((V y : Nat) : Int)) = _
      rw [compare_nat, compare_V]

theorem kw_ex : ∃ kw : Nat → Option Int, ∀ x y, D.order x y = cmpO (kw x) (kw y) := by
  obtain ⟨g, h1, h2⟩ := big_ex
  exact ⟨fun x => keyG g (D.read x), fun x y => order_key g h1 h2 (fit_read x) (fit_read y)⟩

end Go.Proofs.Ytmchiomkgbeofaa
