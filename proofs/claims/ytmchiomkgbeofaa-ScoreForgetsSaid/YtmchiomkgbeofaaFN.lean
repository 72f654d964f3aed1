/- Rounding to the nearest rises with what is rounded; sums, products with a constant, quotients of a constant. -/
import Derived.Test.YtmchiomkgbeofaaFM
namespace Go.Proofs.Ytmchiomkgbeofaa
open Ieee

/-- a / d, to the nearest, between two to the even one. -/
def up (a d : Nat) : Bool := decide (d < 2 * (a % d)) || (decide (d = 2 * (a % d)) && decide (a / d % 2 = 1))
def rne (a d : Nat) : Nat := a / d + (up a d).toNat

theorem rne_scale (a d k : Nat) (hk : 0 < k) : rne (a * k) (d * k) = rne a d := by
  unfold rne up
  rw [Nat.mul_div_mul_right _ _ hk, Nat.mul_mod_mul_right]
  have e1 : (d * k < 2 * (a % d * k)) ↔ (d < 2 * (a % d)) := by
    rw [← Nat.mul_assoc]; exact Nat.mul_lt_mul_right hk
  have e2 : (d * k = 2 * (a % d * k)) ↔ (d = 2 * (a % d)) := by
    rw [← Nat.mul_assoc]; exact Nat.mul_left_inj (by omega)
  simp only [e1, e2]

/-- At most k just if it is at most k + 1/2, or less where k is odd. -/
theorem rne_le_iff (a d k : Nat) (hd : 0 < d) : rne a d ≤ k ↔ (2 * a < (2 * k + 1) * d ∨ (2 * a = (2 * k + 1) * d ∧ k % 2 = 0)) := by
  have h := Nat.div_add_mod a d
  have hr := Nat.mod_lt a hd
  unfold rne up
  generalize a / d = q at *
  generalize a % d = r at *
  subst h
  rcases Nat.lt_trichotomy q k with hq | hq | hq
  · have h1 : d * (q + 1) ≤ d * k := Nat.mul_le_mul_left _ hq
    rw [Nat.mul_add, Nat.mul_one] at h1
    have h2 : (2 * k + 1) * d = 2 * (d * k) + d := by rw [Nat.add_mul, Nat.one_mul, Nat.mul_assoc, Nat.mul_comm k d]
    rw [h2]
    constructor
    · intro _
      left; omega
    · intro _
      have : (decide (d < 2 * r) || (decide (d = 2 * r) && decide (q % 2 = 1))).toNat ≤ 1 := Bool.toNat_le _
      omega
  · subst hq
    have h2 : (2 * q + 1) * d = 2 * (d * q) + d := by rw [Nat.add_mul, Nat.one_mul, Nat.mul_assoc, Nat.mul_comm q d]
    rw [h2]
    by_cases h3 : d < 2 * r
    · simp [h3]; omega
    · by_cases h4 : d = 2 * r
      · by_cases h5 : q % 2 = 1
        · simp [h4, h5]; omega
        · simp [h4, h5]; omega
      · simp [h3, h4]; omega
  · have h1 : d * (k + 1) ≤ d * q := Nat.mul_le_mul_left _ hq
    rw [Nat.mul_add, Nat.mul_one] at h1
    have h2 : (2 * k + 1) * d = 2 * (d * k) + d := by rw [Nat.add_mul, Nat.one_mul, Nat.mul_assoc, Nat.mul_comm k d]
    rw [h2]
    constructor
    · intro h; omega
    · intro h; omega

theorem rne_mono {a d a' d' : Nat} (hd : 0 < d) (hd' : 0 < d') (h : a * d' ≤ a' * d) : rne a d ≤ rne a' d' := by
  have h1 := (rne_le_iff a' d' (rne a' d') hd').1 (Nat.le_refl _)
  refine (rne_le_iff a d _ hd).2 ?_
  generalize rne a' d' = k at *
  have hx : 2 * a * d' ≤ 2 * a' * d := by rw [Nat.mul_assoc, Nat.mul_assoc]; omega
  rcases h1 with h1 | ⟨h1, h2⟩
  · left
    have h3 : 2 * a' * d < (2 * k + 1) * d' * d := Nat.mul_lt_mul_of_pos_right h1 hd
    have h4 : 2 * a * d' < (2 * k + 1) * d * d' := by rw [Nat.mul_right_comm (2 * k + 1) d d']; omega
    exact Nat.lt_of_mul_lt_mul_right h4
  · rw [h1, Nat.mul_right_comm (2 * k + 1) d' d] at hx
    have h3 := Nat.le_of_mul_le_mul_right hx hd'
    rcases Nat.eq_or_lt_of_le h3 with h4 | h4
    · exact .inr ⟨h4, h2⟩
    · exact .inl h4

theorem rne_one (a : Nat) : rne a 1 = a := by simp [rne, up, Nat.mod_one]
theorem rne_zero (d : Nat) : rne 0 d = 0 := by
  unfold rne up
  simp only [Nat.zero_div, Nat.zero_mod]
  simp
theorem rne_ge {a d k : Nat} (hd : 0 < d) (h : k * d ≤ a) : k ≤ rne a d := by
  have := rne_mono (a := k) (d := 1) (a' := a) (d' := d) (by decide) hd (by omega)
  rwa [rne_one] at this
theorem rne_le {a d k : Nat} (hd : 0 < d) (h : a ≤ k * d) : rne a d ≤ k := by
  have := rne_mono (a := a) (d := d) (a' := k) (d' := 1) hd (by decide) (by omega)
  rwa [rne_one] at this

/-- What is left over, told from nothing. -/
theorem rne_sticky (num den d : Nat) (hden : 0 < den) (hd : 0 < d) : rne (2 * (num / den) + (num % den != 0).toNat) (2 * (2 * d)) = rne num (den * (2 * d)) := by
  refine Nat.le_antisymm ?_ ?_
  all_goals
    refine (rne_le_iff _ _ _ (by first | omega | exact Nat.mul_pos hden (by omega))).2 ?_
  · have h1 := (rne_le_iff num (den * (2 * d)) _ (Nat.mul_pos hden (by omega))).1 (Nat.le_refl _)
    generalize rne num (den * (2 * d)) = k at *
    have h := Nat.div_add_mod num den
    have hr := Nat.mod_lt num hden
    generalize num / den = q at *
    generalize num % den = r at *
    subst h
    have e1 : (2 * k + 1) * (den * (2 * d)) = 2 * (den * ((2 * k + 1) * d)) := by
      simp only [Nat.mul_comm, Nat.mul_left_comm, Nat.mul_assoc]
    have e2 : (2 * k + 1) * (2 * (2 * d)) = 4 * ((2 * k + 1) * d) := by
      rw [show 2 * (2 * d) = 4 * d by omega, Nat.mul_left_comm]
    rw [e1] at h1
    rw [e2]
    generalize (2 * k + 1) * d = g at *
    have key : den * q + r < den * g ↔ q < g := by
      constructor
      · intro h; exact Nat.lt_of_mul_lt_mul_left (a := den) (by omega)
      · intro h
        have := Nat.mul_le_mul_left den (show q + 1 ≤ g from h)
        rw [Nat.mul_add, Nat.mul_one] at this
        omega
    rcases h1 with h1 | ⟨h1, h2⟩
    · left
      have := key.1 (by omega)
      have hb : (r != 0).toNat ≤ 1 := Bool.toNat_le _
      omega
    · right
      refine ⟨?_, h2⟩
      have h3 : q = g := by
        rcases Nat.lt_trichotomy q g with h | h | h
        · have := key.2 h; omega
        · exact h
        · have := Nat.mul_le_mul_left den (show g + 1 ≤ q from h)
          rw [Nat.mul_add, Nat.mul_one] at this
          omega
      subst h3
      have h4 : r = 0 := by omega
      subst h4
      simp; omega
  · have h1 := (rne_le_iff (2 * (num / den) + (num % den != 0).toNat) (2 * (2 * d)) _ (by omega)).1 (Nat.le_refl _)
    generalize rne (2 * (num / den) + (num % den != 0).toNat) (2 * (2 * d)) = k at *
    have h := Nat.div_add_mod num den
    have hr := Nat.mod_lt num hden
    generalize num / den = q at *
    generalize num % den = r at *
    subst h
    have e1 : (2 * k + 1) * (den * (2 * d)) = 2 * (den * ((2 * k + 1) * d)) := by
      simp only [Nat.mul_comm, Nat.mul_left_comm, Nat.mul_assoc]
    have e2 : (2 * k + 1) * (2 * (2 * d)) = 4 * ((2 * k + 1) * d) := by
      rw [show 2 * (2 * d) = 4 * d by omega, Nat.mul_left_comm]
    rw [e2] at h1
    rw [e1]
    generalize (2 * k + 1) * d = g at *
    rcases h1 with h1 | ⟨h1, h2⟩
    · left
      have h3 : q < g := by omega
      have := Nat.mul_le_mul_left den (show q + 1 ≤ g from h3)
      rw [Nat.mul_add, Nat.mul_one] at this
      omega
    · right
      refine ⟨?_, h2⟩
      by_cases h4 : r = 0
      · subst h4
        have h3 : q = g := by simp at h1; omega
        subst h3; omega
      · exfalso
        have hb : (r != 0).toNat = 1 := by simp [h4]
        omega

theorem cut_eq (n drop : Nat) : Toward.even.cut false n drop = rne n (2 ^ drop) := by
  have e : ∀ g : Nat, g = 1 <<< min drop (n.log2 + 2) → n / g + (decide (g < 2 * (n % g)) || (g == 2 * (n % g) && (n / g % 2 == 1))).toNat = rne n g := by
    intro g _
    unfold rne up
    congr 2
  show n / (1 <<< min drop (n.log2 + 2)) + (decide (1 <<< min drop (n.log2 + 2) < 2 * (n % 1 <<< min drop (n.log2 + 2))) || (1 <<< min drop (n.log2 + 2) == 2 * (n % 1 <<< min drop (n.log2 + 2)) && (n / 1 <<< min drop (n.log2 + 2) % 2 == 1))).toNat = _
  rw [e _ rfl]
  have e2 : ∀ k, 1 <<< k = 2 ^ k := fun k => by rw [Nat.shiftLeft_eq, Nat.one_mul]
  rw [e2]
  rcases Nat.le_total drop (n.log2 + 2) with h | h
  · rw [Nat.min_eq_left h]
  · rw [Nat.min_eq_right h]
    have hn : n < 2 ^ (n.log2 + 1) := Nat.lt_log2_self
    have z : ∀ k, n.log2 + 2 ≤ k → rne n (2 ^ k) = 0 := fun k hk => by
      have h1 : 2 ^ (n.log2 + 2) ≤ 2 ^ k := Nat.pow_le_pow_right (by decide) hk
      have h2 : 2 ^ (n.log2 + 2) = 2 * 2 ^ (n.log2 + 1) := by rw [Nat.pow_succ, Nat.mul_comm]
      have := (rne_le_iff n (2 ^ k) 0 (Nat.two_pow_pos _)).2 (.inl (by omega))
      omega
    rw [z _ (Nat.le_refl _), z _ h]

end Go.Proofs.Ytmchiomkgbeofaa
