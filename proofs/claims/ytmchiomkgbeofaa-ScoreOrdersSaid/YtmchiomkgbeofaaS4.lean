/- lives; the three laws, walked. -/
import Derived.Test.YtmchiomkgbeofaaS3
namespace Go.Proofs.Ytmchiomkgbeofaa
open Go Ieee

theorem guess_one (w : World) : Calls Try.prog 10 #[.int .i64 0, .int .i64 9] w fun e w' => e = .returned (fl one) ∧ w' = w := by
  refine calls_run (args := [_, _]) agrees od0 100 Try.func10 rfl ?_
  refine ok_calcB rfl false (by decide) ?_
  refine ok_brF rfl rfl ?_
  refine ok_brF rfl rfl ?_
  refine ok_brF rfl rfl ?_
  refine ok_calcB rfl false (by decide) ?_
  refine ok_brF rfl rfl ?_
  refine ok_brF rfl rfl ?_
  refine ok_valS rfl _ rfl (run_toF 9 _) ?_
  refine ok_valS rfl _ rfl (run_fadd _ _ _ _ (r := 4621819117588971520) (by decide +kernel)) ?_
  refine ok_valS rfl _ rfl (run_toF 0 _) ?_
  refine ok_valS rfl _ rfl (run_fsub _ _ _ _ (r := 4621819117588971520) (by decide +kernel)) ?_
  refine ok_valS rfl _ rfl (run_fquo _ _ _ _ (r := one) (by decide +kernel)) ?_
  exact ok_finR rfl (fin1R rfl _ rfl ⟨rfl, rfl⟩)

theorem cost_inf (w : World) : Calls Try.prog 9 #[.int .i64 1, .int .i64 0, fl 0] w fun e w' => e = .returned (fl I) ∧ w' = w := by
  have := cost_any 1 0 0 (by decide) (by decide) (by decide) w
  rwa [show costB 1 0 0 = I by decide +kernel] at this
theorem cost_221 (w : World) : Calls Try.prog 9 #[.int .i64 1, .int .i64 2, fl half] w fun e w' => e = .returned (fl 4641979762795872256) ∧ w' = w := by
  have := cost_any 1 2 half (by decide) (by decide) (by decide) w
  rwa [show costB 1 2 half = 4641979762795872256 by decide +kernel] at this
theorem weight_64 (w : World) : Calls Try.prog 8 #[.int .i64 64] w fun e w' => e = .returned (fl half) ∧ w' = w := by
  have := weight_any 64 (by decide) w
  rwa [show wB 64 = half by decide +kernel] at this
theorem weight_32 (w : World) : Calls Try.prog 8 #[.int .i64 32] w fun e w' => e = .returned (fl 4604930618986332160) ∧ w' = w := by
  have := weight_any 32 (by decide) w
  rwa [show wB 32 = 4604930618986332160 by decide +kernel] at this
theorem clean_nan (w : World) : Calls Try.prog 12 #[fl nanW] w fun e w' => e = .returned (fl 0) ∧ w' = w := by
  have := clean_any nanW w
  rwa [show cleanB nanW = 0 by decide +kernel] at this
theorem less_nan (w : World) : Calls Try.prog 7 #[fl nanW, fl one] w fun e w' => e = .returned (.bool false) ∧ w' = w := by
  have := less_any nanW one w
  rwa [show lessB nanW one = false by decide +kernel] at this
theorem less_one (w : World) : Calls Try.prog 7 #[fl one, fl nanW] w fun e w' => e = .returned (.bool true) ∧ w' = w := by
  have := less_any one nanW w
  rwa [show lessB one nanW = true by decide +kernel] at this

theorem feqT {P : Program} (t : TypeId) (X Y : Operand) (x : Nat) (w : World) (h : (D.order x x == some .eq) = true) : (do eqGuard .eql t X Y (fl x) (fl x); binOp .eql t (fl x) (fl x) : Sem Value).run P w = .ok (.bool true) w := by
  rw [run_feq, h]

set_option maxRecDepth 10000 in
theorem lives_any (w : World) : Calls Try.prog 6 #[] w fun e w' => e = .returned (.bool true) ∧ w' = w := by
  refine calls_run (args := []) agrees od0 100 Try.func6 rfl ?_
  refine ok_callS rfl (by kernel_rfl) (weight_64 _) ?_
  refine ok_valS rfl _ rfl (feqT _ _ _ half _ (by decide +kernel)) ?_
  refine ok_brT rfl rfl ?_
  refine ok_callS rfl (by kernel_rfl) (weight_32 _) ?_
  refine ok_brT rfl rfl ?_
  refine ok_valS rfl _ rfl (feqT _ _ _ 4604930618986332160 _ (by decide +kernel)) ?_
  refine ok_brT rfl rfl ?_
  refine ok_brT rfl rfl ?_
  refine ok_callS rfl (by kernel_rfl) (guess_one _) ?_
  refine ok_brT rfl rfl ?_
  refine ok_valS rfl _ rfl (feqT _ _ _ one _ (by decide +kernel)) ?_
  refine ok_brT rfl rfl ?_
  refine ok_brT rfl rfl ?_
  refine ok_callS rfl (by kernel_rfl) (cost_inf _) ?_
  refine ok_brT rfl rfl ?_
  refine ok_callS rfl (by kernel_rfl) (isInf_inf _) ?_
  refine ok_brT rfl rfl ?_
  refine ok_brT rfl rfl ?_
  refine ok_callS rfl (by kernel_rfl) (cost_221 _) ?_
  refine ok_brT rfl rfl ?_
  refine ok_valS rfl _ rfl (feqT _ _ _ 4641979762795872256 _ (by decide +kernel)) ?_
  refine ok_brT rfl rfl ?_
  refine ok_brT rfl rfl ?_
  refine ok_callS rfl (by kernel_rfl) (nan_any _) ?_
  refine ok_brT rfl rfl ?_
  refine ok_callS rfl (by kernel_rfl) (clean_nan _) ?_
  refine ok_brT rfl rfl ?_
  refine ok_valS rfl _ rfl (feqT _ _ _ 0 _ (by decide +kernel)) ?_
  refine ok_brT rfl rfl ?_
  refine ok_brT rfl rfl ?_
  refine ok_callS rfl (by kernel_rfl) (nan_any _) ?_
  refine ok_brT rfl rfl ?_
  refine ok_callS rfl (by kernel_rfl) (less_nan _) ?_
  refine ok_brT rfl rfl ?_
  refine ok_calcB rfl true rfl ?_
  refine ok_brT rfl rfl ?_
  refine ok_brT rfl rfl ?_
  refine ok_callS rfl (by kernel_rfl) (nan_any _) ?_
  refine ok_brT rfl rfl ?_
  refine ok_callS rfl (by kernel_rfl) (less_one _) ?_
  refine ok_brT rfl rfl ?_
  exact ok_finR rfl (fin1R rfl _ rfl ⟨rfl, rfl⟩)

/-! ### Weights fall -/
def nB (n : Nat) : Nat := if 64 < n / 64 then 0 else W (n / 64) (n % 64)
theorem W_step1 : ∀ h, h ≤ 64 → ∀ r, r < 63 → Nat.ble (W h (r + 1)) (W h r) = true := by decide +kernel
theorem W_step2 : ∀ h, h < 64 → Nat.ble (W (h + 1) 0) (W h 63) = true := by decide +kernel
theorem nB_step (n : Nat) (hn : n < 4160) : nB (n + 1) ≤ nB n := by
  unfold nB
  rw [if_neg (by omega : ¬ 64 < n / 64)]
  by_cases h1 : n % 64 < 63
  · rw [if_neg (by omega), show (n + 1) / 64 = n / 64 by omega, show (n + 1) % 64 = n % 64 + 1 by omega]
    exact Nat.le_of_ble_eq_true (W_step1 _ (by omega) _ h1)
  · rw [show (n + 1) / 64 = n / 64 + 1 by omega, show (n + 1) % 64 = 0 by omega, show n % 64 = 63 by omega]
    by_cases h2 : n / 64 < 64
    · rw [if_neg (by omega)]
      exact Nat.le_of_ble_eq_true (W_step2 _ h2)
    · rw [if_pos (by omega)]
      exact Nat.zero_le _
theorem nB_top : nB 0 = one := by decide +kernel
theorem nB_le {m n : Nat} (h : m ≤ n) : nB n ≤ nB m := by
  induction n with
  | zero => obtain rfl : m = 0 := by omega
            exact Nat.le_refl _
  | succ n ih =>
    rcases Nat.lt_or_ge n m with h1 | h1
    · obtain rfl : m = n + 1 := by omega
      exact Nat.le_refl _
    · refine Nat.le_trans ?_ (ih h1)
      rcases Nat.lt_or_ge n 4160 with h2 | h2
      · exact nB_step n h2
      · have : nB (n + 1) = 0 := if_pos (by omega)
        omega
theorem wB_nat (a : Int) : wB a = nB a.toNat := by
  unfold wB nB
  by_cases h : a < 0
  · rw [if_pos h, show a.toNat = 0 by omega]
    exact nB_top.symm
  · rw [if_neg h, show (a / 64).toNat = a.toNat / 64 by omega, show (a % 64).toNat = a.toNat % 64 by omega]
    by_cases h2 : 64 < a / 64
    · rw [if_pos h2, if_pos (by omega)]
    · rw [if_neg h2, if_neg (by omega)]
theorem wB_le {a b : Int} (h : a ≤ b) : wB b ≤ wB a ∧ wB a ≤ one := by
  rw [wB_nat, wB_nat]
  refine ⟨nB_le (by omega), ?_⟩
  rw [← nB_top]; exact nB_le (Nat.zero_le _)

end Go.Proofs.Ytmchiomkgbeofaa
