/- Ldexp of one, infinities; Weight, Guess, Cost; lives. -/
import Derived.Test.YtmchiomkgbeofaaS1
namespace Go.Proofs.Ytmchiomkgbeofaa
open Go

def nanW : Nat := 9221120237041090561
theorem nan_any (w : World) : Calls Try.prog 13 #[] w fun e w' => e = .returned (fl nanW) ∧ w' = w := by
  refine calls_run (args := []) agrees od0 60 Try.func13 rfl ?_
  refine ok_callX rfl (from_any nanW _) ?_
  exact ok_finR rfl (fin1R rfl _ rfl ⟨rfl, rfl⟩)
theorem inf_any (w : World) : Calls Try.prog 16 #[.int .i64 1] w fun e w' => e = .returned (fl I) ∧ w' = w := by
  refine calls_run (args := [_]) agrees od0 60 Try.func16 rfl ?_
  refine ok_calcB rfl true (by decide) ?_
  refine ok_brT rfl rfl ?_
  refine ok_callX rfl (from_any I _) ?_
  exact ok_finR rfl (fin1R rfl _ rfl ⟨rfl, rfl⟩)
theorem abs_one (w : World) : Calls Try.prog 17 #[fl one] w fun e w' => e = .returned (fl one) ∧ w' = w := by
  refine calls_run (args := [_]) agrees od0 60 Try.func17 rfl ?_
  refine ok_callX rfl (bits_any one _) ?_
  refine ok_calc rfl ((one : Nat) : Int) (by decide +kernel) ?_
  refine ok_callX rfl (from_any one _) ?_
  exact ok_finR rfl (fin1R rfl _ rfl ⟨rfl, rfl⟩)
theorem isInf_one (w : World) : Calls Try.prog 11 #[fl one, .int .i64 0] w fun e w' => e = .returned (.bool false) ∧ w' = w := by
  refine calls_run (args := [_, _]) agrees od0 60 Try.func11 rfl ?_
  refine ok_calcB rfl true (by decide) ?_
  refine ok_brT rfl rfl ?_
  refine ok_callS rfl (by kernel_rfl) (abs_one _) ?_
  refine ok_valS rfl _ rfl (run_fgt _ _ _ _ one 9218868437227405311) ?_
  exact ok_finR rfl (fin1R rfl _ (by show Value.bool _ = .bool false; congr 1) ⟨rfl, rfl⟩)
theorem isInf_inf (w : World) : Calls Try.prog 11 #[fl I, .int .i64 1] w fun e w' => e = .returned (.bool true) ∧ w' = w := by
  refine calls_run (args := [_, _]) agrees od0 60 Try.func11 rfl ?_
  refine ok_calcB rfl false (by decide) ?_
  refine ok_brF rfl rfl ?_
  refine ok_calcB rfl false (by decide) ?_
  refine ok_brF rfl rfl ?_
  refine ok_valS rfl _ rfl (run_fgt _ _ _ _ I 9218868437227405311) ?_
  exact ok_finR rfl (fin1R rfl _ (by show Value.bool _ = .bool true; congr 1) ⟨rfl, rfl⟩)
theorem normal_one (w : World) : Calls Try.prog 22 #[fl one] w fun e w' => e = .returned (.tuple #[fl one, .int .i64 0]) ∧ w' = w := by
  refine calls_run (args := [_]) agrees od0 60 Try.func22 rfl ?_
  refine ok_callS rfl (by kernel_rfl) (abs_one _) ?_
  refine ok_valS rfl _ rfl (run_flt _ _ _ _ one 4503599627370496) ?_
  refine ok_brF rfl (by decide +kernel) ?_
  exact ok_finR rfl (fin2R rfl _ _ rfl rfl ⟨rfl, rfl⟩)

def ldB (h : Nat) : Nat := (1023 - h) * 4503599627370496
theorem ld_or : ∀ h, h ≤ 64 → bits .or .u64 0 (((1023 - h) * 4503599627370496 : Nat) : Int) = (((1023 - h) * 4503599627370496 : Nat) : Int) := by decide +kernel
theorem ld_mul : ∀ h, h ≤ 64 → D.mul one (ldB h) = some (ldB h) := by decide +kernel

theorem i64w {x y : Int} (h : x = y ∧ -9223372036854775808 ≤ x ∧ x ≤ 9223372036854775807) : IntKind.i64.wrap x = y := by
  have : IntKind.i64.wrap x = if 9223372036854775808 ≤ x % 18446744073709551616 then x % 18446744073709551616 - 18446744073709551616 else x % 18446744073709551616 := by
    simp [IntKind.wrap, IntKind.bits, IntKind.signed]
  rw [this]; split <;> omega
theorem u64w {x y : Int} (h : x = y ∧ 0 ≤ x ∧ x ≤ 18446744073709551615) : IntKind.u64.wrap x = y := by
  have : IntKind.u64.wrap x = x % 18446744073709551616 := by simp [IntKind.wrap, IntKind.bits, IntKind.signed]
  rw [this]; omega
theorem deT {p : Prop} [Decidable p] (h : p) : decide p = true := decide_eq_true h
theorem deF {p : Prop} [Decidable p] (h : ¬ p) : decide p = false := decide_eq_false h

theorem ldexp_any (h : Nat) (hh : h ≤ 64) (w : World) : Calls Try.prog 20 #[fl one, .int .i64 (-(h : Int))] w fun e w' => e = .returned (fl (ldB h)) ∧ w' = w := by
  refine calls_run (args := [_, _]) agrees od0 100 Try.func20 rfl ?_
  refine ok_valS rfl _ rfl (run_feq _ _ _ _ one 0) ?_
  refine ok_brF rfl (by decide +kernel) ?_
  refine ok_callS rfl (by kernel_rfl) (isInf_one _) ?_
  refine ok_brF rfl rfl ?_
  refine ok_brF rfl rfl ?_
  refine ok_callS rfl (by kernel_rfl) (isNaN_any one _) ?_
  refine ok_brF rfl rfl ?_
  refine ok_brF rfl (by decide +kernel) ?_
  refine ok_callS rfl (by kernel_rfl) (normal_one _) ?_
  refine ok_calc rfl (-(h : Int)) (i64w (by omega)) ?_
  refine ok_callX rfl (bits_any one _) ?_
  refine ok_test rfl (by decide) ?_
  refine ok_calc rfl 1023 (by decide +kernel) ?_
  refine ok_calc rfl 1023 (by decide +kernel) ?_
  refine ok_calc rfl 1023 (by decide +kernel) ?_
  refine ok_calc rfl 0 (by decide +kernel) ?_
  refine ok_calc rfl (-(h : Int)) (i64w (by omega)) ?_
  refine ok_calcB rfl false (deF (by omega)) ?_
  refine ok_brF rfl rfl ?_
  refine ok_calcB rfl false (deF (by omega)) ?_
  refine ok_brF rfl rfl ?_
  refine ok_calcB rfl false (deF (by omega)) ?_
  refine ok_brF rfl rfl ?_
  refine ok_calc rfl 0 (by decide +kernel) ?_
  refine ok_calc rfl ((1023 - h : Nat) : Int) (i64w (by omega)) ?_
  refine ok_calc rfl ((1023 - h : Nat) : Int) (u64w (by omega)) ?_
  refine ok_test rfl (by decide) ?_
  refine ok_calc rfl (((1023 - h) * 4503599627370496 : Nat) : Int) ?_ ?_
  · have e : (2 : Int) ^ min (52 : Int).toNat IntKind.u64.bits = 4503599627370496 := by decide
    rw [e]
    exact u64w (by omega)
  refine ok_calc rfl _ (ld_or h hh) ?_
  refine ok_callX rfl (from_any (ldB h) _) ?_
  refine ok_valS rfl _ rfl (run_fmul _ _ _ _ (ld_mul h hh)) ?_
  exact ok_finR rfl (fin1R rfl _ rfl ⟨rfl, rfl⟩)

theorem Ldexp_any (h : Nat) (hh : h ≤ 64) (w : World) : Calls Try.prog 15 #[fl one, .int .i64 (-(h : Int))] w fun e w' => e = .returned (fl (ldB h)) ∧ w' = w := by
  refine calls_run (args := [_, _]) agrees od0 100 Try.func15 rfl ?_
  refine ok_brF rfl rfl ?_
  refine ok_callS rfl (by kernel_rfl) (ldexp_any h hh _) ?_
  exact ok_finR rfl (fin1R rfl _ rfl ⟨rfl, rfl⟩)

/-! ### Weight -/
def c128 : Nat := 4638707616191610880
def restF (r : Nat) : Nat := (D.div (FloatKind.f64.nearest (r : Int)) c128).getD 0
def lessF (r : Nat) : Nat := (D.sub one (restF r)).getD 0
def W (h r : Nat) : Nat := (D.mul (ldB h) (lessF r)).getD 0
theorem isSome_some {o : Option Nat} (h : o.isSome = true) : o = some (o.getD 0) := by cases o <;> simp at h ⊢
theorem rest_ok : ∀ r : Nat, r < 64 → (D.div (FloatKind.f64.nearest (r : Int)) c128).isSome = true := by decide +kernel
theorem less_ok : ∀ r : Nat, r < 64 → (D.sub one (restF r)).isSome = true := by decide +kernel
theorem W_ok : ∀ h, h ≤ 64 → ∀ r, r < 64 → (D.mul (ldB h) (lessF r)).isSome = true := by decide +kernel

def wB (a : Int) : Nat := if a < 0 then one else if 64 < a / 64 then 0 else W (a / 64).toNat (a % 64).toNat
theorem weight_any (a : Int) (ha : -9223372036854775808 ≤ a ∧ a ≤ 9223372036854775807) (w : World) : Calls Try.prog 8 #[.int .i64 a] w fun e w' => e = .returned (fl (wB a)) ∧ w' = w := by
  refine calls_run (args := [_]) agrees od0 100 Try.func8 rfl ?_
  unfold wB
  by_cases h0 : a < 0
  · rw [if_pos h0]
    refine ok_calcB rfl true (deT h0) ?_
    refine ok_brT rfl rfl ?_
    exact ok_finR rfl (fin1R rfl _ rfl ⟨rfl, rfl⟩)
  · rw [if_neg h0]
    obtain ⟨n, rfl⟩ : ∃ n : Nat, a = (n : Int) := ⟨a.toNat, by omega⟩
    refine ok_calcB rfl false (deF h0) ?_
    refine ok_brF rfl rfl ?_
    refine ok_test rfl (by decide) ?_
    refine ok_calc rfl ((n / 64 : Nat) : Int) ?_ ?_
    · rw [Int.tdiv_eq_ediv_of_nonneg (by omega)]
      exact i64w (by omega)
    refine ok_test rfl (by decide) ?_
    refine ok_calc rfl ((n % 64 : Nat) : Int) ?_ ?_
    · rw [Int.tmod_eq_emod_of_nonneg (by omega)]; omega
    rw [show ((n : Int) / 64) = ((n / 64 : Nat) : Int) by omega, show ((n : Int) % 64) = ((n % 64 : Nat) : Int) by omega, Int.toNat_natCast, Int.toNat_natCast]
    have hr : n % 64 < 64 := Nat.mod_lt _ (by decide)
    generalize n / 64 = h at *
    generalize n % 64 = r at *
    by_cases h1 : 64 < h
    · rw [if_pos (by omega)]
      refine ok_calcB rfl true (deT (by omega)) ?_
      refine ok_brT rfl rfl ?_
      exact ok_finR rfl (fin1R rfl _ rfl ⟨rfl, rfl⟩)
    · rw [if_neg (by omega)]
      refine ok_calcB rfl false (deF (by omega)) ?_
      refine ok_brF rfl rfl ?_
      refine ok_calc rfl (-(h : Int)) (i64w (by omega)) ?_
      refine ok_callS rfl (by kernel_rfl) (Ldexp_any h (by omega) _) ?_
      refine ok_valS rfl _ rfl (run_toF (r : Int) _) ?_
      refine ok_valS rfl _ rfl (run_fquo _ _ _ _ (isSome_some (rest_ok r hr))) ?_
      refine ok_valS rfl _ rfl (run_fsub _ _ _ _ (isSome_some (less_ok r hr))) ?_
      refine ok_valS rfl _ rfl (run_fmul _ _ _ _ (isSome_some (W_ok h (by omega) r hr))) ?_
      exact ok_finR rfl (fin1R rfl _ rfl ⟨rfl, rfl⟩)

end Go.Proofs.Ytmchiomkgbeofaa
