/- The three laws of floats, walked. -/
import Derived.Test.YtmchiomkgbeofaaS4
namespace Go.Proofs.Ytmchiomkgbeofaa
open Go Ieee

theorem less_is {x y : Nat} {b : Bool} (h : lessB x y = b) (w : World) : Calls Try.prog 7 #[fl x, fl y] w fun e w' => e = .returned (.bool b) ∧ w' = w := by
  have := less_any x y w
  rwa [h] at this
theorem beq_run {P : Program} (x y : Bool) (X Y : Operand) (w : World) (h : P.underlying 4 = some .bool) : (do eqGuard .eql 4 X Y (.bool x) (.bool y); binOp .eql 4 (.bool x) (.bool y) : Sem Value).run P w = .ok (.bool (x == y)) w := by
  simp [eqGuard, binOp, run_equal_bool w 4 x y h]
theorem und4 : Try.prog.underlying 4 = some .bool := by kernel_rfl

def lk : Option Int → Option Int → Bool
  | none, _ => false
  | some _, none => true
  | some a, some b => decide (a < b)
theorem less_key : ∃ kw : Nat → Option Int, ∀ x y, lessB x y = lk (kw x) (kw y) := by
  obtain ⟨kw, hkw⟩ := kw_ex
  refine ⟨kw, fun x y => ?_⟩
  have hn : ∀ x, nanB x = (kw x).isNone := fun x => by
    unfold nanB
    rw [hkw]
    cases kw x with
    | none => rfl
    | some a =>
      show (some (compare a a) != some .eq) = false
      rw [Int.compare_eq_eq.2 rfl]; rfl
  unfold lessB
  rw [hn, hn, hkw]
  cases kw x with
  | none => rfl
  | some a =>
    cases kw y with
    | none => rfl
    | some b =>
      show (some (compare a b) == some .lt) = decide (a < b)
      rcases Int.lt_trichotomy a b with h | h | h
      · rw [Int.compare_eq_lt.2 h, decide_eq_true h]; rfl
      · subst h; rw [Int.compare_eq_eq.2 rfl, decide_eq_false (by omega)]; rfl
      · rw [Int.compare_eq_gt.2 h, decide_eq_false (by omega)]; rfl

theorem less_self (x : Nat) : lessB x x = false := by
  obtain ⟨kw, h⟩ := less_key
  rw [h]
  cases kw x <;> simp [lk]
theorem less_anti (x y : Nat) (h1 : lessB x y = true) (h2 : lessB y x = true) : False := by
  obtain ⟨kw, h⟩ := less_key
  rw [h] at h1 h2
  cases hx : kw x <;> cases hy : kw y <;> simp [lk, hx, hy] at h1 h2
  omega
theorem less_trans {x y z : Nat} (h1 : lessB x y = true) (h2 : lessB y z = true) : lessB x z = true := by
  obtain ⟨kw, h⟩ := less_key
  rw [h] at h1 h2 ⊢
  cases hx : kw x <;> cases hy : kw y <;> cases hz : kw z <;> simp [lk, hx, hy, hz] at h1 h2 ⊢
  omega
theorem less_alike {x y : Nat} (h1 : lessB x y = false) (h2 : lessB y x = false) (z : Nat) : lessB x z = lessB y z ∧ lessB z x = lessB z y := by
  obtain ⟨kw, h⟩ := less_key
  rw [h] at h1 h2
  rw [h, h, h, h]
  cases hx : kw x <;> cases hy : kw y <;> simp [lk, hx, hy] at h1 h2 ⊢
  rename_i a b
  obtain rfl : a = b := by omega
  simp

set_option maxHeartbeats 4000000 in
set_option maxRecDepth 10000 in
theorem orders_any (a b c : Nat) (w : World) : Calls Try.prog 3 #[fl a, fl b, fl c] w fun e w' => e = .returned (.bool true) ∧ w' = w := by
  have f0 := less_self a
  have f2 := less_anti a b
  have f3 := @less_trans a b c
  have f4 := fun h1 h2 => @less_alike a b h1 h2 c
  refine calls_run (args := [_, _, _]) agrees od0 100 Try.func3 rfl ?_
  obtain ⟨vab, hab⟩ : ∃ v, lessB a b = v := ⟨_, rfl⟩
  obtain ⟨vba, hba⟩ : ∃ v, lessB b a = v := ⟨_, rfl⟩
  obtain ⟨vbc, hbc⟩ : ∃ v, lessB b c = v := ⟨_, rfl⟩
  obtain ⟨vac, hac⟩ : ∃ v, lessB a c = v := ⟨_, rfl⟩
  obtain ⟨vcb, hcb⟩ : ∃ v, lessB c b = v := ⟨_, rfl⟩
  obtain ⟨vca, hca⟩ : ∃ v, lessB c a = v := ⟨_, rfl⟩
  rw [hab, hba, hbc, hac, hcb, hca] at f4
  rw [hab, hba] at f2
  rw [hab, hbc, hac] at f3
  cases vab <;> cases vba <;> cases vbc <;> cases vac <;> cases vcb <;> cases vca
  · refine ok_callS rfl (by kernel_rfl) (lives_any _) ?_
    refine ok_calcB rfl false rfl ?_
    refine ok_brF rfl rfl ?_
    refine ok_brF rfl rfl ?_
    refine ok_brF rfl rfl ?_
    refine ok_callS rfl (by kernel_rfl) (less_is f0 _) ?_
    refine ok_brF rfl rfl ?_
    refine ok_brF rfl rfl ?_
    refine ok_brF rfl rfl ?_
    refine ok_brF rfl rfl ?_
    refine ok_callS rfl (by kernel_rfl) (less_is hab _) ?_
    refine ok_brF rfl rfl ?_
    refine ok_brF rfl rfl ?_
    refine ok_brF rfl rfl ?_
    refine ok_brF rfl rfl ?_
    refine ok_brF rfl rfl ?_
    refine ok_brF rfl rfl ?_
    refine ok_brF rfl rfl ?_
    refine ok_brF rfl rfl ?_
    refine ok_brF rfl rfl ?_
    refine ok_brF rfl rfl ?_
    refine ok_callS rfl (by kernel_rfl) (less_is hab _) ?_
    refine ok_brF rfl rfl ?_
    refine ok_brF rfl rfl ?_
    refine ok_brF rfl rfl ?_
    refine ok_brF rfl rfl ?_
    refine ok_brF rfl rfl ?_
    refine ok_brF rfl rfl ?_
    refine ok_brF rfl rfl ?_
    refine ok_brF rfl rfl ?_
    refine ok_brF rfl rfl ?_
    refine ok_brF rfl rfl ?_
    refine ok_brF rfl rfl ?_
    refine ok_brF rfl rfl ?_
    refine ok_brF rfl rfl ?_
    refine ok_brF rfl rfl ?_
    refine ok_brF rfl rfl ?_
    refine ok_callS rfl (by kernel_rfl) (less_is hab _) ?_
    refine ok_calcB rfl true rfl ?_
    refine ok_brT rfl rfl ?_
    refine ok_brT rfl rfl ?_
    refine ok_brT rfl rfl ?_
    refine ok_callS rfl (by kernel_rfl) (less_is hba _) ?_
    refine ok_brT rfl rfl ?_
    refine ok_calcB rfl true rfl ?_
    refine ok_brT rfl rfl ?_
    refine ok_calcB rfl false rfl ?_
    refine ok_brF rfl rfl ?_
    refine ok_brF rfl rfl ?_
    refine ok_brF rfl rfl ?_
    refine ok_callS rfl (by kernel_rfl) (less_is hac _) ?_
    refine ok_brF rfl rfl ?_
    refine ok_brF rfl rfl ?_
    refine ok_brF rfl rfl ?_
    refine ok_callS rfl (by kernel_rfl) (less_is hbc _) ?_
    refine ok_brF rfl rfl ?_
    refine ok_valS rfl _ rfl (beq_run _ _ _ _ _ und4) ?_
    refine ok_brF rfl rfl ?_
    refine ok_brT rfl rfl ?_
    refine ok_brT rfl rfl ?_
    refine ok_brT rfl rfl ?_
    refine ok_callS rfl (by kernel_rfl) (less_is hca _) ?_
    refine ok_brT rfl rfl ?_
    refine ok_brT rfl rfl ?_
    refine ok_brT rfl rfl ?_
    refine ok_callS rfl (by kernel_rfl) (less_is hcb _) ?_
    refine ok_brT rfl rfl ?_
    refine ok_valS rfl _ rfl (beq_run _ _ _ _ _ und4) ?_
    refine ok_brF rfl rfl ?_
    refine ok_brT rfl rfl ?_
    refine ok_brF rfl rfl ?_
    exact ok_finR rfl (fin1R rfl _ rfl ⟨rfl, rfl⟩)
  · exact absurd (f4 rfl rfl) (by decide)
  · exact absurd (f4 rfl rfl) (by decide)
  · refine ok_callS rfl (by kernel_rfl) (lives_any _) ?_
    refine ok_calcB rfl false rfl ?_
    refine ok_brF rfl rfl ?_
    refine ok_brF rfl rfl ?_
    refine ok_brF rfl rfl ?_
    refine ok_callS rfl (by kernel_rfl) (less_is f0 _) ?_
    refine ok_brF rfl rfl ?_
    refine ok_brF rfl rfl ?_
    refine ok_brF rfl rfl ?_
    refine ok_brF rfl rfl ?_
    refine ok_callS rfl (by kernel_rfl) (less_is hab _) ?_
    refine ok_brF rfl rfl ?_
    refine ok_brF rfl rfl ?_
    refine ok_brF rfl rfl ?_
    refine ok_brF rfl rfl ?_
    refine ok_brF rfl rfl ?_
    refine ok_brF rfl rfl ?_
    refine ok_brF rfl rfl ?_
    refine ok_brF rfl rfl ?_
    refine ok_brF rfl rfl ?_
    refine ok_brF rfl rfl ?_
    refine ok_callS rfl (by kernel_rfl) (less_is hab _) ?_
    refine ok_brF rfl rfl ?_
    refine ok_brF rfl rfl ?_
    refine ok_brF rfl rfl ?_
    refine ok_brF rfl rfl ?_
    refine ok_brF rfl rfl ?_
    refine ok_brF rfl rfl ?_
    refine ok_brF rfl rfl ?_
    refine ok_brF rfl rfl ?_
    refine ok_brF rfl rfl ?_
    refine ok_brF rfl rfl ?_
    refine ok_brF rfl rfl ?_
    refine ok_brF rfl rfl ?_
    refine ok_brF rfl rfl ?_
    refine ok_brF rfl rfl ?_
    refine ok_brF rfl rfl ?_
    refine ok_callS rfl (by kernel_rfl) (less_is hab _) ?_
    refine ok_calcB rfl true rfl ?_
    refine ok_brT rfl rfl ?_
    refine ok_brT rfl rfl ?_
    refine ok_brT rfl rfl ?_
    refine ok_callS rfl (by kernel_rfl) (less_is hba _) ?_
    refine ok_brT rfl rfl ?_
    refine ok_calcB rfl true rfl ?_
    refine ok_brT rfl rfl ?_
    refine ok_calcB rfl false rfl ?_
    refine ok_brF rfl rfl ?_
    refine ok_brF rfl rfl ?_
    refine ok_brF rfl rfl ?_
    refine ok_callS rfl (by kernel_rfl) (less_is hac _) ?_
    refine ok_brF rfl rfl ?_
    refine ok_brF rfl rfl ?_
    refine ok_brF rfl rfl ?_
    refine ok_callS rfl (by kernel_rfl) (less_is hbc _) ?_
    refine ok_brF rfl rfl ?_
    refine ok_valS rfl _ rfl (beq_run _ _ _ _ _ und4) ?_
    refine ok_brF rfl rfl ?_
    refine ok_brT rfl rfl ?_
    refine ok_brT rfl rfl ?_
    refine ok_brT rfl rfl ?_
    refine ok_callS rfl (by kernel_rfl) (less_is hca _) ?_
    refine ok_brT rfl rfl ?_
    refine ok_brT rfl rfl ?_
    refine ok_brT rfl rfl ?_
    refine ok_callS rfl (by kernel_rfl) (less_is hcb _) ?_
    refine ok_brT rfl rfl ?_
    refine ok_valS rfl _ rfl (beq_run _ _ _ _ _ und4) ?_
    refine ok_brF rfl rfl ?_
    refine ok_brT rfl rfl ?_
    refine ok_brF rfl rfl ?_
    exact ok_finR rfl (fin1R rfl _ rfl ⟨rfl, rfl⟩)
  · exact absurd (f4 rfl rfl) (by decide)
  · exact absurd (f4 rfl rfl) (by decide)
  · exact absurd (f4 rfl rfl) (by decide)
  · exact absurd (f4 rfl rfl) (by decide)
  · exact absurd (f4 rfl rfl) (by decide)
  · exact absurd (f4 rfl rfl) (by decide)
  · exact absurd (f4 rfl rfl) (by decide)
  · exact absurd (f4 rfl rfl) (by decide)
  · refine ok_callS rfl (by kernel_rfl) (lives_any _) ?_
    refine ok_calcB rfl false rfl ?_
    refine ok_brF rfl rfl ?_
    refine ok_brF rfl rfl ?_
    refine ok_brF rfl rfl ?_
    refine ok_callS rfl (by kernel_rfl) (less_is f0 _) ?_
    refine ok_brF rfl rfl ?_
    refine ok_brF rfl rfl ?_
    refine ok_brF rfl rfl ?_
    refine ok_brF rfl rfl ?_
    refine ok_callS rfl (by kernel_rfl) (less_is hab _) ?_
    refine ok_brF rfl rfl ?_
    refine ok_brF rfl rfl ?_
    refine ok_brF rfl rfl ?_
    refine ok_brF rfl rfl ?_
    refine ok_brF rfl rfl ?_
    refine ok_brF rfl rfl ?_
    refine ok_brF rfl rfl ?_
    refine ok_brF rfl rfl ?_
    refine ok_brF rfl rfl ?_
    refine ok_brF rfl rfl ?_
    refine ok_callS rfl (by kernel_rfl) (less_is hab _) ?_
    refine ok_brF rfl rfl ?_
    refine ok_brF rfl rfl ?_
    refine ok_brF rfl rfl ?_
    refine ok_brF rfl rfl ?_
    refine ok_brF rfl rfl ?_
    refine ok_brF rfl rfl ?_
    refine ok_brF rfl rfl ?_
    refine ok_brF rfl rfl ?_
    refine ok_brF rfl rfl ?_
    refine ok_brF rfl rfl ?_
    refine ok_brF rfl rfl ?_
    refine ok_brF rfl rfl ?_
    refine ok_brF rfl rfl ?_
    refine ok_brF rfl rfl ?_
    refine ok_brF rfl rfl ?_
    refine ok_callS rfl (by kernel_rfl) (less_is hab _) ?_
    refine ok_calcB rfl true rfl ?_
    refine ok_brT rfl rfl ?_
    refine ok_brT rfl rfl ?_
    refine ok_brT rfl rfl ?_
    refine ok_callS rfl (by kernel_rfl) (less_is hba _) ?_
    refine ok_brT rfl rfl ?_
    refine ok_calcB rfl true rfl ?_
    refine ok_brT rfl rfl ?_
    refine ok_calcB rfl false rfl ?_
    refine ok_brF rfl rfl ?_
    refine ok_brF rfl rfl ?_
    refine ok_brF rfl rfl ?_
    refine ok_callS rfl (by kernel_rfl) (less_is hac _) ?_
    refine ok_brF rfl rfl ?_
    refine ok_brF rfl rfl ?_
    refine ok_brF rfl rfl ?_
    refine ok_callS rfl (by kernel_rfl) (less_is hbc _) ?_
    refine ok_brF rfl rfl ?_
    refine ok_valS rfl _ rfl (beq_run _ _ _ _ _ und4) ?_
    refine ok_brF rfl rfl ?_
    refine ok_brT rfl rfl ?_
    refine ok_brT rfl rfl ?_
    refine ok_brT rfl rfl ?_
    refine ok_callS rfl (by kernel_rfl) (less_is hca _) ?_
    refine ok_brT rfl rfl ?_
    refine ok_brT rfl rfl ?_
    refine ok_brT rfl rfl ?_
    refine ok_callS rfl (by kernel_rfl) (less_is hcb _) ?_
    refine ok_brT rfl rfl ?_
    refine ok_valS rfl _ rfl (beq_run _ _ _ _ _ und4) ?_
    refine ok_brF rfl rfl ?_
    refine ok_brT rfl rfl ?_
    refine ok_brF rfl rfl ?_
    exact ok_finR rfl (fin1R rfl _ rfl ⟨rfl, rfl⟩)
  · exact absurd (f4 rfl rfl) (by decide)
  · exact absurd (f4 rfl rfl) (by decide)
  · refine ok_callS rfl (by kernel_rfl) (lives_any _) ?_
    refine ok_calcB rfl false rfl ?_
    refine ok_brF rfl rfl ?_
    refine ok_brF rfl rfl ?_
    refine ok_brF rfl rfl ?_
    refine ok_callS rfl (by kernel_rfl) (less_is f0 _) ?_
    refine ok_brF rfl rfl ?_
    refine ok_brF rfl rfl ?_
    refine ok_brF rfl rfl ?_
    refine ok_brF rfl rfl ?_
    refine ok_callS rfl (by kernel_rfl) (less_is hab _) ?_
    refine ok_brF rfl rfl ?_
    refine ok_brF rfl rfl ?_
    refine ok_brF rfl rfl ?_
    refine ok_brF rfl rfl ?_
    refine ok_brF rfl rfl ?_
    refine ok_brF rfl rfl ?_
    refine ok_brF rfl rfl ?_
    refine ok_brF rfl rfl ?_
    refine ok_brF rfl rfl ?_
    refine ok_brF rfl rfl ?_
    refine ok_callS rfl (by kernel_rfl) (less_is hab _) ?_
    refine ok_brF rfl rfl ?_
    refine ok_brF rfl rfl ?_
    refine ok_brF rfl rfl ?_
    refine ok_brF rfl rfl ?_
    refine ok_brF rfl rfl ?_
    refine ok_brF rfl rfl ?_
    refine ok_brF rfl rfl ?_
    refine ok_brF rfl rfl ?_
    refine ok_brF rfl rfl ?_
    refine ok_brF rfl rfl ?_
    refine ok_brF rfl rfl ?_
    refine ok_brF rfl rfl ?_
    refine ok_brF rfl rfl ?_
    refine ok_brF rfl rfl ?_
    refine ok_brF rfl rfl ?_
    refine ok_callS rfl (by kernel_rfl) (less_is hab _) ?_
    refine ok_calcB rfl true rfl ?_
    refine ok_brT rfl rfl ?_
    refine ok_brT rfl rfl ?_
    refine ok_brT rfl rfl ?_
    refine ok_callS rfl (by kernel_rfl) (less_is hba _) ?_
    refine ok_brT rfl rfl ?_
    refine ok_calcB rfl true rfl ?_
    refine ok_brT rfl rfl ?_
    refine ok_calcB rfl false rfl ?_
    refine ok_brF rfl rfl ?_
    refine ok_brF rfl rfl ?_
    refine ok_brF rfl rfl ?_
    refine ok_callS rfl (by kernel_rfl) (less_is hac _) ?_
    refine ok_brF rfl rfl ?_
    refine ok_brF rfl rfl ?_
    refine ok_brF rfl rfl ?_
    refine ok_callS rfl (by kernel_rfl) (less_is hbc _) ?_
    refine ok_brF rfl rfl ?_
    refine ok_valS rfl _ rfl (beq_run _ _ _ _ _ und4) ?_
    refine ok_brF rfl rfl ?_
    refine ok_brT rfl rfl ?_
    refine ok_brT rfl rfl ?_
    refine ok_brT rfl rfl ?_
    refine ok_callS rfl (by kernel_rfl) (less_is hca _) ?_
    refine ok_brT rfl rfl ?_
    refine ok_brT rfl rfl ?_
    refine ok_brT rfl rfl ?_
    refine ok_callS rfl (by kernel_rfl) (less_is hcb _) ?_
    refine ok_brT rfl rfl ?_
    refine ok_valS rfl _ rfl (beq_run _ _ _ _ _ und4) ?_
    refine ok_brF rfl rfl ?_
    refine ok_brT rfl rfl ?_
    refine ok_brF rfl rfl ?_
    exact ok_finR rfl (fin1R rfl _ rfl ⟨rfl, rfl⟩)
  · refine ok_callS rfl (by kernel_rfl) (lives_any _) ?_
    refine ok_calcB rfl false rfl ?_
    refine ok_brF rfl rfl ?_
    refine ok_brF rfl rfl ?_
    refine ok_brF rfl rfl ?_
    refine ok_callS rfl (by kernel_rfl) (less_is f0 _) ?_
    refine ok_brF rfl rfl ?_
    refine ok_brF rfl rfl ?_
    refine ok_brF rfl rfl ?_
    refine ok_brF rfl rfl ?_
    refine ok_callS rfl (by kernel_rfl) (less_is hab _) ?_
    refine ok_brF rfl rfl ?_
    refine ok_brF rfl rfl ?_
    refine ok_brF rfl rfl ?_
    refine ok_brF rfl rfl ?_
    refine ok_brF rfl rfl ?_
    refine ok_brF rfl rfl ?_
    refine ok_brF rfl rfl ?_
    refine ok_brF rfl rfl ?_
    refine ok_brF rfl rfl ?_
    refine ok_brF rfl rfl ?_
    refine ok_callS rfl (by kernel_rfl) (less_is hab _) ?_
    refine ok_brF rfl rfl ?_
    refine ok_brF rfl rfl ?_
    refine ok_brF rfl rfl ?_
    refine ok_brF rfl rfl ?_
    refine ok_brF rfl rfl ?_
    refine ok_brF rfl rfl ?_
    refine ok_brF rfl rfl ?_
    refine ok_brF rfl rfl ?_
    refine ok_brF rfl rfl ?_
    refine ok_brF rfl rfl ?_
    refine ok_brF rfl rfl ?_
    refine ok_brF rfl rfl ?_
    refine ok_brF rfl rfl ?_
    refine ok_brF rfl rfl ?_
    refine ok_brF rfl rfl ?_
    refine ok_callS rfl (by kernel_rfl) (less_is hab _) ?_
    refine ok_calcB rfl true rfl ?_
    refine ok_brT rfl rfl ?_
    refine ok_brT rfl rfl ?_
    refine ok_brT rfl rfl ?_
    refine ok_callS rfl (by kernel_rfl) (less_is hba _) ?_
    refine ok_brT rfl rfl ?_
    refine ok_calcB rfl false rfl ?_
    refine ok_brT rfl rfl ?_
    refine ok_calcB rfl true rfl ?_
    refine ok_brT rfl rfl ?_
    refine ok_brT rfl rfl ?_
    refine ok_brT rfl rfl ?_
    refine ok_brT rfl rfl ?_
    refine ok_brT rfl rfl ?_
    refine ok_brT rfl rfl ?_
    refine ok_brT rfl rfl ?_
    refine ok_brT rfl rfl ?_
    refine ok_brT rfl rfl ?_
    refine ok_brT rfl rfl ?_
    exact ok_finR rfl (fin1R rfl _ rfl ⟨rfl, rfl⟩)
  · refine ok_callS rfl (by kernel_rfl) (lives_any _) ?_
    refine ok_calcB rfl false rfl ?_
    refine ok_brF rfl rfl ?_
    refine ok_brF rfl rfl ?_
    refine ok_brF rfl rfl ?_
    refine ok_callS rfl (by kernel_rfl) (less_is f0 _) ?_
    refine ok_brF rfl rfl ?_
    refine ok_brF rfl rfl ?_
    refine ok_brF rfl rfl ?_
    refine ok_brF rfl rfl ?_
    refine ok_callS rfl (by kernel_rfl) (less_is hab _) ?_
    refine ok_brF rfl rfl ?_
    refine ok_brF rfl rfl ?_
    refine ok_brF rfl rfl ?_
    refine ok_brF rfl rfl ?_
    refine ok_brF rfl rfl ?_
    refine ok_brF rfl rfl ?_
    refine ok_brF rfl rfl ?_
    refine ok_brF rfl rfl ?_
    refine ok_brF rfl rfl ?_
    refine ok_brF rfl rfl ?_
    refine ok_callS rfl (by kernel_rfl) (less_is hab _) ?_
    refine ok_brF rfl rfl ?_
    refine ok_brF rfl rfl ?_
    refine ok_brF rfl rfl ?_
    refine ok_brF rfl rfl ?_
    refine ok_brF rfl rfl ?_
    refine ok_brF rfl rfl ?_
    refine ok_brF rfl rfl ?_
    refine ok_brF rfl rfl ?_
    refine ok_brF rfl rfl ?_
    refine ok_brF rfl rfl ?_
    refine ok_brF rfl rfl ?_
    refine ok_brF rfl rfl ?_
    refine ok_brF rfl rfl ?_
    refine ok_brF rfl rfl ?_
    refine ok_brF rfl rfl ?_
    refine ok_callS rfl (by kernel_rfl) (less_is hab _) ?_
    refine ok_calcB rfl true rfl ?_
    refine ok_brT rfl rfl ?_
    refine ok_brT rfl rfl ?_
    refine ok_brT rfl rfl ?_
    refine ok_callS rfl (by kernel_rfl) (less_is hba _) ?_
    refine ok_brT rfl rfl ?_
    refine ok_calcB rfl false rfl ?_
    refine ok_brT rfl rfl ?_
    refine ok_calcB rfl true rfl ?_
    refine ok_brT rfl rfl ?_
    refine ok_brT rfl rfl ?_
    refine ok_brT rfl rfl ?_
    refine ok_brT rfl rfl ?_
    refine ok_brT rfl rfl ?_
    refine ok_brT rfl rfl ?_
    refine ok_brT rfl rfl ?_
    refine ok_brT rfl rfl ?_
    refine ok_brT rfl rfl ?_
    refine ok_brT rfl rfl ?_
    exact ok_finR rfl (fin1R rfl _ rfl ⟨rfl, rfl⟩)
  · refine ok_callS rfl (by kernel_rfl) (lives_any _) ?_
    refine ok_calcB rfl false rfl ?_
    refine ok_brF rfl rfl ?_
    refine ok_brF rfl rfl ?_
    refine ok_brF rfl rfl ?_
    refine ok_callS rfl (by kernel_rfl) (less_is f0 _) ?_
    refine ok_brF rfl rfl ?_
    refine ok_brF rfl rfl ?_
    refine ok_brF rfl rfl ?_
    refine ok_brF rfl rfl ?_
    refine ok_callS rfl (by kernel_rfl) (less_is hab _) ?_
    refine ok_brF rfl rfl ?_
    refine ok_brF rfl rfl ?_
    refine ok_brF rfl rfl ?_
    refine ok_brF rfl rfl ?_
    refine ok_brF rfl rfl ?_
    refine ok_brF rfl rfl ?_
    refine ok_brF rfl rfl ?_
    refine ok_brF rfl rfl ?_
    refine ok_brF rfl rfl ?_
    refine ok_brF rfl rfl ?_
    refine ok_callS rfl (by kernel_rfl) (less_is hab _) ?_
    refine ok_brF rfl rfl ?_
    refine ok_brF rfl rfl ?_
    refine ok_brF rfl rfl ?_
    refine ok_brF rfl rfl ?_
    refine ok_brF rfl rfl ?_
    refine ok_brF rfl rfl ?_
    refine ok_brF rfl rfl ?_
    refine ok_brF rfl rfl ?_
    refine ok_brF rfl rfl ?_
    refine ok_brF rfl rfl ?_
    refine ok_brF rfl rfl ?_
    refine ok_brF rfl rfl ?_
    refine ok_brF rfl rfl ?_
    refine ok_brF rfl rfl ?_
    refine ok_brF rfl rfl ?_
    refine ok_callS rfl (by kernel_rfl) (less_is hab _) ?_
    refine ok_calcB rfl true rfl ?_
    refine ok_brT rfl rfl ?_
    refine ok_brT rfl rfl ?_
    refine ok_brT rfl rfl ?_
    refine ok_callS rfl (by kernel_rfl) (less_is hba _) ?_
    refine ok_brT rfl rfl ?_
    refine ok_calcB rfl false rfl ?_
    refine ok_brT rfl rfl ?_
    refine ok_calcB rfl true rfl ?_
    refine ok_brT rfl rfl ?_
    refine ok_brT rfl rfl ?_
    refine ok_brT rfl rfl ?_
    refine ok_brT rfl rfl ?_
    refine ok_brT rfl rfl ?_
    refine ok_brT rfl rfl ?_
    refine ok_brT rfl rfl ?_
    refine ok_brT rfl rfl ?_
    refine ok_brT rfl rfl ?_
    refine ok_brT rfl rfl ?_
    exact ok_finR rfl (fin1R rfl _ rfl ⟨rfl, rfl⟩)
  · refine ok_callS rfl (by kernel_rfl) (lives_any _) ?_
    refine ok_calcB rfl false rfl ?_
    refine ok_brF rfl rfl ?_
    refine ok_brF rfl rfl ?_
    refine ok_brF rfl rfl ?_
    refine ok_callS rfl (by kernel_rfl) (less_is f0 _) ?_
    refine ok_brF rfl rfl ?_
    refine ok_brF rfl rfl ?_
    refine ok_brF rfl rfl ?_
    refine ok_brF rfl rfl ?_
    refine ok_callS rfl (by kernel_rfl) (less_is hab _) ?_
    refine ok_brF rfl rfl ?_
    refine ok_brF rfl rfl ?_
    refine ok_brF rfl rfl ?_
    refine ok_brF rfl rfl ?_
    refine ok_brF rfl rfl ?_
    refine ok_brF rfl rfl ?_
    refine ok_brF rfl rfl ?_
    refine ok_brF rfl rfl ?_
    refine ok_brF rfl rfl ?_
    refine ok_brF rfl rfl ?_
    refine ok_callS rfl (by kernel_rfl) (less_is hab _) ?_
    refine ok_brF rfl rfl ?_
    refine ok_brF rfl rfl ?_
    refine ok_brF rfl rfl ?_
    refine ok_brF rfl rfl ?_
    refine ok_brF rfl rfl ?_
    refine ok_brF rfl rfl ?_
    refine ok_brF rfl rfl ?_
    refine ok_brF rfl rfl ?_
    refine ok_brF rfl rfl ?_
    refine ok_brF rfl rfl ?_
    refine ok_brF rfl rfl ?_
    refine ok_brF rfl rfl ?_
    refine ok_brF rfl rfl ?_
    refine ok_brF rfl rfl ?_
    refine ok_brF rfl rfl ?_
    refine ok_callS rfl (by kernel_rfl) (less_is hab _) ?_
    refine ok_calcB rfl true rfl ?_
    refine ok_brT rfl rfl ?_
    refine ok_brT rfl rfl ?_
    refine ok_brT rfl rfl ?_
    refine ok_callS rfl (by kernel_rfl) (less_is hba _) ?_
    refine ok_brT rfl rfl ?_
    refine ok_calcB rfl false rfl ?_
    refine ok_brT rfl rfl ?_
    refine ok_calcB rfl true rfl ?_
    refine ok_brT rfl rfl ?_
    refine ok_brT rfl rfl ?_
    refine ok_brT rfl rfl ?_
    refine ok_brT rfl rfl ?_
    refine ok_brT rfl rfl ?_
    refine ok_brT rfl rfl ?_
    refine ok_brT rfl rfl ?_
    refine ok_brT rfl rfl ?_
    refine ok_brT rfl rfl ?_
    refine ok_brT rfl rfl ?_
    exact ok_finR rfl (fin1R rfl _ rfl ⟨rfl, rfl⟩)
  · refine ok_callS rfl (by kernel_rfl) (lives_any _) ?_
    refine ok_calcB rfl false rfl ?_
    refine ok_brF rfl rfl ?_
    refine ok_brF rfl rfl ?_
    refine ok_brF rfl rfl ?_
    refine ok_callS rfl (by kernel_rfl) (less_is f0 _) ?_
    refine ok_brF rfl rfl ?_
    refine ok_brF rfl rfl ?_
    refine ok_brF rfl rfl ?_
    refine ok_brF rfl rfl ?_
    refine ok_callS rfl (by kernel_rfl) (less_is hab _) ?_
    refine ok_brF rfl rfl ?_
    refine ok_brF rfl rfl ?_
    refine ok_brF rfl rfl ?_
    refine ok_brF rfl rfl ?_
    refine ok_brF rfl rfl ?_
    refine ok_brF rfl rfl ?_
    refine ok_brF rfl rfl ?_
    refine ok_brF rfl rfl ?_
    refine ok_brF rfl rfl ?_
    refine ok_brF rfl rfl ?_
    refine ok_callS rfl (by kernel_rfl) (less_is hab _) ?_
    refine ok_brF rfl rfl ?_
    refine ok_brF rfl rfl ?_
    refine ok_brF rfl rfl ?_
    refine ok_brF rfl rfl ?_
    refine ok_brF rfl rfl ?_
    refine ok_brF rfl rfl ?_
    refine ok_brF rfl rfl ?_
    refine ok_brF rfl rfl ?_
    refine ok_brF rfl rfl ?_
    refine ok_brF rfl rfl ?_
    refine ok_brF rfl rfl ?_
    refine ok_brF rfl rfl ?_
    refine ok_brF rfl rfl ?_
    refine ok_brF rfl rfl ?_
    refine ok_brF rfl rfl ?_
    refine ok_callS rfl (by kernel_rfl) (less_is hab _) ?_
    refine ok_calcB rfl true rfl ?_
    refine ok_brT rfl rfl ?_
    refine ok_brT rfl rfl ?_
    refine ok_brT rfl rfl ?_
    refine ok_callS rfl (by kernel_rfl) (less_is hba _) ?_
    refine ok_brT rfl rfl ?_
    refine ok_calcB rfl false rfl ?_
    refine ok_brT rfl rfl ?_
    refine ok_calcB rfl true rfl ?_
    refine ok_brT rfl rfl ?_
    refine ok_brT rfl rfl ?_
    refine ok_brT rfl rfl ?_
    refine ok_brT rfl rfl ?_
    refine ok_brT rfl rfl ?_
    refine ok_brT rfl rfl ?_
    refine ok_brT rfl rfl ?_
    refine ok_brT rfl rfl ?_
    refine ok_brT rfl rfl ?_
    refine ok_brT rfl rfl ?_
    exact ok_finR rfl (fin1R rfl _ rfl ⟨rfl, rfl⟩)
  · refine ok_callS rfl (by kernel_rfl) (lives_any _) ?_
    refine ok_calcB rfl false rfl ?_
    refine ok_brF rfl rfl ?_
    refine ok_brF rfl rfl ?_
    refine ok_brF rfl rfl ?_
    refine ok_callS rfl (by kernel_rfl) (less_is f0 _) ?_
    refine ok_brF rfl rfl ?_
    refine ok_brF rfl rfl ?_
    refine ok_brF rfl rfl ?_
    refine ok_brF rfl rfl ?_
    refine ok_callS rfl (by kernel_rfl) (less_is hab _) ?_
    refine ok_brF rfl rfl ?_
    refine ok_brF rfl rfl ?_
    refine ok_brF rfl rfl ?_
    refine ok_brF rfl rfl ?_
    refine ok_brF rfl rfl ?_
    refine ok_brF rfl rfl ?_
    refine ok_brF rfl rfl ?_
    refine ok_brF rfl rfl ?_
    refine ok_brF rfl rfl ?_
    refine ok_brF rfl rfl ?_
    refine ok_callS rfl (by kernel_rfl) (less_is hab _) ?_
    refine ok_brF rfl rfl ?_
    refine ok_brF rfl rfl ?_
    refine ok_brF rfl rfl ?_
    refine ok_brF rfl rfl ?_
    refine ok_brF rfl rfl ?_
    refine ok_brF rfl rfl ?_
    refine ok_brF rfl rfl ?_
    refine ok_brF rfl rfl ?_
    refine ok_brF rfl rfl ?_
    refine ok_brF rfl rfl ?_
    refine ok_brF rfl rfl ?_
    refine ok_brF rfl rfl ?_
    refine ok_brF rfl rfl ?_
    refine ok_brF rfl rfl ?_
    refine ok_brF rfl rfl ?_
    refine ok_callS rfl (by kernel_rfl) (less_is hab _) ?_
    refine ok_calcB rfl true rfl ?_
    refine ok_brT rfl rfl ?_
    refine ok_brT rfl rfl ?_
    refine ok_brT rfl rfl ?_
    refine ok_callS rfl (by kernel_rfl) (less_is hba _) ?_
    refine ok_brT rfl rfl ?_
    refine ok_calcB rfl false rfl ?_
    refine ok_brT rfl rfl ?_
    refine ok_calcB rfl true rfl ?_
    refine ok_brT rfl rfl ?_
    refine ok_brT rfl rfl ?_
    refine ok_brT rfl rfl ?_
    refine ok_brT rfl rfl ?_
    refine ok_brT rfl rfl ?_
    refine ok_brT rfl rfl ?_
    refine ok_brT rfl rfl ?_
    refine ok_brT rfl rfl ?_
    refine ok_brT rfl rfl ?_
    refine ok_brT rfl rfl ?_
    exact ok_finR rfl (fin1R rfl _ rfl ⟨rfl, rfl⟩)
  · refine ok_callS rfl (by kernel_rfl) (lives_any _) ?_
    refine ok_calcB rfl false rfl ?_
    refine ok_brF rfl rfl ?_
    refine ok_brF rfl rfl ?_
    refine ok_brF rfl rfl ?_
    refine ok_callS rfl (by kernel_rfl) (less_is f0 _) ?_
    refine ok_brF rfl rfl ?_
    refine ok_brF rfl rfl ?_
    refine ok_brF rfl rfl ?_
    refine ok_brF rfl rfl ?_
    refine ok_callS rfl (by kernel_rfl) (less_is hab _) ?_
    refine ok_brF rfl rfl ?_
    refine ok_brF rfl rfl ?_
    refine ok_brF rfl rfl ?_
    refine ok_brF rfl rfl ?_
    refine ok_brF rfl rfl ?_
    refine ok_brF rfl rfl ?_
    refine ok_brF rfl rfl ?_
    refine ok_brF rfl rfl ?_
    refine ok_brF rfl rfl ?_
    refine ok_brF rfl rfl ?_
    refine ok_callS rfl (by kernel_rfl) (less_is hab _) ?_
    refine ok_brF rfl rfl ?_
    refine ok_brF rfl rfl ?_
    refine ok_brF rfl rfl ?_
    refine ok_brF rfl rfl ?_
    refine ok_brF rfl rfl ?_
    refine ok_brF rfl rfl ?_
    refine ok_brF rfl rfl ?_
    refine ok_brF rfl rfl ?_
    refine ok_brF rfl rfl ?_
    refine ok_brF rfl rfl ?_
    refine ok_brF rfl rfl ?_
    refine ok_brF rfl rfl ?_
    refine ok_brF rfl rfl ?_
    refine ok_brF rfl rfl ?_
    refine ok_brF rfl rfl ?_
    refine ok_callS rfl (by kernel_rfl) (less_is hab _) ?_
    refine ok_calcB rfl true rfl ?_
    refine ok_brT rfl rfl ?_
    refine ok_brT rfl rfl ?_
    refine ok_brT rfl rfl ?_
    refine ok_callS rfl (by kernel_rfl) (less_is hba _) ?_
    refine ok_brT rfl rfl ?_
    refine ok_calcB rfl false rfl ?_
    refine ok_brT rfl rfl ?_
    refine ok_calcB rfl true rfl ?_
    refine ok_brT rfl rfl ?_
    refine ok_brT rfl rfl ?_
    refine ok_brT rfl rfl ?_
    refine ok_brT rfl rfl ?_
    refine ok_brT rfl rfl ?_
    refine ok_brT rfl rfl ?_
    refine ok_brT rfl rfl ?_
    refine ok_brT rfl rfl ?_
    refine ok_brT rfl rfl ?_
    refine ok_brT rfl rfl ?_
    exact ok_finR rfl (fin1R rfl _ rfl ⟨rfl, rfl⟩)
  · refine ok_callS rfl (by kernel_rfl) (lives_any _) ?_
    refine ok_calcB rfl false rfl ?_
    refine ok_brF rfl rfl ?_
    refine ok_brF rfl rfl ?_
    refine ok_brF rfl rfl ?_
    refine ok_callS rfl (by kernel_rfl) (less_is f0 _) ?_
    refine ok_brF rfl rfl ?_
    refine ok_brF rfl rfl ?_
    refine ok_brF rfl rfl ?_
    refine ok_brF rfl rfl ?_
    refine ok_callS rfl (by kernel_rfl) (less_is hab _) ?_
    refine ok_brF rfl rfl ?_
    refine ok_brF rfl rfl ?_
    refine ok_brF rfl rfl ?_
    refine ok_brF rfl rfl ?_
    refine ok_brF rfl rfl ?_
    refine ok_brF rfl rfl ?_
    refine ok_brF rfl rfl ?_
    refine ok_brF rfl rfl ?_
    refine ok_brF rfl rfl ?_
    refine ok_brF rfl rfl ?_
    refine ok_callS rfl (by kernel_rfl) (less_is hab _) ?_
    refine ok_brF rfl rfl ?_
    refine ok_brF rfl rfl ?_
    refine ok_brF rfl rfl ?_
    refine ok_brF rfl rfl ?_
    refine ok_brF rfl rfl ?_
    refine ok_brF rfl rfl ?_
    refine ok_brF rfl rfl ?_
    refine ok_brF rfl rfl ?_
    refine ok_brF rfl rfl ?_
    refine ok_brF rfl rfl ?_
    refine ok_brF rfl rfl ?_
    refine ok_brF rfl rfl ?_
    refine ok_brF rfl rfl ?_
    refine ok_brF rfl rfl ?_
    refine ok_brF rfl rfl ?_
    refine ok_callS rfl (by kernel_rfl) (less_is hab _) ?_
    refine ok_calcB rfl true rfl ?_
    refine ok_brT rfl rfl ?_
    refine ok_brT rfl rfl ?_
    refine ok_brT rfl rfl ?_
    refine ok_callS rfl (by kernel_rfl) (less_is hba _) ?_
    refine ok_brT rfl rfl ?_
    refine ok_calcB rfl false rfl ?_
    refine ok_brT rfl rfl ?_
    refine ok_calcB rfl true rfl ?_
    refine ok_brT rfl rfl ?_
    refine ok_brT rfl rfl ?_
    refine ok_brT rfl rfl ?_
    refine ok_brT rfl rfl ?_
    refine ok_brT rfl rfl ?_
    refine ok_brT rfl rfl ?_
    refine ok_brT rfl rfl ?_
    refine ok_brT rfl rfl ?_
    refine ok_brT rfl rfl ?_
    refine ok_brT rfl rfl ?_
    exact ok_finR rfl (fin1R rfl _ rfl ⟨rfl, rfl⟩)
  · refine ok_callS rfl (by kernel_rfl) (lives_any _) ?_
    refine ok_calcB rfl false rfl ?_
    refine ok_brF rfl rfl ?_
    refine ok_brF rfl rfl ?_
    refine ok_brF rfl rfl ?_
    refine ok_callS rfl (by kernel_rfl) (less_is f0 _) ?_
    refine ok_brF rfl rfl ?_
    refine ok_brF rfl rfl ?_
    refine ok_brF rfl rfl ?_
    refine ok_brF rfl rfl ?_
    refine ok_callS rfl (by kernel_rfl) (less_is hab _) ?_
    refine ok_brF rfl rfl ?_
    refine ok_brF rfl rfl ?_
    refine ok_brF rfl rfl ?_
    refine ok_brF rfl rfl ?_
    refine ok_brF rfl rfl ?_
    refine ok_brF rfl rfl ?_
    refine ok_brF rfl rfl ?_
    refine ok_brF rfl rfl ?_
    refine ok_brF rfl rfl ?_
    refine ok_brF rfl rfl ?_
    refine ok_callS rfl (by kernel_rfl) (less_is hab _) ?_
    refine ok_brF rfl rfl ?_
    refine ok_brF rfl rfl ?_
    refine ok_brF rfl rfl ?_
    refine ok_brF rfl rfl ?_
    refine ok_brF rfl rfl ?_
    refine ok_brF rfl rfl ?_
    refine ok_brF rfl rfl ?_
    refine ok_brF rfl rfl ?_
    refine ok_brF rfl rfl ?_
    refine ok_brF rfl rfl ?_
    refine ok_brF rfl rfl ?_
    refine ok_brF rfl rfl ?_
    refine ok_brF rfl rfl ?_
    refine ok_brF rfl rfl ?_
    refine ok_brF rfl rfl ?_
    refine ok_callS rfl (by kernel_rfl) (less_is hab _) ?_
    refine ok_calcB rfl true rfl ?_
    refine ok_brT rfl rfl ?_
    refine ok_brT rfl rfl ?_
    refine ok_brT rfl rfl ?_
    refine ok_callS rfl (by kernel_rfl) (less_is hba _) ?_
    refine ok_brT rfl rfl ?_
    refine ok_calcB rfl false rfl ?_
    refine ok_brT rfl rfl ?_
    refine ok_calcB rfl true rfl ?_
    refine ok_brT rfl rfl ?_
    refine ok_brT rfl rfl ?_
    refine ok_brT rfl rfl ?_
    refine ok_brT rfl rfl ?_
    refine ok_brT rfl rfl ?_
    refine ok_brT rfl rfl ?_
    refine ok_brT rfl rfl ?_
    refine ok_brT rfl rfl ?_
    refine ok_brT rfl rfl ?_
    refine ok_brT rfl rfl ?_
    exact ok_finR rfl (fin1R rfl _ rfl ⟨rfl, rfl⟩)
  · refine ok_callS rfl (by kernel_rfl) (lives_any _) ?_
    refine ok_calcB rfl false rfl ?_
    refine ok_brF rfl rfl ?_
    refine ok_brF rfl rfl ?_
    refine ok_brF rfl rfl ?_
    refine ok_callS rfl (by kernel_rfl) (less_is f0 _) ?_
    refine ok_brF rfl rfl ?_
    refine ok_brF rfl rfl ?_
    refine ok_brF rfl rfl ?_
    refine ok_brF rfl rfl ?_
    refine ok_callS rfl (by kernel_rfl) (less_is hab _) ?_
    refine ok_brF rfl rfl ?_
    refine ok_brF rfl rfl ?_
    refine ok_brF rfl rfl ?_
    refine ok_brF rfl rfl ?_
    refine ok_brF rfl rfl ?_
    refine ok_brF rfl rfl ?_
    refine ok_brF rfl rfl ?_
    refine ok_brF rfl rfl ?_
    refine ok_brF rfl rfl ?_
    refine ok_brF rfl rfl ?_
    refine ok_callS rfl (by kernel_rfl) (less_is hab _) ?_
    refine ok_brF rfl rfl ?_
    refine ok_brF rfl rfl ?_
    refine ok_brF rfl rfl ?_
    refine ok_brF rfl rfl ?_
    refine ok_brF rfl rfl ?_
    refine ok_brF rfl rfl ?_
    refine ok_brF rfl rfl ?_
    refine ok_brF rfl rfl ?_
    refine ok_brF rfl rfl ?_
    refine ok_brF rfl rfl ?_
    refine ok_brF rfl rfl ?_
    refine ok_brF rfl rfl ?_
    refine ok_brF rfl rfl ?_
    refine ok_brF rfl rfl ?_
    refine ok_brF rfl rfl ?_
    refine ok_callS rfl (by kernel_rfl) (less_is hab _) ?_
    refine ok_calcB rfl true rfl ?_
    refine ok_brT rfl rfl ?_
    refine ok_brT rfl rfl ?_
    refine ok_brT rfl rfl ?_
    refine ok_callS rfl (by kernel_rfl) (less_is hba _) ?_
    refine ok_brT rfl rfl ?_
    refine ok_calcB rfl false rfl ?_
    refine ok_brT rfl rfl ?_
    refine ok_calcB rfl true rfl ?_
    refine ok_brT rfl rfl ?_
    refine ok_brT rfl rfl ?_
    refine ok_brT rfl rfl ?_
    refine ok_brT rfl rfl ?_
    refine ok_brT rfl rfl ?_
    refine ok_brT rfl rfl ?_
    refine ok_brT rfl rfl ?_
    refine ok_brT rfl rfl ?_
    refine ok_brT rfl rfl ?_
    refine ok_brT rfl rfl ?_
    exact ok_finR rfl (fin1R rfl _ rfl ⟨rfl, rfl⟩)
  · refine ok_callS rfl (by kernel_rfl) (lives_any _) ?_
    refine ok_calcB rfl false rfl ?_
    refine ok_brF rfl rfl ?_
    refine ok_brF rfl rfl ?_
    refine ok_brF rfl rfl ?_
    refine ok_callS rfl (by kernel_rfl) (less_is f0 _) ?_
    refine ok_brF rfl rfl ?_
    refine ok_brF rfl rfl ?_
    refine ok_brF rfl rfl ?_
    refine ok_brF rfl rfl ?_
    refine ok_callS rfl (by kernel_rfl) (less_is hab _) ?_
    refine ok_brF rfl rfl ?_
    refine ok_brF rfl rfl ?_
    refine ok_brF rfl rfl ?_
    refine ok_brF rfl rfl ?_
    refine ok_brF rfl rfl ?_
    refine ok_brF rfl rfl ?_
    refine ok_brF rfl rfl ?_
    refine ok_brF rfl rfl ?_
    refine ok_brF rfl rfl ?_
    refine ok_brF rfl rfl ?_
    refine ok_callS rfl (by kernel_rfl) (less_is hab _) ?_
    refine ok_brF rfl rfl ?_
    refine ok_brF rfl rfl ?_
    refine ok_brF rfl rfl ?_
    refine ok_brF rfl rfl ?_
    refine ok_brF rfl rfl ?_
    refine ok_brF rfl rfl ?_
    refine ok_brF rfl rfl ?_
    refine ok_brF rfl rfl ?_
    refine ok_brF rfl rfl ?_
    refine ok_brF rfl rfl ?_
    refine ok_brF rfl rfl ?_
    refine ok_brF rfl rfl ?_
    refine ok_brF rfl rfl ?_
    refine ok_brF rfl rfl ?_
    refine ok_brF rfl rfl ?_
    refine ok_callS rfl (by kernel_rfl) (less_is hab _) ?_
    refine ok_calcB rfl true rfl ?_
    refine ok_brT rfl rfl ?_
    refine ok_brT rfl rfl ?_
    refine ok_brT rfl rfl ?_
    refine ok_callS rfl (by kernel_rfl) (less_is hba _) ?_
    refine ok_brT rfl rfl ?_
    refine ok_calcB rfl false rfl ?_
    refine ok_brT rfl rfl ?_
    refine ok_calcB rfl true rfl ?_
    refine ok_brT rfl rfl ?_
    refine ok_brT rfl rfl ?_
    refine ok_brT rfl rfl ?_
    refine ok_brT rfl rfl ?_
    refine ok_brT rfl rfl ?_
    refine ok_brT rfl rfl ?_
    refine ok_brT rfl rfl ?_
    refine ok_brT rfl rfl ?_
    refine ok_brT rfl rfl ?_
    refine ok_brT rfl rfl ?_
    exact ok_finR rfl (fin1R rfl _ rfl ⟨rfl, rfl⟩)
  · refine ok_callS rfl (by kernel_rfl) (lives_any _) ?_
    refine ok_calcB rfl false rfl ?_
    refine ok_brF rfl rfl ?_
    refine ok_brF rfl rfl ?_
    refine ok_brF rfl rfl ?_
    refine ok_callS rfl (by kernel_rfl) (less_is f0 _) ?_
    refine ok_brF rfl rfl ?_
    refine ok_brF rfl rfl ?_
    refine ok_brF rfl rfl ?_
    refine ok_brF rfl rfl ?_
    refine ok_callS rfl (by kernel_rfl) (less_is hab _) ?_
    refine ok_brF rfl rfl ?_
    refine ok_brF rfl rfl ?_
    refine ok_brF rfl rfl ?_
    refine ok_brF rfl rfl ?_
    refine ok_brF rfl rfl ?_
    refine ok_brF rfl rfl ?_
    refine ok_brF rfl rfl ?_
    refine ok_brF rfl rfl ?_
    refine ok_brF rfl rfl ?_
    refine ok_brF rfl rfl ?_
    refine ok_callS rfl (by kernel_rfl) (less_is hab _) ?_
    refine ok_brF rfl rfl ?_
    refine ok_brF rfl rfl ?_
    refine ok_brF rfl rfl ?_
    refine ok_brF rfl rfl ?_
    refine ok_brF rfl rfl ?_
    refine ok_brF rfl rfl ?_
    refine ok_brF rfl rfl ?_
    refine ok_brF rfl rfl ?_
    refine ok_brF rfl rfl ?_
    refine ok_brF rfl rfl ?_
    refine ok_brF rfl rfl ?_
    refine ok_brF rfl rfl ?_
    refine ok_brF rfl rfl ?_
    refine ok_brF rfl rfl ?_
    refine ok_brF rfl rfl ?_
    refine ok_callS rfl (by kernel_rfl) (less_is hab _) ?_
    refine ok_calcB rfl true rfl ?_
    refine ok_brT rfl rfl ?_
    refine ok_brT rfl rfl ?_
    refine ok_brT rfl rfl ?_
    refine ok_callS rfl (by kernel_rfl) (less_is hba _) ?_
    refine ok_brT rfl rfl ?_
    refine ok_calcB rfl false rfl ?_
    refine ok_brT rfl rfl ?_
    refine ok_calcB rfl true rfl ?_
    refine ok_brT rfl rfl ?_
    refine ok_brT rfl rfl ?_
    refine ok_brT rfl rfl ?_
    refine ok_brT rfl rfl ?_
    refine ok_brT rfl rfl ?_
    refine ok_brT rfl rfl ?_
    refine ok_brT rfl rfl ?_
    refine ok_brT rfl rfl ?_
    refine ok_brT rfl rfl ?_
    refine ok_brT rfl rfl ?_
    exact ok_finR rfl (fin1R rfl _ rfl ⟨rfl, rfl⟩)
  · refine ok_callS rfl (by kernel_rfl) (lives_any _) ?_
    refine ok_calcB rfl false rfl ?_
    refine ok_brF rfl rfl ?_
    refine ok_brF rfl rfl ?_
    refine ok_brF rfl rfl ?_
    refine ok_callS rfl (by kernel_rfl) (less_is f0 _) ?_
    refine ok_brF rfl rfl ?_
    refine ok_brF rfl rfl ?_
    refine ok_brF rfl rfl ?_
    refine ok_brF rfl rfl ?_
    refine ok_callS rfl (by kernel_rfl) (less_is hab _) ?_
    refine ok_brF rfl rfl ?_
    refine ok_brF rfl rfl ?_
    refine ok_brF rfl rfl ?_
    refine ok_brF rfl rfl ?_
    refine ok_brF rfl rfl ?_
    refine ok_brF rfl rfl ?_
    refine ok_brF rfl rfl ?_
    refine ok_brF rfl rfl ?_
    refine ok_brF rfl rfl ?_
    refine ok_brF rfl rfl ?_
    refine ok_callS rfl (by kernel_rfl) (less_is hab _) ?_
    refine ok_brF rfl rfl ?_
    refine ok_brF rfl rfl ?_
    refine ok_brF rfl rfl ?_
    refine ok_brF rfl rfl ?_
    refine ok_brF rfl rfl ?_
    refine ok_brF rfl rfl ?_
    refine ok_brF rfl rfl ?_
    refine ok_brF rfl rfl ?_
    refine ok_brF rfl rfl ?_
    refine ok_brF rfl rfl ?_
    refine ok_brF rfl rfl ?_
    refine ok_brF rfl rfl ?_
    refine ok_brF rfl rfl ?_
    refine ok_brF rfl rfl ?_
    refine ok_brF rfl rfl ?_
    refine ok_callS rfl (by kernel_rfl) (less_is hab _) ?_
    refine ok_calcB rfl true rfl ?_
    refine ok_brT rfl rfl ?_
    refine ok_brT rfl rfl ?_
    refine ok_brT rfl rfl ?_
    refine ok_callS rfl (by kernel_rfl) (less_is hba _) ?_
    refine ok_brT rfl rfl ?_
    refine ok_calcB rfl false rfl ?_
    refine ok_brT rfl rfl ?_
    refine ok_calcB rfl true rfl ?_
    refine ok_brT rfl rfl ?_
    refine ok_brT rfl rfl ?_
    refine ok_brT rfl rfl ?_
    refine ok_brT rfl rfl ?_
    refine ok_brT rfl rfl ?_
    refine ok_brT rfl rfl ?_
    refine ok_brT rfl rfl ?_
    refine ok_brT rfl rfl ?_
    refine ok_brT rfl rfl ?_
    refine ok_brT rfl rfl ?_
    exact ok_finR rfl (fin1R rfl _ rfl ⟨rfl, rfl⟩)
  · refine ok_callS rfl (by kernel_rfl) (lives_any _) ?_
    refine ok_calcB rfl false rfl ?_
    refine ok_brF rfl rfl ?_
    refine ok_brF rfl rfl ?_
    refine ok_brF rfl rfl ?_
    refine ok_callS rfl (by kernel_rfl) (less_is f0 _) ?_
    refine ok_brF rfl rfl ?_
    refine ok_brF rfl rfl ?_
    refine ok_brF rfl rfl ?_
    refine ok_brF rfl rfl ?_
    refine ok_callS rfl (by kernel_rfl) (less_is hab _) ?_
    refine ok_brF rfl rfl ?_
    refine ok_brF rfl rfl ?_
    refine ok_brF rfl rfl ?_
    refine ok_brF rfl rfl ?_
    refine ok_brF rfl rfl ?_
    refine ok_brF rfl rfl ?_
    refine ok_brF rfl rfl ?_
    refine ok_brF rfl rfl ?_
    refine ok_brF rfl rfl ?_
    refine ok_brF rfl rfl ?_
    refine ok_callS rfl (by kernel_rfl) (less_is hab _) ?_
    refine ok_brF rfl rfl ?_
    refine ok_brF rfl rfl ?_
    refine ok_brF rfl rfl ?_
    refine ok_brF rfl rfl ?_
    refine ok_brF rfl rfl ?_
    refine ok_brF rfl rfl ?_
    refine ok_brF rfl rfl ?_
    refine ok_brF rfl rfl ?_
    refine ok_brF rfl rfl ?_
    refine ok_brF rfl rfl ?_
    refine ok_brF rfl rfl ?_
    refine ok_brF rfl rfl ?_
    refine ok_brF rfl rfl ?_
    refine ok_brF rfl rfl ?_
    refine ok_brF rfl rfl ?_
    refine ok_callS rfl (by kernel_rfl) (less_is hab _) ?_
    refine ok_calcB rfl true rfl ?_
    refine ok_brT rfl rfl ?_
    refine ok_brT rfl rfl ?_
    refine ok_brT rfl rfl ?_
    refine ok_callS rfl (by kernel_rfl) (less_is hba _) ?_
    refine ok_brT rfl rfl ?_
    refine ok_calcB rfl false rfl ?_
    refine ok_brT rfl rfl ?_
    refine ok_calcB rfl true rfl ?_
    refine ok_brT rfl rfl ?_
    refine ok_brT rfl rfl ?_
    refine ok_brT rfl rfl ?_
    refine ok_brT rfl rfl ?_
    refine ok_brT rfl rfl ?_
    refine ok_brT rfl rfl ?_
    refine ok_brT rfl rfl ?_
    refine ok_brT rfl rfl ?_
    refine ok_brT rfl rfl ?_
    refine ok_brT rfl rfl ?_
    exact ok_finR rfl (fin1R rfl _ rfl ⟨rfl, rfl⟩)
  · refine ok_callS rfl (by kernel_rfl) (lives_any _) ?_
    refine ok_calcB rfl false rfl ?_
    refine ok_brF rfl rfl ?_
    refine ok_brF rfl rfl ?_
    refine ok_brF rfl rfl ?_
    refine ok_callS rfl (by kernel_rfl) (less_is f0 _) ?_
    refine ok_brF rfl rfl ?_
    refine ok_brF rfl rfl ?_
    refine ok_brF rfl rfl ?_
    refine ok_brF rfl rfl ?_
    refine ok_callS rfl (by kernel_rfl) (less_is hab _) ?_
    refine ok_brF rfl rfl ?_
    refine ok_brF rfl rfl ?_
    refine ok_brF rfl rfl ?_
    refine ok_brF rfl rfl ?_
    refine ok_brF rfl rfl ?_
    refine ok_brF rfl rfl ?_
    refine ok_brF rfl rfl ?_
    refine ok_brF rfl rfl ?_
    refine ok_brF rfl rfl ?_
    refine ok_brF rfl rfl ?_
    refine ok_callS rfl (by kernel_rfl) (less_is hab _) ?_
    refine ok_brF rfl rfl ?_
    refine ok_brF rfl rfl ?_
    refine ok_brF rfl rfl ?_
    refine ok_brF rfl rfl ?_
    refine ok_brF rfl rfl ?_
    refine ok_brF rfl rfl ?_
    refine ok_brF rfl rfl ?_
    refine ok_brF rfl rfl ?_
    refine ok_brF rfl rfl ?_
    refine ok_brF rfl rfl ?_
    refine ok_brF rfl rfl ?_
    refine ok_brF rfl rfl ?_
    refine ok_brF rfl rfl ?_
    refine ok_brF rfl rfl ?_
    refine ok_brF rfl rfl ?_
    refine ok_callS rfl (by kernel_rfl) (less_is hab _) ?_
    refine ok_calcB rfl true rfl ?_
    refine ok_brT rfl rfl ?_
    refine ok_brT rfl rfl ?_
    refine ok_brT rfl rfl ?_
    refine ok_callS rfl (by kernel_rfl) (less_is hba _) ?_
    refine ok_brT rfl rfl ?_
    refine ok_calcB rfl false rfl ?_
    refine ok_brT rfl rfl ?_
    refine ok_calcB rfl true rfl ?_
    refine ok_brT rfl rfl ?_
    refine ok_brT rfl rfl ?_
    refine ok_brT rfl rfl ?_
    refine ok_brT rfl rfl ?_
    refine ok_brT rfl rfl ?_
    refine ok_brT rfl rfl ?_
    refine ok_brT rfl rfl ?_
    refine ok_brT rfl rfl ?_
    refine ok_brT rfl rfl ?_
    refine ok_brT rfl rfl ?_
    exact ok_finR rfl (fin1R rfl _ rfl ⟨rfl, rfl⟩)
  · refine ok_callS rfl (by kernel_rfl) (lives_any _) ?_
    refine ok_calcB rfl false rfl ?_
    refine ok_brF rfl rfl ?_
    refine ok_brF rfl rfl ?_
    refine ok_brF rfl rfl ?_
    refine ok_callS rfl (by kernel_rfl) (less_is f0 _) ?_
    refine ok_brF rfl rfl ?_
    refine ok_brF rfl rfl ?_
    refine ok_brF rfl rfl ?_
    refine ok_brF rfl rfl ?_
    refine ok_callS rfl (by kernel_rfl) (less_is hab _) ?_
    refine ok_brF rfl rfl ?_
    refine ok_brF rfl rfl ?_
    refine ok_brF rfl rfl ?_
    refine ok_brF rfl rfl ?_
    refine ok_brF rfl rfl ?_
    refine ok_brF rfl rfl ?_
    refine ok_brF rfl rfl ?_
    refine ok_brF rfl rfl ?_
    refine ok_brF rfl rfl ?_
    refine ok_brF rfl rfl ?_
    refine ok_callS rfl (by kernel_rfl) (less_is hab _) ?_
    refine ok_brF rfl rfl ?_
    refine ok_brF rfl rfl ?_
    refine ok_brF rfl rfl ?_
    refine ok_brF rfl rfl ?_
    refine ok_brF rfl rfl ?_
    refine ok_brF rfl rfl ?_
    refine ok_brF rfl rfl ?_
    refine ok_brF rfl rfl ?_
    refine ok_brF rfl rfl ?_
    refine ok_brF rfl rfl ?_
    refine ok_brF rfl rfl ?_
    refine ok_brF rfl rfl ?_
    refine ok_brF rfl rfl ?_
    refine ok_brF rfl rfl ?_
    refine ok_brF rfl rfl ?_
    refine ok_callS rfl (by kernel_rfl) (less_is hab _) ?_
    refine ok_calcB rfl true rfl ?_
    refine ok_brT rfl rfl ?_
    refine ok_brT rfl rfl ?_
    refine ok_brT rfl rfl ?_
    refine ok_callS rfl (by kernel_rfl) (less_is hba _) ?_
    refine ok_brT rfl rfl ?_
    refine ok_calcB rfl false rfl ?_
    refine ok_brT rfl rfl ?_
    refine ok_calcB rfl true rfl ?_
    refine ok_brT rfl rfl ?_
    refine ok_brT rfl rfl ?_
    refine ok_brT rfl rfl ?_
    refine ok_brT rfl rfl ?_
    refine ok_brT rfl rfl ?_
    refine ok_brT rfl rfl ?_
    refine ok_brT rfl rfl ?_
    refine ok_brT rfl rfl ?_
    refine ok_brT rfl rfl ?_
    refine ok_brT rfl rfl ?_
    exact ok_finR rfl (fin1R rfl _ rfl ⟨rfl, rfl⟩)
  · refine ok_callS rfl (by kernel_rfl) (lives_any _) ?_
    refine ok_calcB rfl false rfl ?_
    refine ok_brF rfl rfl ?_
    refine ok_brF rfl rfl ?_
    refine ok_brF rfl rfl ?_
    refine ok_callS rfl (by kernel_rfl) (less_is f0 _) ?_
    refine ok_brF rfl rfl ?_
    refine ok_brF rfl rfl ?_
    refine ok_brF rfl rfl ?_
    refine ok_brF rfl rfl ?_
    refine ok_callS rfl (by kernel_rfl) (less_is hab _) ?_
    refine ok_brF rfl rfl ?_
    refine ok_brT rfl rfl ?_
    refine ok_brT rfl rfl ?_
    refine ok_brT rfl rfl ?_
    refine ok_callS rfl (by kernel_rfl) (less_is hba _) ?_
    refine ok_brF rfl rfl ?_
    refine ok_brT rfl rfl ?_
    refine ok_brF rfl rfl ?_
    refine ok_brF rfl rfl ?_
    refine ok_brF rfl rfl ?_
    refine ok_brF rfl rfl ?_
    refine ok_callS rfl (by kernel_rfl) (less_is hab _) ?_
    refine ok_brF rfl rfl ?_
    refine ok_brT rfl rfl ?_
    refine ok_brT rfl rfl ?_
    refine ok_brT rfl rfl ?_
    refine ok_callS rfl (by kernel_rfl) (less_is hbc _) ?_
    refine ok_brF rfl rfl ?_
    refine ok_brT rfl rfl ?_
    refine ok_brF rfl rfl ?_
    refine ok_brF rfl rfl ?_
    refine ok_brF rfl rfl ?_
    refine ok_brF rfl rfl ?_
    refine ok_brF rfl rfl ?_
    refine ok_brF rfl rfl ?_
    refine ok_brF rfl rfl ?_
    refine ok_brF rfl rfl ?_
    refine ok_brF rfl rfl ?_
    refine ok_callS rfl (by kernel_rfl) (less_is hab _) ?_
    refine ok_calcB rfl false rfl ?_
    refine ok_brF rfl rfl ?_
    refine ok_brF rfl rfl ?_
    refine ok_brF rfl rfl ?_
    refine ok_brF rfl rfl ?_
    refine ok_brF rfl rfl ?_
    refine ok_calcB rfl true rfl ?_
    refine ok_brT rfl rfl ?_
    refine ok_brT rfl rfl ?_
    refine ok_brT rfl rfl ?_
    refine ok_brT rfl rfl ?_
    refine ok_brT rfl rfl ?_
    refine ok_brT rfl rfl ?_
    refine ok_brT rfl rfl ?_
    refine ok_brT rfl rfl ?_
    refine ok_brT rfl rfl ?_
    refine ok_brT rfl rfl ?_
    exact ok_finR rfl (fin1R rfl _ rfl ⟨rfl, rfl⟩)
  · refine ok_callS rfl (by kernel_rfl) (lives_any _) ?_
    refine ok_calcB rfl false rfl ?_
    refine ok_brF rfl rfl ?_
    refine ok_brF rfl rfl ?_
    refine ok_brF rfl rfl ?_
    refine ok_callS rfl (by kernel_rfl) (less_is f0 _) ?_
    refine ok_brF rfl rfl ?_
    refine ok_brF rfl rfl ?_
    refine ok_brF rfl rfl ?_
    refine ok_brF rfl rfl ?_
    refine ok_callS rfl (by kernel_rfl) (less_is hab _) ?_
    refine ok_brF rfl rfl ?_
    refine ok_brT rfl rfl ?_
    refine ok_brT rfl rfl ?_
    refine ok_brT rfl rfl ?_
    refine ok_callS rfl (by kernel_rfl) (less_is hba _) ?_
    refine ok_brF rfl rfl ?_
    refine ok_brT rfl rfl ?_
    refine ok_brF rfl rfl ?_
    refine ok_brF rfl rfl ?_
    refine ok_brF rfl rfl ?_
    refine ok_brF rfl rfl ?_
    refine ok_callS rfl (by kernel_rfl) (less_is hab _) ?_
    refine ok_brF rfl rfl ?_
    refine ok_brT rfl rfl ?_
    refine ok_brT rfl rfl ?_
    refine ok_brT rfl rfl ?_
    refine ok_callS rfl (by kernel_rfl) (less_is hbc _) ?_
    refine ok_brF rfl rfl ?_
    refine ok_brT rfl rfl ?_
    refine ok_brF rfl rfl ?_
    refine ok_brF rfl rfl ?_
    refine ok_brF rfl rfl ?_
    refine ok_brF rfl rfl ?_
    refine ok_brF rfl rfl ?_
    refine ok_brF rfl rfl ?_
    refine ok_brF rfl rfl ?_
    refine ok_brF rfl rfl ?_
    refine ok_brF rfl rfl ?_
    refine ok_callS rfl (by kernel_rfl) (less_is hab _) ?_
    refine ok_calcB rfl false rfl ?_
    refine ok_brF rfl rfl ?_
    refine ok_brF rfl rfl ?_
    refine ok_brF rfl rfl ?_
    refine ok_brF rfl rfl ?_
    refine ok_brF rfl rfl ?_
    refine ok_calcB rfl true rfl ?_
    refine ok_brT rfl rfl ?_
    refine ok_brT rfl rfl ?_
    refine ok_brT rfl rfl ?_
    refine ok_brT rfl rfl ?_
    refine ok_brT rfl rfl ?_
    refine ok_brT rfl rfl ?_
    refine ok_brT rfl rfl ?_
    refine ok_brT rfl rfl ?_
    refine ok_brT rfl rfl ?_
    refine ok_brT rfl rfl ?_
    exact ok_finR rfl (fin1R rfl _ rfl ⟨rfl, rfl⟩)
  · refine ok_callS rfl (by kernel_rfl) (lives_any _) ?_
    refine ok_calcB rfl false rfl ?_
    refine ok_brF rfl rfl ?_
    refine ok_brF rfl rfl ?_
    refine ok_brF rfl rfl ?_
    refine ok_callS rfl (by kernel_rfl) (less_is f0 _) ?_
    refine ok_brF rfl rfl ?_
    refine ok_brF rfl rfl ?_
    refine ok_brF rfl rfl ?_
    refine ok_brF rfl rfl ?_
    refine ok_callS rfl (by kernel_rfl) (less_is hab _) ?_
    refine ok_brF rfl rfl ?_
    refine ok_brT rfl rfl ?_
    refine ok_brT rfl rfl ?_
    refine ok_brT rfl rfl ?_
    refine ok_callS rfl (by kernel_rfl) (less_is hba _) ?_
    refine ok_brF rfl rfl ?_
    refine ok_brT rfl rfl ?_
    refine ok_brF rfl rfl ?_
    refine ok_brF rfl rfl ?_
    refine ok_brF rfl rfl ?_
    refine ok_brF rfl rfl ?_
    refine ok_callS rfl (by kernel_rfl) (less_is hab _) ?_
    refine ok_brF rfl rfl ?_
    refine ok_brT rfl rfl ?_
    refine ok_brT rfl rfl ?_
    refine ok_brT rfl rfl ?_
    refine ok_callS rfl (by kernel_rfl) (less_is hbc _) ?_
    refine ok_brF rfl rfl ?_
    refine ok_brT rfl rfl ?_
    refine ok_brF rfl rfl ?_
    refine ok_brF rfl rfl ?_
    refine ok_brF rfl rfl ?_
    refine ok_brF rfl rfl ?_
    refine ok_brF rfl rfl ?_
    refine ok_brF rfl rfl ?_
    refine ok_brF rfl rfl ?_
    refine ok_brF rfl rfl ?_
    refine ok_brF rfl rfl ?_
    refine ok_callS rfl (by kernel_rfl) (less_is hab _) ?_
    refine ok_calcB rfl false rfl ?_
    refine ok_brF rfl rfl ?_
    refine ok_brF rfl rfl ?_
    refine ok_brF rfl rfl ?_
    refine ok_brF rfl rfl ?_
    refine ok_brF rfl rfl ?_
    refine ok_calcB rfl true rfl ?_
    refine ok_brT rfl rfl ?_
    refine ok_brT rfl rfl ?_
    refine ok_brT rfl rfl ?_
    refine ok_brT rfl rfl ?_
    refine ok_brT rfl rfl ?_
    refine ok_brT rfl rfl ?_
    refine ok_brT rfl rfl ?_
    refine ok_brT rfl rfl ?_
    refine ok_brT rfl rfl ?_
    refine ok_brT rfl rfl ?_
    exact ok_finR rfl (fin1R rfl _ rfl ⟨rfl, rfl⟩)
  · refine ok_callS rfl (by kernel_rfl) (lives_any _) ?_
    refine ok_calcB rfl false rfl ?_
    refine ok_brF rfl rfl ?_
    refine ok_brF rfl rfl ?_
    refine ok_brF rfl rfl ?_
    refine ok_callS rfl (by kernel_rfl) (less_is f0 _) ?_
    refine ok_brF rfl rfl ?_
    refine ok_brF rfl rfl ?_
    refine ok_brF rfl rfl ?_
    refine ok_brF rfl rfl ?_
    refine ok_callS rfl (by kernel_rfl) (less_is hab _) ?_
    refine ok_brF rfl rfl ?_
    refine ok_brT rfl rfl ?_
    refine ok_brT rfl rfl ?_
    refine ok_brT rfl rfl ?_
    refine ok_callS rfl (by kernel_rfl) (less_is hba _) ?_
    refine ok_brF rfl rfl ?_
    refine ok_brT rfl rfl ?_
    refine ok_brF rfl rfl ?_
    refine ok_brF rfl rfl ?_
    refine ok_brF rfl rfl ?_
    refine ok_brF rfl rfl ?_
    refine ok_callS rfl (by kernel_rfl) (less_is hab _) ?_
    refine ok_brF rfl rfl ?_
    refine ok_brT rfl rfl ?_
    refine ok_brT rfl rfl ?_
    refine ok_brT rfl rfl ?_
    refine ok_callS rfl (by kernel_rfl) (less_is hbc _) ?_
    refine ok_brF rfl rfl ?_
    refine ok_brT rfl rfl ?_
    refine ok_brF rfl rfl ?_
    refine ok_brF rfl rfl ?_
    refine ok_brF rfl rfl ?_
    refine ok_brF rfl rfl ?_
    refine ok_brF rfl rfl ?_
    refine ok_brF rfl rfl ?_
    refine ok_brF rfl rfl ?_
    refine ok_brF rfl rfl ?_
    refine ok_brF rfl rfl ?_
    refine ok_callS rfl (by kernel_rfl) (less_is hab _) ?_
    refine ok_calcB rfl false rfl ?_
    refine ok_brF rfl rfl ?_
    refine ok_brF rfl rfl ?_
    refine ok_brF rfl rfl ?_
    refine ok_brF rfl rfl ?_
    refine ok_brF rfl rfl ?_
    refine ok_calcB rfl true rfl ?_
    refine ok_brT rfl rfl ?_
    refine ok_brT rfl rfl ?_
    refine ok_brT rfl rfl ?_
    refine ok_brT rfl rfl ?_
    refine ok_brT rfl rfl ?_
    refine ok_brT rfl rfl ?_
    refine ok_brT rfl rfl ?_
    refine ok_brT rfl rfl ?_
    refine ok_brT rfl rfl ?_
    refine ok_brT rfl rfl ?_
    exact ok_finR rfl (fin1R rfl _ rfl ⟨rfl, rfl⟩)
  · refine ok_callS rfl (by kernel_rfl) (lives_any _) ?_
    refine ok_calcB rfl false rfl ?_
    refine ok_brF rfl rfl ?_
    refine ok_brF rfl rfl ?_
    refine ok_brF rfl rfl ?_
    refine ok_callS rfl (by kernel_rfl) (less_is f0 _) ?_
    refine ok_brF rfl rfl ?_
    refine ok_brF rfl rfl ?_
    refine ok_brF rfl rfl ?_
    refine ok_brF rfl rfl ?_
    refine ok_callS rfl (by kernel_rfl) (less_is hab _) ?_
    refine ok_brF rfl rfl ?_
    refine ok_brT rfl rfl ?_
    refine ok_brT rfl rfl ?_
    refine ok_brT rfl rfl ?_
    refine ok_callS rfl (by kernel_rfl) (less_is hba _) ?_
    refine ok_brF rfl rfl ?_
    refine ok_brT rfl rfl ?_
    refine ok_brF rfl rfl ?_
    refine ok_brF rfl rfl ?_
    refine ok_brF rfl rfl ?_
    refine ok_brF rfl rfl ?_
    refine ok_callS rfl (by kernel_rfl) (less_is hab _) ?_
    refine ok_brF rfl rfl ?_
    refine ok_brT rfl rfl ?_
    refine ok_brT rfl rfl ?_
    refine ok_brT rfl rfl ?_
    refine ok_callS rfl (by kernel_rfl) (less_is hbc _) ?_
    refine ok_brF rfl rfl ?_
    refine ok_brT rfl rfl ?_
    refine ok_brF rfl rfl ?_
    refine ok_brF rfl rfl ?_
    refine ok_brF rfl rfl ?_
    refine ok_brF rfl rfl ?_
    refine ok_brF rfl rfl ?_
    refine ok_brF rfl rfl ?_
    refine ok_brF rfl rfl ?_
    refine ok_brF rfl rfl ?_
    refine ok_brF rfl rfl ?_
    refine ok_callS rfl (by kernel_rfl) (less_is hab _) ?_
    refine ok_calcB rfl false rfl ?_
    refine ok_brF rfl rfl ?_
    refine ok_brF rfl rfl ?_
    refine ok_brF rfl rfl ?_
    refine ok_brF rfl rfl ?_
    refine ok_brF rfl rfl ?_
    refine ok_calcB rfl true rfl ?_
    refine ok_brT rfl rfl ?_
    refine ok_brT rfl rfl ?_
    refine ok_brT rfl rfl ?_
    refine ok_brT rfl rfl ?_
    refine ok_brT rfl rfl ?_
    refine ok_brT rfl rfl ?_
    refine ok_brT rfl rfl ?_
    refine ok_brT rfl rfl ?_
    refine ok_brT rfl rfl ?_
    refine ok_brT rfl rfl ?_
    exact ok_finR rfl (fin1R rfl _ rfl ⟨rfl, rfl⟩)
  · refine ok_callS rfl (by kernel_rfl) (lives_any _) ?_
    refine ok_calcB rfl false rfl ?_
    refine ok_brF rfl rfl ?_
    refine ok_brF rfl rfl ?_
    refine ok_brF rfl rfl ?_
    refine ok_callS rfl (by kernel_rfl) (less_is f0 _) ?_
    refine ok_brF rfl rfl ?_
    refine ok_brF rfl rfl ?_
    refine ok_brF rfl rfl ?_
    refine ok_brF rfl rfl ?_
    refine ok_callS rfl (by kernel_rfl) (less_is hab _) ?_
    refine ok_brF rfl rfl ?_
    refine ok_brT rfl rfl ?_
    refine ok_brT rfl rfl ?_
    refine ok_brT rfl rfl ?_
    refine ok_callS rfl (by kernel_rfl) (less_is hba _) ?_
    refine ok_brF rfl rfl ?_
    refine ok_brT rfl rfl ?_
    refine ok_brF rfl rfl ?_
    refine ok_brF rfl rfl ?_
    refine ok_brF rfl rfl ?_
    refine ok_brF rfl rfl ?_
    refine ok_callS rfl (by kernel_rfl) (less_is hab _) ?_
    refine ok_brF rfl rfl ?_
    refine ok_brT rfl rfl ?_
    refine ok_brT rfl rfl ?_
    refine ok_brT rfl rfl ?_
    refine ok_callS rfl (by kernel_rfl) (less_is hbc _) ?_
    refine ok_brF rfl rfl ?_
    refine ok_brT rfl rfl ?_
    refine ok_brF rfl rfl ?_
    refine ok_brF rfl rfl ?_
    refine ok_brF rfl rfl ?_
    refine ok_brF rfl rfl ?_
    refine ok_brF rfl rfl ?_
    refine ok_brF rfl rfl ?_
    refine ok_brF rfl rfl ?_
    refine ok_brF rfl rfl ?_
    refine ok_brF rfl rfl ?_
    refine ok_callS rfl (by kernel_rfl) (less_is hab _) ?_
    refine ok_calcB rfl false rfl ?_
    refine ok_brF rfl rfl ?_
    refine ok_brF rfl rfl ?_
    refine ok_brF rfl rfl ?_
    refine ok_brF rfl rfl ?_
    refine ok_brF rfl rfl ?_
    refine ok_calcB rfl true rfl ?_
    refine ok_brT rfl rfl ?_
    refine ok_brT rfl rfl ?_
    refine ok_brT rfl rfl ?_
    refine ok_brT rfl rfl ?_
    refine ok_brT rfl rfl ?_
    refine ok_brT rfl rfl ?_
    refine ok_brT rfl rfl ?_
    refine ok_brT rfl rfl ?_
    refine ok_brT rfl rfl ?_
    refine ok_brT rfl rfl ?_
    exact ok_finR rfl (fin1R rfl _ rfl ⟨rfl, rfl⟩)
  · refine ok_callS rfl (by kernel_rfl) (lives_any _) ?_
    refine ok_calcB rfl false rfl ?_
    refine ok_brF rfl rfl ?_
    refine ok_brF rfl rfl ?_
    refine ok_brF rfl rfl ?_
    refine ok_callS rfl (by kernel_rfl) (less_is f0 _) ?_
    refine ok_brF rfl rfl ?_
    refine ok_brF rfl rfl ?_
    refine ok_brF rfl rfl ?_
    refine ok_brF rfl rfl ?_
    refine ok_callS rfl (by kernel_rfl) (less_is hab _) ?_
    refine ok_brF rfl rfl ?_
    refine ok_brT rfl rfl ?_
    refine ok_brT rfl rfl ?_
    refine ok_brT rfl rfl ?_
    refine ok_callS rfl (by kernel_rfl) (less_is hba _) ?_
    refine ok_brF rfl rfl ?_
    refine ok_brT rfl rfl ?_
    refine ok_brF rfl rfl ?_
    refine ok_brF rfl rfl ?_
    refine ok_brF rfl rfl ?_
    refine ok_brF rfl rfl ?_
    refine ok_callS rfl (by kernel_rfl) (less_is hab _) ?_
    refine ok_brF rfl rfl ?_
    refine ok_brT rfl rfl ?_
    refine ok_brT rfl rfl ?_
    refine ok_brT rfl rfl ?_
    refine ok_callS rfl (by kernel_rfl) (less_is hbc _) ?_
    refine ok_brF rfl rfl ?_
    refine ok_brT rfl rfl ?_
    refine ok_brF rfl rfl ?_
    refine ok_brF rfl rfl ?_
    refine ok_brF rfl rfl ?_
    refine ok_brF rfl rfl ?_
    refine ok_brF rfl rfl ?_
    refine ok_brF rfl rfl ?_
    refine ok_brF rfl rfl ?_
    refine ok_brF rfl rfl ?_
    refine ok_brF rfl rfl ?_
    refine ok_callS rfl (by kernel_rfl) (less_is hab _) ?_
    refine ok_calcB rfl false rfl ?_
    refine ok_brF rfl rfl ?_
    refine ok_brF rfl rfl ?_
    refine ok_brF rfl rfl ?_
    refine ok_brF rfl rfl ?_
    refine ok_brF rfl rfl ?_
    refine ok_calcB rfl true rfl ?_
    refine ok_brT rfl rfl ?_
    refine ok_brT rfl rfl ?_
    refine ok_brT rfl rfl ?_
    refine ok_brT rfl rfl ?_
    refine ok_brT rfl rfl ?_
    refine ok_brT rfl rfl ?_
    refine ok_brT rfl rfl ?_
    refine ok_brT rfl rfl ?_
    refine ok_brT rfl rfl ?_
    refine ok_brT rfl rfl ?_
    exact ok_finR rfl (fin1R rfl _ rfl ⟨rfl, rfl⟩)
  · refine ok_callS rfl (by kernel_rfl) (lives_any _) ?_
    refine ok_calcB rfl false rfl ?_
    refine ok_brF rfl rfl ?_
    refine ok_brF rfl rfl ?_
    refine ok_brF rfl rfl ?_
    refine ok_callS rfl (by kernel_rfl) (less_is f0 _) ?_
    refine ok_brF rfl rfl ?_
    refine ok_brF rfl rfl ?_
    refine ok_brF rfl rfl ?_
    refine ok_brF rfl rfl ?_
    refine ok_callS rfl (by kernel_rfl) (less_is hab _) ?_
    refine ok_brF rfl rfl ?_
    refine ok_brT rfl rfl ?_
    refine ok_brT rfl rfl ?_
    refine ok_brT rfl rfl ?_
    refine ok_callS rfl (by kernel_rfl) (less_is hba _) ?_
    refine ok_brF rfl rfl ?_
    refine ok_brT rfl rfl ?_
    refine ok_brF rfl rfl ?_
    refine ok_brF rfl rfl ?_
    refine ok_brF rfl rfl ?_
    refine ok_brF rfl rfl ?_
    refine ok_callS rfl (by kernel_rfl) (less_is hab _) ?_
    refine ok_brF rfl rfl ?_
    refine ok_brT rfl rfl ?_
    refine ok_brT rfl rfl ?_
    refine ok_brT rfl rfl ?_
    refine ok_callS rfl (by kernel_rfl) (less_is hbc _) ?_
    refine ok_brF rfl rfl ?_
    refine ok_brT rfl rfl ?_
    refine ok_brF rfl rfl ?_
    refine ok_brF rfl rfl ?_
    refine ok_brF rfl rfl ?_
    refine ok_brF rfl rfl ?_
    refine ok_brF rfl rfl ?_
    refine ok_brF rfl rfl ?_
    refine ok_brF rfl rfl ?_
    refine ok_brF rfl rfl ?_
    refine ok_brF rfl rfl ?_
    refine ok_callS rfl (by kernel_rfl) (less_is hab _) ?_
    refine ok_calcB rfl false rfl ?_
    refine ok_brF rfl rfl ?_
    refine ok_brF rfl rfl ?_
    refine ok_brF rfl rfl ?_
    refine ok_brF rfl rfl ?_
    refine ok_brF rfl rfl ?_
    refine ok_calcB rfl true rfl ?_
    refine ok_brT rfl rfl ?_
    refine ok_brT rfl rfl ?_
    refine ok_brT rfl rfl ?_
    refine ok_brT rfl rfl ?_
    refine ok_brT rfl rfl ?_
    refine ok_brT rfl rfl ?_
    refine ok_brT rfl rfl ?_
    refine ok_brT rfl rfl ?_
    refine ok_brT rfl rfl ?_
    refine ok_brT rfl rfl ?_
    exact ok_finR rfl (fin1R rfl _ rfl ⟨rfl, rfl⟩)
  · exact absurd (f3 rfl rfl) (by decide)
  · exact absurd (f3 rfl rfl) (by decide)
  · exact absurd (f3 rfl rfl) (by decide)
  · exact absurd (f3 rfl rfl) (by decide)
  · refine ok_callS rfl (by kernel_rfl) (lives_any _) ?_
    refine ok_calcB rfl false rfl ?_
    refine ok_brF rfl rfl ?_
    refine ok_brF rfl rfl ?_
    refine ok_brF rfl rfl ?_
    refine ok_callS rfl (by kernel_rfl) (less_is f0 _) ?_
    refine ok_brF rfl rfl ?_
    refine ok_brF rfl rfl ?_
    refine ok_brF rfl rfl ?_
    refine ok_brF rfl rfl ?_
    refine ok_callS rfl (by kernel_rfl) (less_is hab _) ?_
    refine ok_brF rfl rfl ?_
    refine ok_brT rfl rfl ?_
    refine ok_brT rfl rfl ?_
    refine ok_brT rfl rfl ?_
    refine ok_callS rfl (by kernel_rfl) (less_is hba _) ?_
    refine ok_brF rfl rfl ?_
    refine ok_brT rfl rfl ?_
    refine ok_brF rfl rfl ?_
    refine ok_brF rfl rfl ?_
    refine ok_brF rfl rfl ?_
    refine ok_brF rfl rfl ?_
    refine ok_callS rfl (by kernel_rfl) (less_is hab _) ?_
    refine ok_brF rfl rfl ?_
    refine ok_brT rfl rfl ?_
    refine ok_brT rfl rfl ?_
    refine ok_brT rfl rfl ?_
    refine ok_callS rfl (by kernel_rfl) (less_is hbc _) ?_
    refine ok_brF rfl rfl ?_
    refine ok_brT rfl rfl ?_
    refine ok_brF rfl rfl ?_
    refine ok_brT rfl rfl ?_
    refine ok_brT rfl rfl ?_
    refine ok_brT rfl rfl ?_
    refine ok_callS rfl (by kernel_rfl) (less_is hac _) ?_
    refine ok_brT rfl rfl ?_
    refine ok_calcB rfl false rfl ?_
    refine ok_brF rfl rfl ?_
    refine ok_brT rfl rfl ?_
    refine ok_brF rfl rfl ?_
    refine ok_brF rfl rfl ?_
    refine ok_callS rfl (by kernel_rfl) (less_is hab _) ?_
    refine ok_calcB rfl false rfl ?_
    refine ok_brF rfl rfl ?_
    refine ok_brF rfl rfl ?_
    refine ok_brF rfl rfl ?_
    refine ok_brF rfl rfl ?_
    refine ok_brF rfl rfl ?_
    refine ok_calcB rfl true rfl ?_
    refine ok_brT rfl rfl ?_
    refine ok_brT rfl rfl ?_
    refine ok_brT rfl rfl ?_
    refine ok_brT rfl rfl ?_
    refine ok_brT rfl rfl ?_
    refine ok_brT rfl rfl ?_
    refine ok_brT rfl rfl ?_
    refine ok_brT rfl rfl ?_
    refine ok_brT rfl rfl ?_
    refine ok_brT rfl rfl ?_
    exact ok_finR rfl (fin1R rfl _ rfl ⟨rfl, rfl⟩)
  · refine ok_callS rfl (by kernel_rfl) (lives_any _) ?_
    refine ok_calcB rfl false rfl ?_
    refine ok_brF rfl rfl ?_
    refine ok_brF rfl rfl ?_
    refine ok_brF rfl rfl ?_
    refine ok_callS rfl (by kernel_rfl) (less_is f0 _) ?_
    refine ok_brF rfl rfl ?_
    refine ok_brF rfl rfl ?_
    refine ok_brF rfl rfl ?_
    refine ok_brF rfl rfl ?_
    refine ok_callS rfl (by kernel_rfl) (less_is hab _) ?_
    refine ok_brF rfl rfl ?_
    refine ok_brT rfl rfl ?_
    refine ok_brT rfl rfl ?_
    refine ok_brT rfl rfl ?_
    refine ok_callS rfl (by kernel_rfl) (less_is hba _) ?_
    refine ok_brF rfl rfl ?_
    refine ok_brT rfl rfl ?_
    refine ok_brF rfl rfl ?_
    refine ok_brF rfl rfl ?_
    refine ok_brF rfl rfl ?_
    refine ok_brF rfl rfl ?_
    refine ok_callS rfl (by kernel_rfl) (less_is hab _) ?_
    refine ok_brF rfl rfl ?_
    refine ok_brT rfl rfl ?_
    refine ok_brT rfl rfl ?_
    refine ok_brT rfl rfl ?_
    refine ok_callS rfl (by kernel_rfl) (less_is hbc _) ?_
    refine ok_brF rfl rfl ?_
    refine ok_brT rfl rfl ?_
    refine ok_brF rfl rfl ?_
    refine ok_brT rfl rfl ?_
    refine ok_brT rfl rfl ?_
    refine ok_brT rfl rfl ?_
    refine ok_callS rfl (by kernel_rfl) (less_is hac _) ?_
    refine ok_brT rfl rfl ?_
    refine ok_calcB rfl false rfl ?_
    refine ok_brF rfl rfl ?_
    refine ok_brT rfl rfl ?_
    refine ok_brF rfl rfl ?_
    refine ok_brF rfl rfl ?_
    refine ok_callS rfl (by kernel_rfl) (less_is hab _) ?_
    refine ok_calcB rfl false rfl ?_
    refine ok_brF rfl rfl ?_
    refine ok_brF rfl rfl ?_
    refine ok_brF rfl rfl ?_
    refine ok_brF rfl rfl ?_
    refine ok_brF rfl rfl ?_
    refine ok_calcB rfl true rfl ?_
    refine ok_brT rfl rfl ?_
    refine ok_brT rfl rfl ?_
    refine ok_brT rfl rfl ?_
    refine ok_brT rfl rfl ?_
    refine ok_brT rfl rfl ?_
    refine ok_brT rfl rfl ?_
    refine ok_brT rfl rfl ?_
    refine ok_brT rfl rfl ?_
    refine ok_brT rfl rfl ?_
    refine ok_brT rfl rfl ?_
    exact ok_finR rfl (fin1R rfl _ rfl ⟨rfl, rfl⟩)
  · refine ok_callS rfl (by kernel_rfl) (lives_any _) ?_
    refine ok_calcB rfl false rfl ?_
    refine ok_brF rfl rfl ?_
    refine ok_brF rfl rfl ?_
    refine ok_brF rfl rfl ?_
    refine ok_callS rfl (by kernel_rfl) (less_is f0 _) ?_
    refine ok_brF rfl rfl ?_
    refine ok_brF rfl rfl ?_
    refine ok_brF rfl rfl ?_
    refine ok_brF rfl rfl ?_
    refine ok_callS rfl (by kernel_rfl) (less_is hab _) ?_
    refine ok_brF rfl rfl ?_
    refine ok_brT rfl rfl ?_
    refine ok_brT rfl rfl ?_
    refine ok_brT rfl rfl ?_
    refine ok_callS rfl (by kernel_rfl) (less_is hba _) ?_
    refine ok_brF rfl rfl ?_
    refine ok_brT rfl rfl ?_
    refine ok_brF rfl rfl ?_
    refine ok_brF rfl rfl ?_
    refine ok_brF rfl rfl ?_
    refine ok_brF rfl rfl ?_
    refine ok_callS rfl (by kernel_rfl) (less_is hab _) ?_
    refine ok_brF rfl rfl ?_
    refine ok_brT rfl rfl ?_
    refine ok_brT rfl rfl ?_
    refine ok_brT rfl rfl ?_
    refine ok_callS rfl (by kernel_rfl) (less_is hbc _) ?_
    refine ok_brF rfl rfl ?_
    refine ok_brT rfl rfl ?_
    refine ok_brF rfl rfl ?_
    refine ok_brT rfl rfl ?_
    refine ok_brT rfl rfl ?_
    refine ok_brT rfl rfl ?_
    refine ok_callS rfl (by kernel_rfl) (less_is hac _) ?_
    refine ok_brT rfl rfl ?_
    refine ok_calcB rfl false rfl ?_
    refine ok_brF rfl rfl ?_
    refine ok_brT rfl rfl ?_
    refine ok_brF rfl rfl ?_
    refine ok_brF rfl rfl ?_
    refine ok_callS rfl (by kernel_rfl) (less_is hab _) ?_
    refine ok_calcB rfl false rfl ?_
    refine ok_brF rfl rfl ?_
    refine ok_brF rfl rfl ?_
    refine ok_brF rfl rfl ?_
    refine ok_brF rfl rfl ?_
    refine ok_brF rfl rfl ?_
    refine ok_calcB rfl true rfl ?_
    refine ok_brT rfl rfl ?_
    refine ok_brT rfl rfl ?_
    refine ok_brT rfl rfl ?_
    refine ok_brT rfl rfl ?_
    refine ok_brT rfl rfl ?_
    refine ok_brT rfl rfl ?_
    refine ok_brT rfl rfl ?_
    refine ok_brT rfl rfl ?_
    refine ok_brT rfl rfl ?_
    refine ok_brT rfl rfl ?_
    exact ok_finR rfl (fin1R rfl _ rfl ⟨rfl, rfl⟩)
  · refine ok_callS rfl (by kernel_rfl) (lives_any _) ?_
    refine ok_calcB rfl false rfl ?_
    refine ok_brF rfl rfl ?_
    refine ok_brF rfl rfl ?_
    refine ok_brF rfl rfl ?_
    refine ok_callS rfl (by kernel_rfl) (less_is f0 _) ?_
    refine ok_brF rfl rfl ?_
    refine ok_brF rfl rfl ?_
    refine ok_brF rfl rfl ?_
    refine ok_brF rfl rfl ?_
    refine ok_callS rfl (by kernel_rfl) (less_is hab _) ?_
    refine ok_brF rfl rfl ?_
    refine ok_brT rfl rfl ?_
    refine ok_brT rfl rfl ?_
    refine ok_brT rfl rfl ?_
    refine ok_callS rfl (by kernel_rfl) (less_is hba _) ?_
    refine ok_brF rfl rfl ?_
    refine ok_brT rfl rfl ?_
    refine ok_brF rfl rfl ?_
    refine ok_brF rfl rfl ?_
    refine ok_brF rfl rfl ?_
    refine ok_brF rfl rfl ?_
    refine ok_callS rfl (by kernel_rfl) (less_is hab _) ?_
    refine ok_brF rfl rfl ?_
    refine ok_brT rfl rfl ?_
    refine ok_brT rfl rfl ?_
    refine ok_brT rfl rfl ?_
    refine ok_callS rfl (by kernel_rfl) (less_is hbc _) ?_
    refine ok_brF rfl rfl ?_
    refine ok_brT rfl rfl ?_
    refine ok_brF rfl rfl ?_
    refine ok_brT rfl rfl ?_
    refine ok_brT rfl rfl ?_
    refine ok_brT rfl rfl ?_
    refine ok_callS rfl (by kernel_rfl) (less_is hac _) ?_
    refine ok_brT rfl rfl ?_
    refine ok_calcB rfl false rfl ?_
    refine ok_brF rfl rfl ?_
    refine ok_brT rfl rfl ?_
    refine ok_brF rfl rfl ?_
    refine ok_brF rfl rfl ?_
    refine ok_callS rfl (by kernel_rfl) (less_is hab _) ?_
    refine ok_calcB rfl false rfl ?_
    refine ok_brF rfl rfl ?_
    refine ok_brF rfl rfl ?_
    refine ok_brF rfl rfl ?_
    refine ok_brF rfl rfl ?_
    refine ok_brF rfl rfl ?_
    refine ok_calcB rfl true rfl ?_
    refine ok_brT rfl rfl ?_
    refine ok_brT rfl rfl ?_
    refine ok_brT rfl rfl ?_
    refine ok_brT rfl rfl ?_
    refine ok_brT rfl rfl ?_
    refine ok_brT rfl rfl ?_
    refine ok_brT rfl rfl ?_
    refine ok_brT rfl rfl ?_
    refine ok_brT rfl rfl ?_
    refine ok_brT rfl rfl ?_
    exact ok_finR rfl (fin1R rfl _ rfl ⟨rfl, rfl⟩)
  · exact (f2 rfl rfl).elim
  · exact (f2 rfl rfl).elim
  · exact (f2 rfl rfl).elim
  · exact (f2 rfl rfl).elim
  · exact (f2 rfl rfl).elim
  · exact (f2 rfl rfl).elim
  · exact (f2 rfl rfl).elim
  · exact (f2 rfl rfl).elim
  · exact (f2 rfl rfl).elim
  · exact (f2 rfl rfl).elim
  · exact (f2 rfl rfl).elim
  · exact (f2 rfl rfl).elim
  · exact (f2 rfl rfl).elim
  · exact (f2 rfl rfl).elim
  · exact (f2 rfl rfl).elim
  · exact (f2 rfl rfl).elim

theorem ge_run {P : Program} {x y : Nat} (t : TypeId) (X Y : Operand) (w : World) (hx : x ≤ I) (h : y ≤ x) : (do eqGuard .geq t X Y (fl x) (fl y); binOp .geq t (fl x) (fl y) : Sem Value).run P w = .ok (.bool true) w := by
  rw [run_fge, order_pos hx (Nat.le_trans h hx)]
  rcases Nat.eq_or_lt_of_le h with rfl | h
  · rw [Nat.compare_eq_eq.2 rfl]; rfl
  · rw [Nat.compare_eq_gt.2 h]; rfl
theorem le_run {P : Program} {x y : Nat} (t : TypeId) (X Y : Operand) (w : World) (hy : y ≤ I) (h : x ≤ y) : (do eqGuard .leq t X Y (fl x) (fl y); binOp .leq t (fl x) (fl y) : Sem Value).run P w = .ok (.bool true) w := by
  rw [run_fle, order_pos (Nat.le_trans h hy) hy]
  rcases Nat.eq_or_lt_of_le h with rfl | h
  · rw [Nat.compare_eq_eq.2 rfl]; rfl
  · rw [Nat.compare_eq_lt.2 h]; rfl
theorem forgets_any (a b : Int) (ha : -9223372036854775808 ≤ a ∧ a ≤ 9223372036854775807) (hb : -9223372036854775808 ≤ b ∧ b ≤ 9223372036854775807) (w : World) :
    Calls Try.prog 4 #[.int .i64 a, .int .i64 b] w fun e w' => e = .returned (.bool true) ∧ w' = w := by
  have hoi : one ≤ I := by decide
  refine calls_run (args := [_, _]) agrees od0 100 Try.func4 rfl ?_
  by_cases hab : b < a
  · have ⟨l1, l2⟩ := wB_le (a := b) (b := a) (by omega)
    refine ok_calcB rfl true (deT hab) ?_
    refine ok_brT rfl rfl ?_
    refine ok_callS rfl (by kernel_rfl) (weight_any b hb _) ?_
    refine ok_callS rfl (by kernel_rfl) (weight_any a ha _) ?_
    refine ok_callS rfl (by kernel_rfl) (lives_any _) ?_
    refine ok_brT rfl rfl ?_
    refine ok_brT rfl rfl ?_
    refine ok_brT rfl rfl ?_
    refine ok_valS rfl _ rfl (ge_run (x := wB b) (y := wB a) _ _ _ _ (by omega) l1) ?_
    refine ok_brT rfl rfl ?_
    refine ok_brT rfl rfl ?_
    refine ok_brT rfl rfl ?_
    refine ok_valS rfl _ rfl (le_run (x := wB b) (y := one) _ _ _ _ hoi l2) ?_
    refine ok_brT rfl rfl ?_
    refine ok_brT rfl rfl ?_
    refine ok_brT rfl rfl ?_
    refine ok_valS rfl _ rfl (ge_run (x := wB a) (y := 0) _ _ _ _ (by omega) (Nat.zero_le _)) ?_
    refine ok_brT rfl rfl ?_
    exact ok_finR rfl (fin1R rfl _ rfl ⟨rfl, rfl⟩)
  · have ⟨l1, l2⟩ := wB_le (a := a) (b := b) (by omega)
    refine ok_calcB rfl false (deF hab) ?_
    refine ok_brF rfl rfl ?_
    refine ok_callS rfl (by kernel_rfl) (weight_any a ha _) ?_
    refine ok_callS rfl (by kernel_rfl) (weight_any b hb _) ?_
    refine ok_callS rfl (by kernel_rfl) (lives_any _) ?_
    refine ok_brT rfl rfl ?_
    refine ok_brT rfl rfl ?_
    refine ok_brT rfl rfl ?_
    refine ok_valS rfl _ rfl (ge_run (x := wB a) (y := wB b) _ _ _ _ (by omega) l1) ?_
    refine ok_brT rfl rfl ?_
    refine ok_brT rfl rfl ?_
    refine ok_brT rfl rfl ?_
    refine ok_valS rfl _ rfl (le_run (x := wB a) (y := one) _ _ _ _ hoi l2) ?_
    refine ok_brT rfl rfl ?_
    refine ok_brT rfl rfl ?_
    refine ok_brT rfl rfl ?_
    refine ok_valS rfl _ rfl (ge_run (x := wB b) (y := 0) _ _ _ _ (by omega) (Nat.zero_le _)) ?_
    refine ok_brT rfl rfl ?_
    exact ok_finR rfl (fin1R rfl _ rfl ⟨rfl, rfl⟩)

def leB (x y : Nat) : Bool := D.order x y == some .lt || D.order x y == some .eq
theorem leB_clean {p q : Nat} (hp : p < 18446744073709551616) (hq : q < 18446744073709551616) (h : leB p q = true) (hc : cleanB p ≠ 0) : cleanB q ≠ 0 ∧ cleanB p ≤ cleanB q := by
  obtain ⟨c1, c2⟩ := clean_is hp
  obtain ⟨g1, p0, p1, p2⟩ := c2 hc
  obtain ⟨kw, hkw⟩ := kw_ex
  have hz : D.order 0 0 = some .eq := by decide
  have hq0 : D.order q 0 = some .gt ∧ nanB q = false := by
    unfold leB at h
    unfold nanB
    rw [hkw] at h g1 hz ⊢
    rw [hkw q q]
    cases ha : kw p with
    | none => rw [ha] at g1; cases g1
    | some a =>
      cases hb : kw q with
      | none => rw [ha, hb] at h; cases h
      | some b =>
        cases hc : kw 0 with
        | none => rw [hc] at hz; cases hz
        | some z =>
          rw [ha, hb] at h
          rw [ha, hc] at g1
          have h1 := Int.compare_eq_gt.1 (Option.some.inj g1)
          have h2 : a ≤ b := by
            rcases Int.lt_trichotomy a b with h3 | h3 | h3
            · omega
            · omega
            · exfalso
              have h4 : cmpO (some a) (some b) = some .gt := by show some (compare a b) = _; rw [Int.compare_eq_gt.2 h3]
              rw [h4] at h; cases h
          refine ⟨by show some (compare b z) = _; rw [Int.compare_eq_gt.2 (by omega)], ?_⟩
          show (some (compare b b) != some .eq) = false
          rw [Int.compare_eq_eq.2 rfl]; rfl
  obtain ⟨q0, q1⟩ := gt_pos hq hq0.1
  have hle : p ≤ q := by
    unfold leB at h
    rw [order_pos p1 q1] at h
    rcases Nat.lt_or_ge q p with h3 | h3
    · rw [Nat.compare_eq_gt.2 h3] at h; cases h
    · exact h3
  have hlow : lowB q = false := by unfold lowB; rw [hq0.1]; rfl
  have ho : one ≤ I := by decide
  have hq2 : cleanB q = if one < q then one else q := by
    unfold cleanB
    rw [hq0.2, hlow, if_neg (by decide), if_neg (by decide), order_pos q1 ho]
    by_cases h5 : one < q
    · rw [if_pos h5, Nat.compare_eq_gt.2 h5]; rfl
    · rw [if_neg h5, if_neg]
      intro h6
      exact h5 (Nat.compare_eq_gt.1 (by simpa using h6))
  have o0 : 0 < one := by decide
  rw [hq2]
  rcases p2 with ⟨e1, e2⟩ | e1
  · rw [if_pos (by omega), e1]; exact ⟨by omega, Nat.le_refl _⟩
  · rw [e1]
    rw [e1] at c1
    split <;> exact ⟨by omega, by omega⟩

theorem cost_le {f d : Int} {x : Nat} (hf : f ≤ 9223372036854775807) (hd : d ≤ 9223372036854775807) (hx : x < 18446744073709551616) : costB f d x ≤ I := by
  unfold costB
  split
  · exact Nat.le_refl _
  · rename_i h
    exact costP_le (by omega) (by omega) (by omega) (clean_is hx).1
theorem cost_mono {f f' d : Int} {p q : Nat} (h0 : 0 ≤ f) (hf : f ≤ f') (hf' : f' ≤ 9223372036854775807) (hd0 : 0 ≤ d) (hd : d ≤ 9223372036854775807) (hp : p < 18446744073709551616) (hq : q < 18446744073709551616) (h : leB p q = true ∨ p = q) :
    costB f d q ≤ costB f' d p := by
  have hl := cost_le (f := f) (x := q) (by omega) hd hq
  by_cases hc : cleanB p = 0
  · have : costB f' d p = I := if_pos (.inr (.inr hc))
    rw [this]; exact hl
  · have ⟨h1, h2⟩ : cleanB q ≠ 0 ∧ cleanB p ≤ cleanB q := by
      rcases h with h | rfl
      · exact leB_clean hp hq h hc
      · exact ⟨hc, Nat.le_refl _⟩
    unfold costB
    rw [if_neg (by omega), if_neg (by omega)]
    exact costP_mono (by omega) (by omega) (by omega) (by omega) h2 (clean_is hq).1
theorem not_less {x y : Nat} (hx : x ≤ I) (h : y ≤ x) : lessB x y = false := by
  unfold lessB
  split
  · rfl
  · split
    · rename_i h1 h2
      exfalso
      unfold nanB at h2
      rw [order_pos (Nat.le_trans h hx) (Nat.le_trans h hx), Nat.compare_eq_eq.2 rfl] at h2
      cases h2
    · rw [order_pos hx (Nat.le_trans h hx)]
      rcases Nat.eq_or_lt_of_le h with rfl | h
      · rw [Nat.compare_eq_eq.2 rfl]; rfl
      · rw [Nat.compare_eq_gt.2 h]; rfl
theorem leb_run {P : Program} {x y : Nat} {b : Bool} (hb : leB x y = b) (t : TypeId) (X Y : Operand) (w : World) : (do eqGuard .leq t X Y (fl x) (fl y); binOp .leq t (fl x) (fl y) : Sem Value).run P w = .ok (.bool b) w := by
  rw [run_fle]; rw [← hb]; rfl

set_option maxRecDepth 10000 in
theorem dear_any (f m d : Int) (p q : Nat) (hf : f ≤ 9223372036854775807) (hm : m ≤ 9223372036854775807) (hd : d ≤ 9223372036854775807) (hp : p < 18446744073709551616) (hq : q < 18446744073709551616) (w : World) :
    Calls Try.prog 5 #[.int .i64 f, .int .i64 m, .int .i64 d, fl p, fl q] w fun e w' => e = .returned (.bool true) ∧ w' = w := by
  refine calls_run (args := [_, _, _, _, _]) agrees od0 100 Try.func5 rfl ?_
  cases h4 : leB p q
  · refine ok_valS rfl _ rfl (leb_run h4 _ _ _ _) ?_
    refine ok_calcB rfl true rfl ?_
    refine ok_brT rfl rfl ?_
    clear h4
    by_cases h1 : f < 0
    · refine ok_callS rfl (by kernel_rfl) (lives_any _) ?_
      refine ok_calcB rfl false rfl ?_
      refine ok_brF rfl rfl ?_
      refine ok_brF rfl rfl ?_
      refine ok_calcB rfl true (deT h1) ?_
      refine ok_brF rfl rfl ?_
      refine ok_brT rfl rfl ?_
      refine ok_brT rfl rfl ?_
      refine ok_brT rfl rfl ?_
      refine ok_brT rfl rfl ?_
      refine ok_brT rfl rfl ?_
      refine ok_brT rfl rfl ?_
      refine ok_brT rfl rfl ?_
      refine ok_brT rfl rfl ?_
      refine ok_brT rfl rfl ?_
      refine ok_brT rfl rfl ?_
      refine ok_brT rfl rfl ?_
      refine ok_brT rfl rfl ?_
      refine ok_brT rfl rfl ?_
      refine ok_callS rfl (by kernel_rfl) (lives_any _) ?_
      exact ok_finR rfl (fin1R rfl _ rfl ⟨rfl, rfl⟩)
    by_cases h2 : m < f
    · refine ok_callS rfl (by kernel_rfl) (lives_any _) ?_
      refine ok_calcB rfl false rfl ?_
      refine ok_brF rfl rfl ?_
      refine ok_brF rfl rfl ?_
      refine ok_calcB rfl false (deF h1) ?_
      refine ok_brF rfl rfl ?_
      refine ok_brF rfl rfl ?_
      refine ok_brF rfl rfl ?_
      refine ok_brF rfl rfl ?_
      refine ok_calcB rfl true (deT h2) ?_
      refine ok_brF rfl rfl ?_
      refine ok_brT rfl rfl ?_
      refine ok_brT rfl rfl ?_
      refine ok_brT rfl rfl ?_
      refine ok_brT rfl rfl ?_
      refine ok_brT rfl rfl ?_
      refine ok_brT rfl rfl ?_
      refine ok_brT rfl rfl ?_
      refine ok_brT rfl rfl ?_
      refine ok_brT rfl rfl ?_
      refine ok_callS rfl (by kernel_rfl) (lives_any _) ?_
      exact ok_finR rfl (fin1R rfl _ rfl ⟨rfl, rfl⟩)
    by_cases h3 : d < 0
    · refine ok_callS rfl (by kernel_rfl) (lives_any _) ?_
      refine ok_calcB rfl false rfl ?_
      refine ok_brF rfl rfl ?_
      refine ok_brF rfl rfl ?_
      refine ok_calcB rfl false (deF h1) ?_
      refine ok_brF rfl rfl ?_
      refine ok_brF rfl rfl ?_
      refine ok_brF rfl rfl ?_
      refine ok_brF rfl rfl ?_
      refine ok_calcB rfl false (deF h2) ?_
      refine ok_brF rfl rfl ?_
      refine ok_brF rfl rfl ?_
      refine ok_brF rfl rfl ?_
      refine ok_calcB rfl true (deT h3) ?_
      refine ok_brF rfl rfl ?_
      refine ok_brT rfl rfl ?_
      refine ok_brT rfl rfl ?_
      refine ok_brT rfl rfl ?_
      refine ok_brT rfl rfl ?_
      refine ok_brT rfl rfl ?_
      refine ok_brT rfl rfl ?_
      refine ok_callS rfl (by kernel_rfl) (lives_any _) ?_
      exact ok_finR rfl (fin1R rfl _ rfl ⟨rfl, rfl⟩)
    cases h4 : leB q p
    · refine ok_callS rfl (by kernel_rfl) (lives_any _) ?_
      refine ok_calcB rfl false rfl ?_
      refine ok_brF rfl rfl ?_
      refine ok_brF rfl rfl ?_
      refine ok_calcB rfl false (deF h1) ?_
      refine ok_brF rfl rfl ?_
      refine ok_brF rfl rfl ?_
      refine ok_brF rfl rfl ?_
      refine ok_brF rfl rfl ?_
      refine ok_calcB rfl false (deF h2) ?_
      refine ok_brF rfl rfl ?_
      refine ok_brF rfl rfl ?_
      refine ok_brF rfl rfl ?_
      refine ok_calcB rfl false (deF h3) ?_
      refine ok_brF rfl rfl ?_
      refine ok_brF rfl rfl ?_
      refine ok_brF rfl rfl ?_
      refine ok_brF rfl rfl ?_
      refine ok_valS rfl _ rfl (leb_run h4 _ _ _ _) ?_
      refine ok_brF rfl rfl ?_
      refine ok_calcB rfl true rfl ?_
      refine ok_brF rfl rfl ?_
      refine ok_brT rfl rfl ?_
      refine ok_callS rfl (by kernel_rfl) (lives_any _) ?_
      exact ok_finR rfl (fin1R rfl _ rfl ⟨rfl, rfl⟩)
    · refine ok_callS rfl (by kernel_rfl) (lives_any _) ?_
      refine ok_calcB rfl false rfl ?_
      refine ok_brF rfl rfl ?_
      refine ok_brF rfl rfl ?_
      refine ok_calcB rfl false (deF h1) ?_
      refine ok_brF rfl rfl ?_
      refine ok_brF rfl rfl ?_
      refine ok_brF rfl rfl ?_
      refine ok_brF rfl rfl ?_
      refine ok_calcB rfl false (deF h2) ?_
      refine ok_brF rfl rfl ?_
      refine ok_brF rfl rfl ?_
      refine ok_brF rfl rfl ?_
      refine ok_calcB rfl false (deF h3) ?_
      refine ok_brF rfl rfl ?_
      refine ok_brF rfl rfl ?_
      refine ok_brF rfl rfl ?_
      refine ok_brF rfl rfl ?_
      refine ok_valS rfl _ rfl (leb_run h4 _ _ _ _) ?_
      refine ok_brF rfl rfl ?_
      refine ok_calcB rfl false rfl ?_
      refine ok_brF rfl rfl ?_
      refine ok_brF rfl rfl ?_
      refine ok_callS rfl (by kernel_rfl) (cost_any f d q (by omega) hd hq _) ?_
      refine ok_callS rfl (by kernel_rfl) (cost_any f d p (by omega) hd hp _) ?_
      refine ok_callS rfl (by kernel_rfl) (less_is (x := costB f d q) (y := costB f d p) (not_less (cost_le (by omega) hd hq) (cost_mono (by omega) (by omega) (by omega) (by omega) hd hq hp (.inl h4))) _) ?_
      refine ok_calcB rfl true rfl ?_
      refine ok_brT rfl rfl ?_
      refine ok_brT rfl rfl ?_
      refine ok_brT rfl rfl ?_
      refine ok_brT rfl rfl ?_
      refine ok_callS rfl (by kernel_rfl) (cost_any m d q (by omega) hd hq _) ?_
      refine ok_brT rfl rfl ?_
      refine ok_brT rfl rfl ?_
      refine ok_brT rfl rfl ?_
      refine ok_brT rfl rfl ?_
      refine ok_callS rfl (by kernel_rfl) (cost_any f d q (by omega) hd hq _) ?_
      refine ok_brT rfl rfl ?_
      refine ok_callS rfl (by kernel_rfl) (less_is (x := costB m d q) (y := costB f d q) (not_less (cost_le (by omega) hd hq) (cost_mono (by omega) (by omega) (by omega) (by omega) hd hq hq (.inr rfl))) _) ?_
      refine ok_brT rfl rfl ?_
      refine ok_calcB rfl true rfl ?_
      refine ok_brT rfl rfl ?_
      exact ok_finR rfl (fin1R rfl _ rfl ⟨rfl, rfl⟩)
  · refine ok_valS rfl _ rfl (leb_run h4 _ _ _ _) ?_
    refine ok_calcB rfl false rfl ?_
    refine ok_brF rfl rfl ?_
    by_cases h1 : f < 0
    · refine ok_callS rfl (by kernel_rfl) (lives_any _) ?_
      refine ok_calcB rfl false rfl ?_
      refine ok_brF rfl rfl ?_
      refine ok_brF rfl rfl ?_
      refine ok_calcB rfl true (deT h1) ?_
      refine ok_brF rfl rfl ?_
      refine ok_brT rfl rfl ?_
      refine ok_brT rfl rfl ?_
      refine ok_brT rfl rfl ?_
      refine ok_brT rfl rfl ?_
      refine ok_brT rfl rfl ?_
      refine ok_brT rfl rfl ?_
      refine ok_brT rfl rfl ?_
      refine ok_brT rfl rfl ?_
      refine ok_brT rfl rfl ?_
      refine ok_brT rfl rfl ?_
      refine ok_brT rfl rfl ?_
      refine ok_brT rfl rfl ?_
      refine ok_brT rfl rfl ?_
      refine ok_callS rfl (by kernel_rfl) (lives_any _) ?_
      exact ok_finR rfl (fin1R rfl _ rfl ⟨rfl, rfl⟩)
    by_cases h2 : m < f
    · refine ok_callS rfl (by kernel_rfl) (lives_any _) ?_
      refine ok_calcB rfl false rfl ?_
      refine ok_brF rfl rfl ?_
      refine ok_brF rfl rfl ?_
      refine ok_calcB rfl false (deF h1) ?_
      refine ok_brF rfl rfl ?_
      refine ok_brF rfl rfl ?_
      refine ok_brF rfl rfl ?_
      refine ok_brF rfl rfl ?_
      refine ok_calcB rfl true (deT h2) ?_
      refine ok_brF rfl rfl ?_
      refine ok_brT rfl rfl ?_
      refine ok_brT rfl rfl ?_
      refine ok_brT rfl rfl ?_
      refine ok_brT rfl rfl ?_
      refine ok_brT rfl rfl ?_
      refine ok_brT rfl rfl ?_
      refine ok_brT rfl rfl ?_
      refine ok_brT rfl rfl ?_
      refine ok_brT rfl rfl ?_
      refine ok_callS rfl (by kernel_rfl) (lives_any _) ?_
      exact ok_finR rfl (fin1R rfl _ rfl ⟨rfl, rfl⟩)
    by_cases h3 : d < 0
    · refine ok_callS rfl (by kernel_rfl) (lives_any _) ?_
      refine ok_calcB rfl false rfl ?_
      refine ok_brF rfl rfl ?_
      refine ok_brF rfl rfl ?_
      refine ok_calcB rfl false (deF h1) ?_
      refine ok_brF rfl rfl ?_
      refine ok_brF rfl rfl ?_
      refine ok_brF rfl rfl ?_
      refine ok_brF rfl rfl ?_
      refine ok_calcB rfl false (deF h2) ?_
      refine ok_brF rfl rfl ?_
      refine ok_brF rfl rfl ?_
      refine ok_brF rfl rfl ?_
      refine ok_calcB rfl true (deT h3) ?_
      refine ok_brF rfl rfl ?_
      refine ok_brT rfl rfl ?_
      refine ok_brT rfl rfl ?_
      refine ok_brT rfl rfl ?_
      refine ok_brT rfl rfl ?_
      refine ok_brT rfl rfl ?_
      refine ok_brT rfl rfl ?_
      refine ok_callS rfl (by kernel_rfl) (lives_any _) ?_
      exact ok_finR rfl (fin1R rfl _ rfl ⟨rfl, rfl⟩)
    refine ok_callS rfl (by kernel_rfl) (lives_any _) ?_
    refine ok_calcB rfl false rfl ?_
    refine ok_brF rfl rfl ?_
    refine ok_brF rfl rfl ?_
    refine ok_calcB rfl false (deF h1) ?_
    refine ok_brF rfl rfl ?_
    refine ok_brF rfl rfl ?_
    refine ok_brF rfl rfl ?_
    refine ok_brF rfl rfl ?_
    refine ok_calcB rfl false (deF h2) ?_
    refine ok_brF rfl rfl ?_
    refine ok_brF rfl rfl ?_
    refine ok_brF rfl rfl ?_
    refine ok_calcB rfl false (deF h3) ?_
    refine ok_brF rfl rfl ?_
    refine ok_brF rfl rfl ?_
    refine ok_brF rfl rfl ?_
    refine ok_brF rfl rfl ?_
    refine ok_valS rfl _ rfl (leb_run h4 _ _ _ _) ?_
    refine ok_brF rfl rfl ?_
    refine ok_calcB rfl false rfl ?_
    refine ok_brF rfl rfl ?_
    refine ok_brF rfl rfl ?_
    refine ok_callS rfl (by kernel_rfl) (cost_any f d p (by omega) hd hp _) ?_
    refine ok_callS rfl (by kernel_rfl) (cost_any f d q (by omega) hd hq _) ?_
    refine ok_callS rfl (by kernel_rfl) (less_is (x := costB f d p) (y := costB f d q) (not_less (cost_le (by omega) hd hp) (cost_mono (by omega) (by omega) (by omega) (by omega) hd hp hq (.inl h4))) _) ?_
    refine ok_calcB rfl true rfl ?_
    refine ok_brT rfl rfl ?_
    refine ok_brT rfl rfl ?_
    refine ok_brT rfl rfl ?_
    refine ok_brT rfl rfl ?_
    refine ok_callS rfl (by kernel_rfl) (cost_any m d p (by omega) hd hp _) ?_
    refine ok_brT rfl rfl ?_
    refine ok_brT rfl rfl ?_
    refine ok_brT rfl rfl ?_
    refine ok_brT rfl rfl ?_
    refine ok_callS rfl (by kernel_rfl) (cost_any f d p (by omega) hd hp _) ?_
    refine ok_brT rfl rfl ?_
    refine ok_callS rfl (by kernel_rfl) (less_is (x := costB m d p) (y := costB f d p) (not_less (cost_le (by omega) hd hp) (cost_mono (by omega) (by omega) (by omega) (by omega) hd hp hp (.inr rfl))) _) ?_
    refine ok_brT rfl rfl ?_
    refine ok_calcB rfl true rfl ?_
    refine ok_brT rfl rfl ?_
    exact ok_finR rfl (fin1R rfl _ rfl ⟨rfl, rfl⟩)
end Go.Proofs.Ytmchiomkgbeofaa
