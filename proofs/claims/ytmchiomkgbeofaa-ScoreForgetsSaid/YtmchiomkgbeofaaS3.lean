/- Cost: what it is, that it rises; lives. -/
import Derived.Test.YtmchiomkgbeofaaS2
namespace Go.Proofs.Ytmchiomkgbeofaa
open Go Ieee

def ten : Nat := 4621819117588971520
def hundred : Nat := 4636737291354636288
def half : Nat := 4602678819172646912
def top1 : Nat := 4890909195324358656
def top2 : Nat := 4905545894113312768

theorem nrI (n : Nat) : FloatKind.f64.nearest (n : Int) ≤ I := by rw [int_fin]; exact RQ_le _ _ _
theorem nr_mono {n n' : Nat} (h : n ≤ n') : FloatKind.f64.nearest (n : Int) ≤ FloatKind.f64.nearest (n' : Int) := by
  rw [int_fin, int_fin]
  exact RQ_mono (Int.le_refl _) (by decide) (by decide) (by rw [Nat.mul_one, Nat.mul_one]; exact Nat.mul_le_mul_right _ h)
theorem nr_top {n : Nat} (h : n ≤ 9223372036854775807) : FloatKind.f64.nearest (n : Int) ≤ top1 := by
  have h1 := nr_mono h
  have h2 : FloatKind.f64.nearest ((9223372036854775807 : Nat) : Int) = top1 := by decide +kernel
  rwa [h2] at h1

def mul10 (x : Nat) : Nat := (D.mul x ten).getD 0
def plus (x y : Nat) : Nat := (D.add x y).getD 0
def quo100 (x : Nat) : Nat := (D.div hundred x).getD 0

theorem mul10_is {x : Nat} (h : x < I) : D.mul x ten = some (mul10 x) := by unfold mul10; rw [mul_fin h (by decide), Option.getD_some]
theorem mul10_mono {x y : Nat} (h : x ≤ y) (hy : y < I) : mul10 x ≤ mul10 y := by
  unfold mul10
  rw [mul_fin (Nat.lt_of_le_of_lt h hy) (by decide), mul_fin hy (by decide), Option.getD_some, Option.getD_some]
  exact RQ_mono (by decide) (by decide) (by decide) (by rw [Nat.mul_one, Nat.mul_one]; exact Nat.mul_le_mul_right _ (V_le h))
theorem plus_is {x y : Nat} (hx : x < I) (hy : y ≤ I) : D.add x y = some (plus x y) := by
  unfold plus
  rcases Nat.eq_or_lt_of_le hy with rfl | hy
  · rw [add_inf hx, Option.getD_some]
  · rw [add_fin hx hy, Option.getD_some]
theorem plus_le {x y : Nat} (hx : x < I) (hy : y ≤ I) : plus x y ≤ I := by
  unfold plus
  rcases Nat.eq_or_lt_of_le hy with rfl | hy
  · rw [add_inf hx, Option.getD_some]; exact Nat.le_refl _
  · rw [add_fin hx hy, Option.getD_some]; exact RQ_le _ _ _
theorem plus_mono {x y x' y' : Nat} (hx : x ≤ x') (hy : y ≤ y') (hx' : x' < I) (hy' : y' ≤ I) : plus x y ≤ plus x' y' := by
  rcases Nat.eq_or_lt_of_le hy' with rfl | hy2
  · refine Nat.le_trans (plus_le (Nat.lt_of_le_of_lt hx hx') hy) ?_
    unfold plus; rw [add_inf hx', Option.getD_some]; exact Nat.le_refl _
  · unfold plus
    rw [add_fin (Nat.lt_of_le_of_lt hx hx') (Nat.lt_of_le_of_lt hy hy2), add_fin hx' hy2, Option.getD_some, Option.getD_some]
    have h1 := V_le hx
    have h2 := V_le hy
    exact RQ_mono (Int.le_refl _) (by decide) (by decide) (by rw [Nat.mul_one, Nat.mul_one]; exact Nat.add_le_add h1 h2)
theorem quo_is {x : Nat} (h0 : 0 < x) (h : x < I) : D.div hundred x = some (quo100 x) := by unfold quo100; rw [div_fin (by decide) (by decide) h h0, Option.getD_some]
theorem quo_le {x : Nat} (h0 : 0 < x) (h : x < I) : quo100 x ≤ I := by unfold quo100; rw [div_fin (by decide) (by decide) h h0, Option.getD_some]; exact RQ_le _ _ _
theorem V_pos {x : Nat} (h : 0 < x) : 0 < V x := Nat.mul_pos (mant_pos h) (Nat.two_pow_pos _)
theorem quo_mono {x y : Nat} (h0 : 0 < x) (h : x ≤ y) (hy : y < I) : quo100 y ≤ quo100 x := by
  unfold quo100
  rw [div_fin (by decide) (by decide) (Nat.lt_of_le_of_lt h hy) h0, div_fin (by decide) (by decide) hy (by omega), Option.getD_some, Option.getD_some]
  exact RQ_mono (by decide) (V_pos (by omega)) (V_pos h0) (Nat.mul_le_mul_left _ (V_le h))

/-- The cost of what has an end. -/
def costP (f d c : Nat) : Nat := plus (plus (FloatKind.f64.nearest (f : Int)) (mul10 (FloatKind.f64.nearest (d : Int)))) (quo100 c)

theorem inner_lt {f d : Nat} (hf : f ≤ 9223372036854775807) (hd : d ≤ 9223372036854775807) :
    mul10 (FloatKind.f64.nearest (d : Int)) < I ∧ plus (FloatKind.f64.nearest (f : Int)) (mul10 (FloatKind.f64.nearest (d : Int))) < I := by
  have t1 : top1 < I := by decide
  have t2 : mul10 top1 = top2 := by decide +kernel
  have t3 : top2 < I := by decide
  have t4 : plus top1 top2 < I := by decide +kernel
  have h1 := mul10_mono (nr_top hd) t1
  rw [t2] at h1
  have h2 := plus_mono (nr_top hf) h1 t1 (Nat.le_of_lt t3)
  exact ⟨by omega, by omega⟩

theorem costP_mono {f f' d c c' : Nat} (hf : f ≤ f') (hf' : f' ≤ 9223372036854775807) (hd : d ≤ 9223372036854775807) (h0 : 0 < c') (hc : c' ≤ c) (hc1 : c ≤ one) : costP f d c ≤ costP f' d c' := by
  have ho : one < I := by decide
  have h1 := inner_lt hf' hd
  exact plus_mono (plus_mono (nr_mono hf) (Nat.le_refl _) (Nat.lt_of_le_of_lt (nr_top hf') (by decide)) (Nat.le_of_lt h1.1)) (quo_mono h0 hc (by omega)) h1.2 (quo_le h0 (by omega))
theorem costP_le {f d c : Nat} (hf : f ≤ 9223372036854775807) (hd : d ≤ 9223372036854775807) (h0 : 0 < c) (hc1 : c ≤ one) : costP f d c ≤ I := by
  have ho : one < I := by decide
  exact plus_le (inner_lt hf hd).2 (quo_le h0 (by omega))

/-! ### Clean -/
theorem gt_pos {x : Nat} (hx : x < 18446744073709551616) (h : D.order x 0 = some .gt) : 0 < x ∧ x ≤ I := by
  have hr0 : D.read 0 = .number false 0 (-1074) := by decide
  unfold Format.order at h
  rw [hr0] at h
  unfold Format.read at h
  rw [bin_eq, inf_eq, sw_eq] at h
  dsimp only at h
  unfold I
  by_cases hs : x < 9223372036854775808
  · rw [Nat.mod_eq_of_lt hs] at h
    by_cases h0 : x = 0
    · exfalso; subst h0; revert h; decide
    · refine ⟨by omega, ?_⟩
      rcases Nat.lt_or_ge 9218868437227405312 x with h1 | h1
      · exfalso
        rw [if_neg (by omega), if_neg (by omega), if_neg (by omega)] at h
        cases h
      · exact h1
  · exfalso
    have e : (x / 9223372036854775808 % 2 == 1) = true := by
      have : x / 9223372036854775808 = 1 := by omega
      rw [this]; rfl
    rw [e] at h
    generalize x % 9223372036854775808 = r at h
    have key : ∀ m i, (Datum.number true m i).order (.number false 0 (-1074)) ≠ some .gt := by
      intro m i
      unfold Datum.order
      dsimp only
      unfold signed
      rw [if_pos rfl, if_neg (by decide), Nat.zero_shiftLeft]
      intro h2
      have h3 := Option.some.inj h2
      have h4 := Int.compare_eq_gt.1 h3
      generalize m <<< (i - min i (-1074)).toNat = z at h4
      omega
    split at h
    · exact key _ _ h
    · split at h
      · exact key _ _ h
      · split at h
        · cases h
        · cases h

theorem order_zero {c : Nat} (h : c ≤ I) : (D.order c 0 == some .eq) = decide (c = 0) := by
  rw [order_pos h (Nat.zero_le _)]
  by_cases h0 : c = 0
  · subst h0; decide
  · rw [Nat.compare_eq_gt.2 (by omega)]
    simp [h0]

/-- What Clean gives. -/
theorem clean_is {x : Nat} (hx : x < 18446744073709551616) : cleanB x ≤ one ∧ (cleanB x ≠ 0 → D.order x 0 = some .gt ∧ 0 < x ∧ x ≤ I ∧ ((cleanB x = one ∧ one < x) ∨ cleanB x = x)) := by
  obtain ⟨kw, hkw⟩ := kw_ex
  unfold cleanB
  by_cases h1 : nanB x = true
  · rw [if_pos h1]; exact ⟨Nat.zero_le _, fun h => (h rfl).elim⟩
  · rw [if_neg h1]
    by_cases h2 : lowB x = true
    · rw [if_pos h2]; exact ⟨Nat.zero_le _, fun h => (h rfl).elim⟩
    · rw [if_neg h2]
      have hgt : D.order x 0 = some .gt := by
        unfold nanB at h1
        unfold lowB at h2
        rw [hkw] at h1 h2 ⊢
        have h0 : D.order 0 0 = some .eq := by decide
        rw [hkw] at h0
        cases hk : kw x with
        | none => rw [hk] at h1; exact (h1 rfl).elim
        | some a =>
          rw [hk] at h2
          cases hz : kw 0 with
          | none => rw [hz] at h0; cases h0
          | some z =>
            rw [hz] at h2
            unfold cmpO at h2 ⊢
            dsimp only at h2 ⊢
            cases hc : compare a z <;> rw [hc] at h2
            · exact (h2 rfl).elim
            · exact (h2 rfl).elim
      obtain ⟨p0, p1⟩ := gt_pos hx hgt
      have ho : one ≤ I := by decide
      have hord := order_pos p1 ho
      by_cases h3 : (D.order x one == some .gt) = true
      · rw [if_pos h3]
        refine ⟨Nat.le_refl _, fun _ => ⟨hgt, p0, p1, .inl ⟨rfl, ?_⟩⟩⟩
        rw [hord] at h3
        exact Nat.compare_eq_gt.1 (by simpa using h3)
      · rw [if_neg h3]
        refine ⟨?_, fun _ => ⟨hgt, p0, p1, .inr rfl⟩⟩
        rw [hord] at h3
        rcases Nat.lt_or_ge one x with h4 | h4
        · exfalso; apply h3; rw [Nat.compare_eq_gt.2 h4]; rfl
        · exact h4

/-! ### Cost, walked -/
def costB (f d : Int) (x : Nat) : Nat := if f < 0 ∨ d < 0 ∨ cleanB x = 0 then I else costP f.toNat d.toNat (cleanB x)

theorem cost_any (f d : Int) (x : Nat) (hf : f ≤ 9223372036854775807) (hd : d ≤ 9223372036854775807) (hx : x < 18446744073709551616) (w : World) :
    Calls Try.prog 9 #[.int .i64 f, .int .i64 d, fl x] w fun e w' => e = .returned (fl (costB f d x)) ∧ w' = w := by
  have hc := (clean_is hx).1
  have ho : one < I := by decide
  refine calls_run (args := [_, _, _]) agrees od0 100 Try.func9 rfl ?_
  refine ok_callS rfl (by kernel_rfl) (clean_any x _) ?_
  unfold costB
  have inf : ∀ (tm : List Value) , tm.getD 6 undef = fl I → bodyPost Try.prog Try.f9 (fun e w' => e = .returned (fl I) ∧ w' = w) .ret (act tm) w := fun tm ht => fin1R rfl _ ht ⟨rfl, rfl⟩
  by_cases h1 : f < 0
  · rw [if_pos (.inl h1)]
    refine ok_calcB rfl true (deT h1) ?_
    refine ok_brT rfl rfl ?_
    refine ok_brT rfl rfl ?_
    refine ok_brT rfl rfl ?_
    refine ok_brT rfl rfl ?_
    refine ok_brT rfl rfl ?_
    refine ok_brT rfl rfl ?_
    refine ok_brT rfl rfl ?_
    refine ok_callS rfl (by kernel_rfl) (inf_any _) ?_
    exact ok_finR rfl (fin1R rfl _ rfl ⟨rfl, rfl⟩)
  · refine ok_calcB rfl false (deF h1) ?_
    refine ok_brF rfl rfl ?_
    refine ok_brF rfl rfl ?_
    by_cases h2 : d < 0
    · rw [if_pos (.inr (.inl h2))]
      refine ok_calcB rfl true (deT h2) ?_
      refine ok_brF rfl rfl ?_
      refine ok_brT rfl rfl ?_
      refine ok_brT rfl rfl ?_
      refine ok_brT rfl rfl ?_
      refine ok_brT rfl rfl ?_
      refine ok_callS rfl (by kernel_rfl) (inf_any _) ?_
      exact ok_finR rfl (fin1R rfl _ rfl ⟨rfl, rfl⟩)
    · refine ok_calcB rfl false (deF h2) ?_
      refine ok_brF rfl rfl ?_
      refine ok_brF rfl rfl ?_
      refine ok_brF rfl rfl ?_
      refine ok_valS rfl _ rfl (run_feq _ _ _ _ (cleanB x) 0) ?_
      refine ok_brF rfl rfl ?_
      rw [order_zero (by omega)]
      by_cases h3 : cleanB x = 0
      · rw [if_pos (.inr (.inr h3))]
        refine ok_brT rfl (deT h3) ?_
        refine ok_callS rfl (by kernel_rfl) (inf_any _) ?_
        exact ok_finR rfl (fin1R rfl _ rfl ⟨rfl, rfl⟩)
      · rw [if_neg (by rintro (h | h | h) <;> contradiction)]
        refine ok_brF rfl (deF h3) ?_
        obtain ⟨n, rfl⟩ : ∃ n : Nat, f = (n : Int) := ⟨f.toNat, by omega⟩
        obtain ⟨m, rfl⟩ : ∃ m : Nat, d = (m : Int) := ⟨d.toNat, by omega⟩
        rw [Int.toNat_natCast, Int.toNat_natCast]
        have hin := inner_lt (f := n) (d := m) (by omega) (by omega)
        have t1 : top1 < I := by decide
        have hq := quo_is (x := cleanB x) (by omega) (by omega)
        have hql := quo_le (x := cleanB x) (by omega) (by omega)
        have hn : FloatKind.f64.nearest (n : Int) < I := Nat.lt_of_le_of_lt (nr_top (by omega)) t1
        have hm : FloatKind.f64.nearest (m : Int) < I := Nat.lt_of_le_of_lt (nr_top (by omega)) t1
        refine ok_valS rfl _ rfl (run_toF (n : Int) _) ?_
        refine ok_valS rfl _ rfl (run_toF (m : Int) _) ?_
        refine ok_valS rfl _ rfl (run_fmul _ _ _ _ (mul10_is hm)) ?_
        refine ok_valS rfl _ rfl (run_fadd _ _ _ _ (plus_is hn (Nat.le_of_lt hin.1))) ?_
        refine ok_valS rfl _ rfl (run_fquo _ _ _ _ hq) ?_
        refine ok_valS rfl _ rfl (run_fadd _ _ _ _ (plus_is hin.2 hql)) ?_
        exact ok_finR rfl (fin1R rfl _ rfl ⟨rfl, rfl⟩)

end Go.Proofs.Ytmchiomkgbeofaa
