/- Distances and constants, of the program and of the reference; what must come of every program; the law KeccakParts, walked. -/
import Derived.Test.YtdbjhhnphbnnlaaK4
import Derived.Test.YtdbjhhnphbnnlaaK1
namespace Go.Proofs.Ytdbjhhnphbnnlaa
open Go Go.RowKit

def hit (x y : Int) (t : Nat) : Bool := decide (((pt t).1 : Int) = x ∧ ((pt t).2 : Int) = y)
def dist (x y : Int) : Nat := match (List.range 24).find? (hit x y) with | some t => tri (t + 1) % 64 | none => 0
theorem dist_at {x y : Int} {n : Nat} (hn : n < 24) (h0 : ∀ i, i < n → hit x y i = false) (h : hit x y n = true) : dist x y = tri (n + 1) % 64 := by
  have e : (List.range 24).find? (hit x y) = some n := List.find?_range_eq_some.2 ⟨h, List.mem_range.2 hn, fun j hj => by rw [h0 j hj]; rfl⟩
  unfold dist
  rw [e]
theorem dist_no {x y : Int} (h0 : ∀ i, i < 24 → hit x y i = false) : dist x y = 0 := by
  have e : (List.range 24).find? (hit x y) = none := List.find?_eq_none.2 fun i hi => by rw [h0 i (List.mem_range.1 hi)]; simp
  unfold dist
  rw [e]
theorem hit_no {x y : Int} {n : Nat} (h0 : ∀ i, i < n → hit x y i = false) (h : ¬ (((pt n).1 : Int) = x ∧ ((pt n).2 : Int) = y)) : ∀ i, i < n + 1 → hit x y i = false := fun i hi => by
  by_cases e : i = n
  · subst e; exact decide_eq_false h
  · exact h0 i (by omega)

def ID14 (x y : Int) (w : World) (tm : List Value) (wr : World) : Prop := ∃ n : Nat, n ≤ 24 ∧ wr = w ∧ (∀ i, i < n → hit x y i = false) ∧ ∃ u : Nat → Value, tm = [.int .i64 x, .int .i64 y, u 2, u 3, u 4, .int .i64 ((pt n).1 : Int), .int .i64 ((pt n).2 : Int), .int .i64 ((n + 1 : Nat) : Int), .int .i64 (tri (n + 1) : Int), u 9, u 10, u 11, u 12, u 13, u 14, u 15, u 16, u 17, u 18, u 19, u 20, u 21, u 22, u 23, u 24, u 25, u 26, u 27, u 28, u 29, u 30, u 31, u 32]

set_option maxRecDepth 100000 in
theorem dist14_any (x y : Int) (w : World) : Calls Try.prog 14 #[.int .i64 x, .int .i64 y] w fun e w' => e = .returned (.int .i64 (dist x y : Int)) ∧ w' = w := by
  refine calls_run (args := [_, _]) agrees od0 200 Try.func14 rfl ?_
  refine ok_loop rfl (ID14 x y w) (fun tm _ => 25 - (intOf (tm.getD 7 undef)).toNat) ?_ ?_
  · exact ⟨0, by omega, rfl, fun i hi => by omega, fr_intro rfl⟩
  rintro tm wr ⟨n, hn, rfl, h0, u, rfl⟩
  refine runK_sound (od := od0) agrees 200 _ _ (fun _ => False) _ ?_
  have hp := pt_lt n
  have hp1 := pt_lt (n + 1)
  by_cases hlt : n < 24
  · refine ok_calcB rfl true (deT (by omega)) ?_
    refine ok_brT rfl rfl ?_
    have ht := tri_le (n + 1) (by omega)
    have ht2 := tri_le (n + 2) (by omega)
    have key : ∀ tm' : List Value, tm' = tm' := fun _ => rfl
    by_cases h1 : ((pt n).1 : Int) = x
    · by_cases h2 : ((pt n).2 : Int) = y
      · refine ok_calcB rfl true (eqT h1) ?_
        refine ok_brT rfl rfl ?_
        refine ok_brT rfl rfl ?_
        refine ok_brT rfl rfl ?_
        refine ok_calcB rfl true (eqT h2) ?_
        refine ok_brT rfl rfl ?_
        refine ok_brT rfl rfl ?_
        refine ok_test rfl (by decide) ?_
        refine ok_calc rfl _ (tmodl (tri (n + 1)) 64 _ rfl) ?_
        exact ok_finR rfl (fin1R rfl _ rfl ⟨by rw [dist_at hlt h0 (decide_eq_true ⟨h1, h2⟩)]; rfl, rfl⟩)
      · refine ok_calcB rfl true (eqT h1) ?_
        refine ok_brT rfl rfl ?_
        refine ok_brT rfl rfl ?_
        refine ok_brT rfl rfl ?_
        refine ok_calcB rfl false (eqF h2) ?_
        refine ok_brT rfl rfl ?_
        refine ok_brF rfl rfl ?_
        refine ok_callS rfl (by kernel_rfl) (next_any _ _ hp.1 hp.2 _) ?_
        refine ok_calc rfl (((n + 2) : Nat) : Int) (w64 (by omega)) ?_
        refine ok_calc rfl ((tri (n + 1) + (n + 1) : Nat) : Int) (w64 (by have e : tri (n + 2) = tri (n + 1) + (n + 2) := rfl; omega)) ?_
        refine ok_calc rfl ((tri (n + 2) : Nat) : Int) (w64 (by have e : tri (n + 2) = tri (n + 1) + (n + 2) := rfl; omega)) ?_
        exact ok_back rfl ⟨⟨n + 1, by omega, rfl, hit_no h0 (fun h => h2 h.2), fr_intro rfl⟩, by show 25 - (n + 1 + 1) < 25 - (n + 1); omega⟩
    · refine ok_calcB rfl false (eqF h1) ?_
      refine ok_brF rfl rfl ?_
      refine ok_brF rfl rfl ?_
      refine ok_brF rfl rfl ?_
      refine ok_brF rfl rfl ?_
      refine ok_brF rfl rfl ?_
      refine ok_callS rfl (by kernel_rfl) (next_any _ _ hp.1 hp.2 _) ?_
      refine ok_calc rfl (((n + 2) : Nat) : Int) (w64 (by omega)) ?_
      refine ok_calc rfl ((tri (n + 1) + (n + 1) : Nat) : Int) (w64 (by have e : tri (n + 2) = tri (n + 1) + (n + 2) := rfl; omega)) ?_
      refine ok_calc rfl ((tri (n + 2) : Nat) : Int) (w64 (by have e : tri (n + 2) = tri (n + 1) + (n + 2) := rfl; omega)) ?_
      exact ok_back rfl ⟨⟨n + 1, by omega, rfl, hit_no h0 (fun h => h1 h.1), fr_intro rfl⟩, by show 25 - (n + 1 + 1) < 25 - (n + 1); omega⟩
  obtain rfl : n = 24 := by omega
  refine ok_calcB rfl false (deF (by omega)) ?_
  refine ok_brF rfl rfl ?_
  exact ok_finR rfl (fin1R rfl _ rfl ⟨by rw [dist_no h0]; rfl, rfl⟩)

def ID15 (x y : Int) (w : World) (tm : List Value) (wr : World) : Prop := ∃ n : Nat, n ≤ 24 ∧ wr = w ∧ (∀ i, i < n → hit x y i = false) ∧ ∃ u : Nat → Value, tm = [.int .i64 x, .int .i64 y, u 2, u 3, u 4, .int .i64 ((pt n).1 : Int), .int .i64 ((pt n).2 : Int), .int .i64 (n : Int), u 8, u 9, u 10, u 11, u 12, u 13, u 14, u 15, u 16, u 17, u 18, u 19, u 20, u 21, u 22, u 23, u 24, u 25, u 26, u 27, u 28, u 29, u 30, u 31, u 32, u 33]

set_option maxRecDepth 100000 in
theorem dist15_any (x y : Int) (w : World) : Calls Try.prog 15 #[.int .i64 x, .int .i64 y] w fun e w' => e = .returned (.int .i64 (dist x y : Int)) ∧ w' = w := by
  refine calls_run (args := [_, _]) agrees od0 200 Try.func15 rfl ?_
  refine ok_loop rfl (ID15 x y w) (fun tm _ => 25 - (intOf (tm.getD 7 undef)).toNat) ?_ ?_
  · exact ⟨0, by omega, rfl, fun i hi => by omega, fr_intro rfl⟩
  rintro tm wr ⟨n, hn, rfl, h0, u, rfl⟩
  refine runK_sound (od := od0) agrees 200 _ _ (fun _ => False) _ ?_
  have hp := pt_lt n
  have hp1 := pt_lt (n + 1)
  by_cases hlt : n < 24
  · refine ok_calcB rfl true (deT (by omega)) ?_
    refine ok_brT rfl rfl ?_
    have ht := tri_le (n + 1) (by omega)
    have ht2 := tri_le (n + 2) (by omega)
    have key : ∀ tm' : List Value, tm' = tm' := fun _ => rfl
    by_cases h1 : ((pt n).1 : Int) = x
    · by_cases h2 : ((pt n).2 : Int) = y
      · refine ok_calcB rfl true (eqT h1) ?_
        refine ok_brT rfl rfl ?_
        refine ok_brT rfl rfl ?_
        refine ok_brT rfl rfl ?_
        refine ok_calcB rfl true (eqT h2) ?_
        refine ok_brT rfl rfl ?_
        refine ok_brT rfl rfl ?_
        refine ok_calc rfl (((n + 1) : Nat) : Int) (w64 (by omega)) ?_
        refine ok_calc rfl (((n + 2) : Nat) : Int) (w64 (by omega)) ?_
        refine ok_calc rfl (((n + 1) * (n + 2) : Nat) : Int) (w64 (by have e : ((n + 1) * (n + 2) : Nat) ≤ 25 * 26 := Nat.mul_le_mul (by omega) (by omega); have e2 : (((n + 1) * (n + 2) : Nat) : Int) = ((n + 1 : Nat) : Int) * ((n + 2 : Nat) : Int) := Int.natCast_mul _ _; omega)) ?_
        refine ok_test rfl (by decide) ?_
        refine ok_calc rfl _ (tdivl ((n + 1) * (n + 2)) 2 _ rfl (by have e : ((n + 1) * (n + 2) : Nat) ≤ 25 * 26 := Nat.mul_le_mul (by omega) (by omega); omega)) ?_
        refine ok_test rfl (by decide) ?_
        refine ok_calc rfl _ (tmodl ((n + 1) * (n + 2) / 2) 64 _ rfl) ?_
        exact ok_finR rfl (fin1R rfl _ rfl ⟨by rw [dist_at hlt h0 (decide_eq_true ⟨h1, h2⟩), tri_eq n hlt]; rfl, rfl⟩)
      · refine ok_calcB rfl true (eqT h1) ?_
        refine ok_brT rfl rfl ?_
        refine ok_brT rfl rfl ?_
        refine ok_brT rfl rfl ?_
        refine ok_calcB rfl false (eqF h2) ?_
        refine ok_brT rfl rfl ?_
        refine ok_brF rfl rfl ?_
        refine ok_calc rfl (((2 * (pt n).1) : Nat) : Int) (w64 (by omega)) ?_
        refine ok_calc rfl (((3 * (pt n).2) : Nat) : Int) (w64 (by omega)) ?_
        refine ok_calc rfl ((((2 * (pt n).1) + (3 * (pt n).2)) : Nat) : Int) (w64 (by omega)) ?_
        refine ok_test rfl (by decide) ?_
        refine ok_calc rfl _ (tmodl ((2 * (pt n).1) + (3 * (pt n).2)) 5 _ rfl) ?_
        refine ok_calc rfl (((n + 1) : Nat) : Int) (w64 (by omega)) ?_
        exact ok_back rfl ⟨⟨n + 1, by omega, rfl, hit_no h0 (fun h => h2 h.2), fr_intro rfl⟩, by show 25 - (n + 1) < 25 - n; omega⟩
    · refine ok_calcB rfl false (eqF h1) ?_
      refine ok_brF rfl rfl ?_
      refine ok_brF rfl rfl ?_
      refine ok_brF rfl rfl ?_
      refine ok_brF rfl rfl ?_
      refine ok_brF rfl rfl ?_
      refine ok_calc rfl (((2 * (pt n).1) : Nat) : Int) (w64 (by omega)) ?_
      refine ok_calc rfl (((3 * (pt n).2) : Nat) : Int) (w64 (by omega)) ?_
      refine ok_calc rfl ((((2 * (pt n).1) + (3 * (pt n).2)) : Nat) : Int) (w64 (by omega)) ?_
      refine ok_test rfl (by decide) ?_
      refine ok_calc rfl _ (tmodl ((2 * (pt n).1) + (3 * (pt n).2)) 5 _ rfl) ?_
      refine ok_calc rfl (((n + 1) : Nat) : Int) (w64 (by omega)) ?_
      exact ok_back rfl ⟨⟨n + 1, by omega, rfl, hit_no h0 (fun h => h1 h.1), fr_intro rfl⟩, by show 25 - (n + 1) < 25 - n; omega⟩
  obtain rfl : n = 24 := by omega
  refine ok_calcB rfl false (deF (by omega)) ?_
  refine ok_brF rfl rfl ?_
  exact ok_finR rfl (fin1R rfl _ rfl ⟨by rw [dist_no h0]; rfl, rfl⟩)

end Go.Proofs.Ytdbjhhnphbnnlaa
