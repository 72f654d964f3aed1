/- Constants, of the program and of the reference; what must come of every program; the law KeccakParts, walked. -/
import Derived.Test.YtdbjhhnphbnnlaaK5
namespace Go.Proofs.Ytdbjhhnphbnnlaa
open Go Go.RowKit

theorem xor_i64 (a : Nat) (h : a < 256) : bits .xor .i64 (a : Int) 113 = ((a ^^^ 113 : Nat) : Int) := by
  have key : ∀ a : Nat, a < 256 → bits .xor .i64 (a : Int) 113 = ((a ^^^ 113 : Nat) : Int) := by decide +kernel
  exact key a h
theorem reg_x (r : Nat) (h : r < 256) (h2 : 2 * r > 255) : (2 * r - 256) ^^^ 113 = regStep r := by
  have key : ∀ r : Nat, r < 256 → 2 * r > 255 → (2 * r - 256) ^^^ 113 = regStep r := by decide +kernel
  exact key r h h2

def IB (n : Nat) (w : World) (tm : List Value) (wr : World) : Prop := ∃ i : Nat, i ≤ n ∧ wr = w ∧ ∃ u : Nat → Value, tm = [.int .i64 (n : Int), u 1, u 2, .int .i64 (reg i : Int), .int .i64 (i : Int), u 5, u 6, u 7, u 8, u 9, u 10, u 11, u 12, u 13, u 14, u 15, u 16, u 17, u 18, u 19]

theorem bit_any (n : Nat) (hn : n ≤ 1000) (w : World) : Calls Try.prog 24 #[.int .i64 (n : Int)] w fun e w' => e = .returned (.int .u64 (L (BitVec.ofNat 64 (reg n % 2)))) ∧ w' = w := by
  refine calls_run (args := [_]) agrees od0 200 Try.func24 rfl ?_
  refine ok_loop rfl (IB n w) (fun tm _ => n - (intOf (tm.getD 4 undef)).toNat) ?_ ?_
  · exact ⟨0, by omega, rfl, fr_intro rfl⟩
  rintro tm wr ⟨i, hi, rfl, u, rfl⟩
  refine runK_sound (od := od0) agrees 200 _ _ (fun _ => False) _ ?_
  have hreg := reg_lt i
  by_cases hlt : i < n
  · refine ok_calcB rfl true (deT (by omega)) ?_
    refine ok_brT rfl rfl ?_
    refine ok_calc rfl (((2 * reg i) : Nat) : Int) (w64 (by omega)) ?_
    by_cases h255 : 2 * reg i > 255
    · refine ok_calcB rfl true (deT (by omega)) ?_
      refine ok_brT rfl rfl ?_
      refine ok_calc rfl ((2 * reg i - 256 : Nat) : Int) (w64 (by omega)) ?_
      refine ok_calc rfl ((2 * reg i - 256 ^^^ 113 : Nat) : Int) (xor_i64 _ (by omega)) ?_
      refine ok_calc rfl (((i + 1) : Nat) : Int) (w64 (by omega)) ?_
      have hre : reg (i + 1) = 2 * reg i - 256 ^^^ 113 := (reg_x _ hreg h255).symm
      exact ok_back rfl ⟨⟨i + 1, by omega, rfl, fr_intro (by rw [hre]; rfl)⟩, by show n - (i + 1) < n - i; omega⟩
    refine ok_calcB rfl false (deF (by omega)) ?_
    refine ok_brF rfl rfl ?_
    refine ok_calc rfl (((i + 1) : Nat) : Int) (w64 (by omega)) ?_
    have hre : reg (i + 1) = 2 * reg i := by show regStep _ = _; unfold regStep; rw [if_neg h255]
    exact ok_back rfl ⟨⟨i + 1, by omega, rfl, fr_intro (by rw [hre]; rfl)⟩, by show n - (i + 1) < n - i; omega⟩
  obtain rfl : i = n := by omega
  refine ok_calcB rfl false (deF (by omega)) ?_
  refine ok_brF rfl rfl ?_
  refine ok_test rfl (by decide) ?_
  refine ok_calc rfl _ (tmodl (reg i) 2 _ rfl) ?_
  refine ok_calc rfl (L (BitVec.ofNat 64 (reg i % 2))) (by unfold L; rw [BitVec.toNat_ofNat]; exact wu64 (by omega)) ?_
  exact ok_finR rfl (fin1R rfl _ rfl ⟨rfl, rfl⟩)

def od17 : Nat → List Nat := fun _ => [0, 1, 2, 3, 4, 6, 7, 8, 5, 9, 10, 11]
def IX (n : Nat) (w : World) (tm : List Value) (wr : World) : Prop := ∃ j : Nat, j ≤ 7 ∧ wr.heap = w.heap ∧ Ext (fun _ => False) w wr ∧ ∃ u : Nat → Value, tm = [.int .i64 (n : Int), u 1, u 2, .int .u64 (L (rcJ n j)), .int .i64 (j : Int), u 5, u 6, u 7, u 8, u 9, u 10, u 11, u 12, u 13, u 14, u 15, u 16, u 17, u 18, u 19, u 20, u 21, u 22, u 23, u 24, u 25, u 26]

def cst (n : Int) : W64 := if 0 ≤ n ∧ n ≤ 23 then rcJ n.toNat 7 else 0

theorem constR_yes (n : Nat) (hn : n ≤ 23) (w : World) : Calls Try.prog 17 #[.int .i64 (n : Int)] w fun e w' => e = .returned (.int .u64 (L (rcJ n 7))) ∧ Ext (fun _ => False) w w' := by
  refine calls_run (args := [_]) agrees od17 200 Try.func17 rfl ?_
  refine ok_calcB rfl false (deF (by omega)) ?_
  refine ok_brF rfl rfl ?_
  refine ok_brF rfl rfl ?_
  refine ok_calcB rfl false (deF (by omega)) ?_
  refine ok_brF rfl rfl ?_
  refine ok_brF rfl rfl ?_
  refine ok_loop rfl (IX n w) (fun tm _ => 7 - (intOf (tm.getD 4 undef)).toNat) ?_ ?_
  · exact ⟨0, by omega, rfl, Ext.refl _ _, fr_intro rfl⟩
  rintro tm wr ⟨j, hj, hh, he, u, rfl⟩
  refine runK_sound (od := od17) agrees 200 _ _ (fun _ => False) _ ?_
  by_cases hlt : j < 7
  · refine ok_calcB rfl true (deT (by omega)) ?_
    refine ok_brT rfl rfl ?_
    have h7 := two_pow_le j hlt
    refine ok_test rfl (by kernel_rfl) ?_
    refine ok_draw rfl (SameHeap wr) (SameHeap.refl _) ?_
    refine ok_calc rfl (((7 * n) : Nat) : Int) (w64 (by omega)) ?_
    refine ok_calc rfl ((((7 * n) + j) : Nat) : Int) (w64 (by omega)) ?_
    refine ok_test rfl (by omega) ?_
    refine ok_calc rfl ((2 ^ j : Nat) : Int) (one_shl _ hlt) ?_
    refine ok_calc rfl ((2 ^ j - 1 : Nat) : Int) (wu64 (by omega)) ?_
    refine ok_callS rfl (by kernel_rfl) (bit_any (7 * n + j) (by omega) _) ?_
    refine ok_chk rfl (SameHeap.refl _) ?_
    refine ok_test rfl (by omega) ?_
    refine ok_calc rfl _ (shlL _ _) ?_
    refine ok_calc rfl _ (orL _ _) ?_
    refine ok_calc rfl (((j + 1) : Nat) : Int) (w64 (by omega)) ?_
    exact ok_back rfl ⟨⟨j + 1, by omega, hh, he.drew, fr_intro rfl⟩, by show 7 - (j + 1) < 7 - j; omega⟩
  obtain rfl : j = 7 := by omega
  refine ok_calcB rfl false (deF (by omega)) ?_
  refine ok_brF rfl rfl ?_
  exact ok_finR rfl (fin1R rfl _ rfl ⟨rfl, he⟩)

theorem constR_any (n : Int) (w : World) : Calls Try.prog 17 #[.int .i64 n] w fun e w' => e = .returned (.int .u64 (L (cst n))) ∧ Ext (fun _ => False) w w' := by
  by_cases h : 0 ≤ n ∧ n ≤ 23
  · obtain ⟨k, rfl⟩ := Int.eq_ofNat_of_zero_le h.1
    refine (constR_yes k (by omega) w).mono fun e w' ⟨h1, h2⟩ => ⟨?_, h2⟩
    rw [h1]; unfold cst; rw [if_pos h]; rfl
  refine calls_run (args := [_]) agrees od17 200 Try.func17 rfl ?_
  have hc : cst n = 0 := by unfold cst; rw [if_neg h]
  by_cases h1 : n < 0
  · refine ok_calcB rfl true (deT h1) ?_
    refine ok_brT rfl rfl ?_
    refine ok_brT rfl rfl ?_
    refine ok_brT rfl rfl ?_
    refine ok_brT rfl rfl ?_
    exact ok_finR rfl (fin1R rfl _ rfl ⟨by rw [hc]; rfl, Ext.refl _ _⟩)
  · refine ok_calcB rfl false (deF h1) ?_
    refine ok_brF rfl rfl ?_
    refine ok_brF rfl rfl ?_
    refine ok_calcB rfl true (deT (by omega)) ?_
    refine ok_brF rfl rfl ?_
    refine ok_brT rfl rfl ?_
    exact ok_finR rfl (fin1R rfl _ rfl ⟨by rw [hc]; rfl, Ext.refl _ _⟩)

def IY (n : Nat) (w : World) (tm : List Value) (wr : World) : Prop := ∃ i : Nat, i ≤ 7 * (n + 1) ∧ wr = w ∧ ∃ u : Nat → Value, tm = [.int .i64 (n : Int), u 1, u 2, .int .u64 (L (rcJ n (i - 7 * n))), .int .u64 (reg i : Int), u 5, u 6, u 7, u 8, u 9, u 10, u 11, u 12, u 13, u 14, .int .i64 ((7 * (n + 1) : Nat) : Int), .int .i64 (i : Int), u 17, u 18, u 19, u 20, u 21, u 22, u 23, u 24, u 25, u 26, u 27, u 28, u 29, u 30, u 31, u 32, u 33, u 34, u 35, u 36, u 37, u 38, u 39, u 40]

set_option maxRecDepth 100000 in
theorem constP_yes (n : Nat) (hn : n ≤ 23) (w : World) : Calls Try.prog 16 #[.int .i64 (n : Int)] w fun e w' => e = .returned (.int .u64 (L (rcJ n 7))) ∧ w' = w := by
  refine calls_run (args := [_]) agrees od0 200 Try.func16 rfl ?_
  refine ok_calcB rfl false (deF (by omega)) ?_
  refine ok_brF rfl rfl ?_
  refine ok_brF rfl rfl ?_
  refine ok_calcB rfl false (deF (by omega)) ?_
  refine ok_brF rfl rfl ?_
  refine ok_brF rfl rfl ?_
  refine ok_calc rfl (((n + 1) : Nat) : Int) (w64 (by omega)) ?_
  refine ok_calc rfl (((7 * (n + 1)) : Nat) : Int) (w64 (by omega)) ?_
  refine ok_loop rfl (IY n w) (fun tm _ => 7 * (n + 1) - (intOf (tm.getD 16 undef)).toNat) ?_ ?_
  · exact ⟨0, by omega, rfl, fr_intro (by rw [Nat.zero_sub]; rfl)⟩
  rintro tm wr ⟨i, hi, rfl, u, rfl⟩
  refine runK_sound (od := od0) agrees 200 _ _ (fun _ => False) _ ?_
  have hreg := reg_lt i
  by_cases hlt : i < 7 * (n + 1)
  · refine ok_calcB rfl true (deT (by omega)) ?_
    refine ok_brT rfl rfl ?_
    by_cases hge : 7 * n ≤ i
    · obtain ⟨j, rfl⟩ : ∃ j, i = 7 * n + j := ⟨i - 7 * n, by omega⟩
      have ej : 7 * n + j - 7 * n = j := by omega
      have ej1 : 7 * n + j + 1 - 7 * n = j + 1 := by omega
      rw [ej]
      have h7 := two_pow_le j (by omega)
      refine ok_calc rfl (((7 * n) : Nat) : Int) (w64 (by omega)) ?_
      refine ok_calc rfl ((j : Nat) : Int) (w64 (by omega)) ?_
      refine ok_calcB rfl true (deT (by omega)) ?_
      refine ok_brT rfl rfl ?_
      refine ok_calc rfl _ (and1 _) ?_
      refine ok_test rfl (by omega) ?_
      refine ok_calc rfl ((2 ^ j : Nat) : Int) (one_shl _ (by omega)) ?_
      refine ok_calc rfl ((2 ^ j - 1 : Nat) : Int) (wu64 (by omega)) ?_
      refine ok_test rfl (by omega) ?_
      refine ok_calc rfl _ (shlL _ _) ?_
      refine ok_calc rfl _ (orL _ _) ?_
      by_cases h255 : 2 * reg (7 * n + j) > 255
      · refine ok_test rfl (by decide) ?_
        refine ok_calc rfl ((2 * reg (7 * n + j) : Nat) : Int) (dbl _ hreg) ?_
        refine ok_calcB rfl true (deT (by omega)) ?_
        refine ok_brT rfl rfl ?_
        refine ok_calc rfl ((2 * reg (7 * n + j) ^^^ 369 : Nat) : Int) (fold _ (by omega)) ?_
        refine ok_calc rfl ((((7 * n + j) + 1) : Nat) : Int) (w64 (by omega)) ?_
        have hre : reg (7 * n + j + 1) = 2 * reg (7 * n + j) ^^^ 369 := by show regStep _ = _; unfold regStep; rw [if_pos h255]
        exact ok_back rfl ⟨⟨7 * n + j + 1, by omega, rfl, fr_intro (by rw [hre, ej1]; rfl)⟩, by show 7 * (n + 1) - (7 * n + j + 1) < 7 * (n + 1) - (7 * n + j); omega⟩
      · refine ok_test rfl (by decide) ?_
        refine ok_calc rfl ((2 * reg (7 * n + j) : Nat) : Int) (dbl _ hreg) ?_
        refine ok_calcB rfl false (deF (by omega)) ?_
        refine ok_brF rfl rfl ?_
        refine ok_calc rfl ((((7 * n + j) + 1) : Nat) : Int) (w64 (by omega)) ?_
        have hre : reg (7 * n + j + 1) = 2 * reg (7 * n + j) := by show regStep _ = _; unfold regStep; rw [if_neg h255]
        exact ok_back rfl ⟨⟨7 * n + j + 1, by omega, rfl, fr_intro (by rw [hre, ej1]; rfl)⟩, by show 7 * (n + 1) - (7 * n + j + 1) < 7 * (n + 1) - (7 * n + j); omega⟩
    have ej : i - 7 * n = 0 := by omega
    have ej1 : i + 1 - 7 * n = 0 := by omega
    rw [ej]
    refine ok_calc rfl (((7 * n) : Nat) : Int) (w64 (by omega)) ?_
    refine ok_calc rfl ((i : Int) - ((7 * n : Nat) : Int)) (w64 (by omega)) ?_
    refine ok_calcB rfl false (deF (by omega)) ?_
    refine ok_brF rfl rfl ?_
    by_cases h255 : 2 * reg i > 255
    · refine ok_test rfl (by decide) ?_
      refine ok_calc rfl ((2 * reg i : Nat) : Int) (dbl _ hreg) ?_
      refine ok_calcB rfl true (deT (by omega)) ?_
      refine ok_brT rfl rfl ?_
      refine ok_calc rfl ((2 * reg i ^^^ 369 : Nat) : Int) (fold _ (by omega)) ?_
      refine ok_calc rfl (((i + 1) : Nat) : Int) (w64 (by omega)) ?_
      have hre : reg (i + 1) = 2 * reg i ^^^ 369 := by show regStep _ = _; unfold regStep; rw [if_pos h255]
      exact ok_back rfl ⟨⟨i + 1, by omega, rfl, fr_intro (by rw [hre, ej1]; rfl)⟩, by show 7 * (n + 1) - (i + 1) < 7 * (n + 1) - i; omega⟩
    · refine ok_test rfl (by decide) ?_
      refine ok_calc rfl ((2 * reg i : Nat) : Int) (dbl _ hreg) ?_
      refine ok_calcB rfl false (deF (by omega)) ?_
      refine ok_brF rfl rfl ?_
      refine ok_calc rfl (((i + 1) : Nat) : Int) (w64 (by omega)) ?_
      have hre : reg (i + 1) = 2 * reg i := by show regStep _ = _; unfold regStep; rw [if_neg h255]
      exact ok_back rfl ⟨⟨i + 1, by omega, rfl, fr_intro (by rw [hre, ej1]; rfl)⟩, by show 7 * (n + 1) - (i + 1) < 7 * (n + 1) - i; omega⟩
  obtain rfl : i = 7 * (n + 1) := by omega
  refine ok_calcB rfl false (deF (by omega)) ?_
  refine ok_brF rfl rfl ?_
  exact ok_finR rfl (fin1R rfl _ rfl ⟨by rw [show 7 * (n + 1) - 7 * n = 7 by omega]; rfl, rfl⟩)

theorem constP_any (n : Int) (w : World) : Calls Try.prog 16 #[.int .i64 n] w fun e w' => e = .returned (.int .u64 (L (cst n))) ∧ w' = w := by
  by_cases h : 0 ≤ n ∧ n ≤ 23
  · obtain ⟨k, rfl⟩ := Int.eq_ofNat_of_zero_le h.1
    refine (constP_yes k (by omega) w).mono fun e w' ⟨h1, h2⟩ => ⟨?_, h2⟩
    rw [h1]; unfold cst; rw [if_pos h]; rfl
  refine calls_run (args := [_]) agrees od0 200 Try.func16 rfl ?_
  have hc : cst n = 0 := by unfold cst; rw [if_neg h]
  by_cases h1 : n < 0
  · refine ok_calcB rfl true (deT h1) ?_
    refine ok_brT rfl rfl ?_
    refine ok_brT rfl rfl ?_
    refine ok_brT rfl rfl ?_
    refine ok_brT rfl rfl ?_
    exact ok_finR rfl (fin1R rfl _ rfl ⟨by rw [hc]; rfl, rfl⟩)
  · refine ok_calcB rfl false (deF h1) ?_
    refine ok_brF rfl rfl ?_
    refine ok_brF rfl rfl ?_
    refine ok_calcB rfl true (deT (by omega)) ?_
    refine ok_brF rfl rfl ?_
    refine ok_brT rfl rfl ?_
    exact ok_finR rfl (fin1R rfl _ rfl ⟨by rw [hc]; rfl, rfl⟩)

theorem nilParts (w : World) : PartsAt w w.heap.size (.slice none 0 0) [] := ⟨none, 0, rfl, .inl rfl⟩
theorem cst0 : cst 0 = 1 := by decide +kernel

set_option maxRecDepth 100000 in
theorem lives_any (w : World) : Calls Try.prog 9 #[] w fun e w' => e = .returned (.bool true) ∧ Ext (fun _ => False) w w' := by
  refine calls_run (args := []) agrees od0 200 Try.func9 rfl ?_
  refine ok_call rfl (by kernel_rfl) (sum_any [] _ _ (nilParts w) (by decide) (fun l hl => by cases hl)) ?_
  rintro e w1 ⟨rfl, he1⟩
  refine ⟨_, rfl, ?_⟩
  obtain ⟨d0, d1, d31⟩ := digest_nil
  simp only [List.flatten_nil]
  generalize digest [] = d at *
  refine ok_new rfl ?_
  have r0 : Row (w1.alloc (.cells (Array.replicate 32 zB) 23)) w1.heap.size 0 32 (fun _ => zB) := Row.new w1 _ _ _ _ (fun j hj => by simp [hj])
  refine ok_stR rfl (rowA_size _ _) (rowA_one _ _ fun _ => rfl) (fun j hj => ⟨r0.is hj, Free.new _ _ _ _⟩) ?_
  have r1 := rowA_stores (w1.alloc (.cells (Array.replicate 32 zB) 23)) w1.heap.size 0 32 (lb fun j => d.getD j 0) (fun j hj => r0.is hj)
  have e1 : Ext (fun _ => False) w (stores (w1.alloc (.cells (Array.replicate 32 zB) 23)) w1.heap.size 0 (rowA 32 (lb fun j => d.getD j 0)).toList) := (he1.alloc _).stores _ _ (fun h => by have := he1.size; omega)
  generalize stores (w1.alloc (.cells (Array.replicate 32 zB) 23)) w1.heap.size 0 (rowA 32 (lb fun j => d.getD j 0)).toList = w2 at *
  have c0 : w2.cell? ⟨w1.heap.size, 0 + 0, none⟩ = some (.int .u8 167) := by rw [r1 0 (by decide)]; unfold lb; dsimp only; rw [d0]; rfl
  have c1 : w2.cell? ⟨w1.heap.size, 0 + 1, none⟩ = some (.int .u8 255) := by rw [r1 1 (by decide)]; unfold lb; dsimp only; rw [d1]; rfl
  have c31 : w2.cell? ⟨w1.heap.size, 0 + 31, none⟩ = some (.int .u8 74) := by rw [r1 31 (by decide)]; unfold lb; dsimp only; rw [d31]; rfl
  refine ok_idx rfl 0 (by omega) (by omega) ?_
  refine ok_ld rfl (c0) ?_
  refine ok_calcB rfl true (eqT rfl) ?_
  refine ok_brT rfl rfl ?_
  refine ok_idx rfl 1 (by omega) (by omega) ?_
  refine ok_brT rfl rfl ?_
  refine ok_ld rfl (c1) ?_
  refine ok_brT rfl rfl ?_
  refine ok_calcB rfl true (eqT rfl) ?_
  refine ok_brT rfl rfl ?_
  refine ok_brT rfl rfl ?_
  refine ok_idx rfl 31 (by omega) (by omega) ?_
  refine ok_brT rfl rfl ?_
  refine ok_ld rfl (c31) ?_
  refine ok_brT rfl rfl ?_
  refine ok_calcB rfl true (eqT rfl) ?_
  refine ok_brT rfl rfl ?_
  refine ok_brT rfl rfl ?_
  refine ok_call rfl (by kernel_rfl) (stream_any 200 (by decide) (by decide) [] _ _ (nilParts _) (by decide) (fun l hl => by cases hl)) ?_
  rintro e w3 ⟨rfl, he3, _, _⟩
  refine ⟨_, rfl, ?_⟩
  refine ok_brT rfl rfl ?_
  refine ok_brT rfl rfl ?_
  refine ok_calcB rfl true (eqT rfl) ?_
  refine ok_brT rfl rfl ?_
  refine ok_brT rfl rfl ?_
  refine ok_callS rfl (by kernel_rfl) (constP_any 0 _) ?_
  refine ok_brT rfl rfl ?_
  refine ok_calcB rfl true (eqT (by rw [cst0]; rfl)) ?_
  refine ok_brT rfl rfl ?_
  exact ok_finR rfl (fin1R rfl _ rfl ⟨rfl, e1.trans he3⟩)

/-- The law, walked. -/
theorem parts_any (x y n : Int) (w : World) : Calls Try.prog 7 #[.int .i64 x, .int .i64 y, .int .i64 n] w fun e w' => e = .returned (.bool true) ∧ Ext (fun _ => False) w w' := by
  refine calls_run (args := [_, _, _]) agrees od0 200 Try.func7 rfl ?_
  refine ok_call rfl (by kernel_rfl) (lives_any w) ?_
  rintro e w1 ⟨rfl, he1⟩
  refine ⟨_, rfl, ?_⟩
  refine ok_brT rfl rfl ?_
  refine ok_brT rfl rfl ?_
  refine ok_brT rfl rfl ?_
  refine ok_callS rfl (by kernel_rfl) (dist14_any _ _ _) ?_
  refine ok_brT rfl rfl ?_
  refine ok_brT rfl rfl ?_
  refine ok_brT rfl rfl ?_
  refine ok_callS rfl (by kernel_rfl) (dist15_any _ _ _) ?_
  refine ok_brT rfl rfl ?_
  refine ok_calcB rfl true (eqT rfl) ?_
  refine ok_brT rfl rfl ?_
  refine ok_brT rfl rfl ?_
  refine ok_brT rfl rfl ?_
  refine ok_callS rfl (by kernel_rfl) (constP_any _ _) ?_
  refine ok_brT rfl rfl ?_
  refine ok_brT rfl rfl ?_
  refine ok_call rfl (by kernel_rfl) (constR_any _ _) ?_
  rintro e w2 ⟨rfl, he2⟩
  refine ⟨_, rfl, ?_⟩
  refine ok_brT rfl rfl ?_
  refine ok_calcB rfl true (eqT rfl) ?_
  refine ok_brT rfl rfl ?_
  exact ok_finR rfl (fin1R rfl _ rfl ⟨rfl, he1.trans he2⟩)
end Go.Proofs.Ytdbjhhnphbnnlaa
