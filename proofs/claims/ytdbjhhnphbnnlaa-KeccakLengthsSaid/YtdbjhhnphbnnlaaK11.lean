/- The reference's table. -/
import Derived.Test.YtdbjhhnphbnnlaaKIn
import Derived.Test.YtdbjhhnphbnnlaaK6
namespace Go.Proofs.Ytdbjhhnphbnnlaa
open Go Go.RowKit

def zF (j : Nat) : Value := if j < 25 then zI else zU
def tabT (f : Nat → Nat) (c : Nat → W64) (j : Nat) : Value := if j < 25 then li f j else lu c (j - 25)
def tabF : Nat → Value := tabT off rc
theorem tabT_one (f : Nat → Nat) (c : Nat → W64) (j : Nat) : (tabT f c j).oneCell' = true := by unfold tabT li lu; split <;> rfl
theorem tabT_lo {w : World} {b : Nat} {f : Nat → Nat} {c : Nat → W64} (h : Row w b 0 49 (tabT f c)) : Row w b 0 25 (li f) := fun j hj => by rw [h j (by omega)]; unfold tabT; rw [if_pos hj]
theorem tabT_hi {w : World} {b : Nat} {f : Nat → Nat} {c : Nat → W64} (h : Row w b 0 49 (tabT f c)) : Row w b 25 24 (lu c) := fun j hj => by
  have := h (25 + j) (by omega)
  rw [Nat.zero_add] at this
  rw [this]; unfold tabT; rw [if_neg (by omega), show 25 + j - 25 = j by omega]
theorem tabT_mk {w : World} {b : Nat} {f : Nat → Nat} {c : Nat → W64} (h : Row w b 0 25 (li f)) (h' : Row w b 25 24 (lu c)) : Row w b 0 49 (tabT f c) := fun j hj => by
  unfold tabT
  split
  · rename_i e; exact h j e
  · rename_i e
    have := h' (j - 25) (by omega)
    rw [show 25 + (j - 25) = 0 + j by omega] at this; exact this

theorem zeros_get : ∀ j, j < 49 → (Array.replicate 25 zI ++ Array.replicate 24 zU)[0 + j]? = some (zF j) := by
  intro j hj
  unfold zF
  rw [Nat.zero_add]
  by_cases h : j < 25
  · rw [if_pos h, Array.getElem?_append_left (by simpa using h)]; simp [h]
  · rw [if_neg h, Array.getElem?_append_right (by simp; omega)]; simp [show j - 25 < 24 by omega]
theorem run_build53 (w : World) : (Instr.build 53 #[]).run Try.prog w = .ok (.agg (Array.replicate 25 zI ++ Array.replicate 24 zU)) w := by kernel_rfl

theorem rcT_keep (i : Nat) (h : reg i % 2 = 0) : rcT (i + 1) = rcT i := by
  show upd (rcT i) (i / 7) _ = _
  funext j
  unfold upd bitAt
  split
  · rename_i e; subst e; rw [h]; simp
  · rfl

def od25 : Nat → List Nat := fun n => match n with | 13 => List.range 16 | _ => []
def IR1 (w : World) (tm : List Value) (wr : World) : Prop := ∃ n : Nat, n ≤ 24 ∧ Ext (fun _ => False) w wr ∧ w.heap.size + 2 ≤ wr.heap.size ∧ Row wr w.heap.size 0 49 zF ∧ Free wr w.heap.size ∧ Row wr (w.heap.size + 1) 0 25 (li (byT n)) ∧ Row wr (w.heap.size + 1) 25 24 (lu (rcT 0)) ∧ Free wr (w.heap.size + 1) ∧
  ∃ u : Nat → Value, tm = [.pointer (some ⟨w.heap.size, 0, none⟩), .pointer (some ⟨w.heap.size + 1, 0, none⟩), .int .i64 ((pt n).1 : Int), .int .i64 ((pt n).2 : Int), .int .i64 (n : Int), u 5, u 6, u 7, u 8, u 9, u 10, u 11, u 12, u 13, u 14, u 15, u 16, u 17, u 18, u 19, u 20, u 21, u 22, u 23, u 24, u 25, u 26, u 27, u 28, u 29, u 30, u 31, u 32, u 33, u 34, u 35, u 36, u 37, u 38, u 39, u 40, u 41, u 42, u 43, u 44, u 45, u 46, u 47, u 48, u 49, u 50, u 51, u 52, u 53, u 54, u 55, u 56, u 57, u 58, u 59, u 60, u 61]
def IR2 (w : World) (tm : List Value) (wr : World) : Prop := ∃ i : Nat, i ≤ 168 ∧ Ext (fun _ => False) w wr ∧ w.heap.size + 2 ≤ wr.heap.size ∧ Row wr w.heap.size 0 49 zF ∧ Free wr w.heap.size ∧ Row wr (w.heap.size + 1) 0 25 (li off) ∧ Row wr (w.heap.size + 1) 25 24 (lu (rcT i)) ∧ Free wr (w.heap.size + 1) ∧
  ∃ u : Nat → Value, tm = [.pointer (some ⟨w.heap.size, 0, none⟩), .pointer (some ⟨w.heap.size + 1, 0, none⟩), u 2, u 3, u 4, .int .i64 (reg i : Int), .int .i64 (i : Int), u 7, u 8, u 9, u 10, u 11, u 12, u 13, u 14, u 15, u 16, u 17, u 18, u 19, u 20, u 21, u 22, u 23, u 24, u 25, u 26, u 27, u 28, u 29, u 30, u 31, u 32, u 33, u 34, u 35, u 36, u 37, u 38, u 39, u 40, u 41, u 42, u 43, u 44, u 45, u 46, u 47, u 48, u 49, u 50, u 51, u 52, u 53, u 54, u 55, u 56, u 57, u 58, u 59, u 60, u 61]

set_option maxRecDepth 100000 in
theorem refAll_any (w : World) : Calls Try.prog 25 #[] w fun e w' => e = .returned (.agg (rowA 49 tabF)) ∧ Ext (fun _ => False) w w' := by
  refine calls_run (args := []) agrees od25 200 Try.func25 rfl ?_
  refine ok_new rfl ?_
  have e0 : Ext (fun _ => False) w (w.alloc (.cells (Array.replicate 25 zI ++ Array.replicate 24 zU) 53)) := (Ext.refl _ w).alloc _
  have z0 : (w.alloc (.cells (Array.replicate 25 zI ++ Array.replicate 24 zU) 53)).heap.size = w.heap.size + 1 := by rw [World.size_alloc]
  have r0 : Row (w.alloc (.cells (Array.replicate 25 zI ++ Array.replicate 24 zU) 53)) w.heap.size 0 49 zF := Row.new w _ _ zF 49 (fun j hj => by have := zeros_get j hj; rwa [Nat.zero_add] at this)
  have q0 : Free (w.alloc (.cells (Array.replicate 25 zI ++ Array.replicate 24 zU) 53)) w.heap.size := Free.new w _ _
  generalize w.alloc (.cells (Array.replicate 25 zI ++ Array.replicate 24 zU) 53) = w0 at *
  refine ok_rawS rfl (Instr.build 53 #[]) (by simp [execOp, Act.eval, act]) (run_build53 w0) ?_
  refine ok_newAt rfl (w.heap.size + 1) z0 ?_
  have e1 : Ext (fun _ => False) w (w0.alloc (.cells (Array.replicate 25 zI ++ Array.replicate 24 zU) 53)) := e0.alloc _
  have z1 : (w0.alloc (.cells (Array.replicate 25 zI ++ Array.replicate 24 zU) 53)).heap.size = w.heap.size + 2 := by rw [World.size_alloc, z0]
  have r1 := r0.alloc (by omega) (.cells (Array.replicate 25 zI ++ Array.replicate 24 zU) 53)
  have q1 := q0.alloc (by omega) (.cells (Array.replicate 25 zI ++ Array.replicate 24 zU) 53)
  have r2 : Row (w0.alloc (.cells (Array.replicate 25 zI ++ Array.replicate 24 zU) 53)) (w.heap.size + 1) 0 49 zF := by
    rw [← z0]; exact Row.new w0 _ _ zF 49 (fun j hj => by have := zeros_get j hj; rwa [Nat.zero_add] at this)
  have q2 : Free (w0.alloc (.cells (Array.replicate 25 zI ++ Array.replicate 24 zU) 53)) (w.heap.size + 1) := by rw [← z0]; exact Free.new w0 _ _
  generalize w0.alloc (.cells (Array.replicate 25 zI ++ Array.replicate 24 zU) 53) = w1 at *
  have hcs : Array.replicate 25 zI ++ Array.replicate 24 zU = rowA 49 zF := by kernel_rfl
  rw [hcs]
  refine ok_stR rfl (rowA_size _ _) (rowA_one _ _ fun j => by unfold zF; split <;> rfl) (fun j hj => ⟨r2.is hj, q2 _⟩) ?_
  have r3 := rowA_stores w1 (w.heap.size + 1) 0 49 zF (fun j hj => r2.is hj)
  have r4 := r1.stores (rowA 49 zF).toList (w.heap.size + 1) 0 (by omega)
  refine ok_loop rfl (IR1 w) (fun tm _ => 24 - (intOf (tm.getD 4 undef)).toNat) ?_ ?_
  · exact ⟨0, by omega, e1.stores _ _ (fun h => by omega), by rw [stores_size]; omega, r4, stores_free _ _ _ _ q1, fun j hj => by rw [r3 j (by omega)]; unfold zF; rw [if_pos hj]; rfl,
      fun j hj => by have := r3 (25 + j) (by omega); rw [Nat.zero_add] at this; rw [this]; unfold zF; rw [if_neg (by omega)]; rfl, stores_free _ _ _ _ q2, fr_intro rfl⟩
  clear r3 r4 r2 r1 r0 q2 q1 q0 z1 z0 e1 e0
  rintro tm wr ⟨n, hn, he, hz, ra, qa, rb, rcc, qt, u, rfl⟩
  refine runK_sound (od := od25) agrees 200 _ _ (fun _ => False) _ ?_
  by_cases hlt : n < 24
  · refine ok_calcB rfl true (deT (by omega)) ?_
    refine ok_brT rfl rfl ?_
    have hp := pt_lt n
    have hmul : (n + 1) * (n + 2) ≤ 25 * 26 := Nat.mul_le_mul (by omega) (by omega)
    refine ok_calc rfl (((5 * (pt n).2) : Nat) : Int) (w64 (by omega)) ?_
    refine ok_calc rfl ((((5 * (pt n).2) + (pt n).1) : Nat) : Int) (w64 (by omega)) ?_
    refine ok_calc rfl (((n + 1) : Nat) : Int) (w64 (by omega)) ?_
    refine ok_calc rfl (((n + 2) : Nat) : Int) (w64 (by omega)) ?_
    refine ok_calc rfl (((n + 1) * (n + 2) : Nat) : Int) (w64 ⟨(Int.natCast_mul _ _).symm, by rw [← Int.natCast_mul]; omega, by rw [← Int.natCast_mul]; omega⟩) ?_
    refine ok_test rfl (by decide) ?_
    refine ok_calc rfl _ (tdivl ((n + 1) * (n + 2)) 2 _ rfl (by omega)) ?_
    refine ok_test rfl (by decide) ?_
    refine ok_calc rfl _ (tmodl (((n + 1) * (n + 2)) / 2) 64 _ rfl) ?_
    refine ok_idx rfl ((5 * (pt n).2) + (pt n).1) (by omega) (by omega) ?_
    refine ok_st rfl rfl (rb.is (by omega)) (qt _) ?_
    refine ok_calc rfl (((2 * (pt n).1) : Nat) : Int) (w64 (by omega)) ?_
    refine ok_calc rfl (((3 * (pt n).2) : Nat) : Int) (w64 (by omega)) ?_
    refine ok_calc rfl ((((2 * (pt n).1) + (3 * (pt n).2)) : Nat) : Int) (w64 (by omega)) ?_
    refine ok_test rfl (by decide) ?_
    refine ok_calc rfl _ (tmodl ((2 * (pt n).1) + (3 * (pt n).2)) 5 _ rfl) ?_
    refine ok_calc rfl (((n + 1) : Nat) : Int) (w64 (by omega)) ?_
    exact ok_back rfl ⟨⟨n + 1, by omega, he.set _ _ (fun h => by dsimp only at h; omega), by rw [World.size_setCell]; exact hz, ra.other _ _ (by simp), qa.set _ _, (rb.set (by omega) _).congr (fun j hj => upd_li _ _ _ _), rcc.other _ _ (.inr (.inl (by dsimp only; omega))), qt.set _ _, fr_intro rfl⟩, by show 24 - (n + 1) < 24 - n; omega⟩
  obtain rfl : n = 24 := by omega
  have rb1 : Row wr (w.heap.size + 1) 0 25 (li off) := rb.congr fun j hj => by unfold li; rw [byT_end j hj]
  refine ok_calcB rfl false (deF (by omega)) ?_
  refine ok_brF rfl rfl ?_
  refine ok_loop rfl (IR2 w) (fun tm _ => 168 - (intOf (tm.getD 6 undef)).toNat) ?_ ?_
  · exact ⟨0, by omega, he, hz, ra, qa, rb1, rcc, qt, fr_intro rfl⟩
  clear he hz ra qa rb1 rcc qt rb
  rintro tm wr ⟨i, hi, he, hz, ra, qa, rb, rcc, qt, u, rfl⟩
  refine runK_sound (od := od25) agrees 200 _ _ (fun _ => False) _ ?_
  have hreg := reg_lt i
  by_cases hlt : i < 168
  · refine ok_calcB rfl true (deT (by omega)) ?_
    refine ok_brT rfl rfl ?_
    by_cases hodd : reg i % 2 = 1
    · refine ok_test rfl (by decide) ?_
      refine ok_calc rfl _ (tmodl (reg i) 2 _ rfl) ?_
      refine ok_calcB rfl true (eqT (by omega)) ?_
      refine ok_brT rfl rfl ?_
      have h7 := two_pow_le (i % 7) (by omega)
      refine ok_test rfl (by kernel_rfl) ?_
      refine ok_draw rfl (SameHeap wr) (SameHeap.refl _) ?_
      refine ok_test rfl (by decide) ?_
      refine ok_calc rfl _ (tdivl i 7 _ rfl (by omega)) ?_
      refine ok_test rfl (by decide) ?_
      refine ok_calc rfl _ (tdivl i 7 _ rfl (by omega)) ?_
      refine ok_idx rfl (i / 7) (by omega) (by omega) ?_
      refine ok_ldC rfl (fun w' hw' => (SameHeap.cell hw' _).trans (rcc (i / 7) (by omega))) ?_
      refine ok_test rfl (by decide) ?_
      refine ok_calc rfl _ (tmodl i 7 _ rfl) ?_
      refine ok_test rfl (by omega) ?_
      refine ok_calc rfl ((2 ^ (i % 7) : Nat) : Int) (one_shl _ (by omega)) ?_
      refine ok_calc rfl ((2 ^ (i % 7) - 1 : Nat) : Int) (wu64 (by omega)) ?_
      refine ok_test rfl (by omega) ?_
      refine ok_calc rfl _ (shlL 1 _) ?_
      refine ok_calc rfl _ (orL _ _) ?_
      refine ok_idx rfl (i / 7) (by omega) (by omega) ?_
      refine ok_st rfl rfl (rcc.is (by omega)) (qt _) ?_
      have hrow := (rcc.drew.set (j := i / 7) (by omega) (.int .u64 (L (rcT i (i / 7) ||| (BitVec.shiftLeft (1 : W64) (2 ^ (i % 7) - 1)))))).congr (g := lu (rcT (i + 1))) (fun j _ => by
        rw [upd_lu]
        show lu (upd (rcT i) (i / 7) _) j = lu (upd (rcT i) (i / 7) (rcT i (i / 7) ||| (BitVec.ofNat 64 (reg i % 2)) <<< (2 ^ (i % 7) - 1))) j
        rw [hodd]; rfl)
      refine ok_calc rfl (((2 * reg i) : Nat) : Int) (w64 (by omega)) ?_
      by_cases h255 : 2 * reg i > 255
      · refine ok_calcB rfl true (deT (by omega)) ?_
        refine ok_brT rfl rfl ?_
        refine ok_calc rfl ((2 * reg i - 256 : Nat) : Int) (w64 (by omega)) ?_
        refine ok_calc rfl ((2 * reg i - 256 ^^^ 113 : Nat) : Int) (xor_i64 _ (by omega)) ?_
        refine ok_calc rfl (((i + 1) : Nat) : Int) (w64 (by omega)) ?_
        have hre : reg (i + 1) = 2 * reg i - 256 ^^^ 113 := (reg_x _ hreg h255).symm
        exact ok_back rfl ⟨⟨i + 1, by omega, he.drew.set _ _ (fun h => by dsimp only at h; omega), by rw [World.size_setCell]; exact hz, ra.drew.other _ _ (by simp), qa.drew.set _ _, rb.drew.other _ _ (.inr (.inr (by dsimp only; omega))), hrow, qt.drew.set _ _, fr_intro (by rw [hre]; rfl)⟩, by show 168 - (i + 1) < 168 - i; omega⟩
      · refine ok_calcB rfl false (deF (by omega)) ?_
        refine ok_brF rfl rfl ?_
        refine ok_calc rfl (((i + 1) : Nat) : Int) (w64 (by omega)) ?_
        have hre : reg (i + 1) = 2 * reg i := by show regStep _ = _; unfold regStep; rw [if_neg h255]
        exact ok_back rfl ⟨⟨i + 1, by omega, he.drew.set _ _ (fun h => by dsimp only at h; omega), by rw [World.size_setCell]; exact hz, ra.drew.other _ _ (by simp), qa.drew.set _ _, rb.drew.other _ _ (.inr (.inr (by dsimp only; omega))), hrow, qt.drew.set _ _, fr_intro (by rw [hre]; rfl)⟩, by show 168 - (i + 1) < 168 - i; omega⟩
    have hrow := rcT_keep i (by omega)
    refine ok_test rfl (by decide) ?_
    refine ok_calc rfl _ (tmodl (reg i) 2 _ rfl) ?_
    refine ok_calcB rfl false (eqF (by omega)) ?_
    refine ok_brF rfl rfl ?_
    refine ok_calc rfl (((2 * reg i) : Nat) : Int) (w64 (by omega)) ?_
    by_cases h255 : 2 * reg i > 255
    · refine ok_calcB rfl true (deT (by omega)) ?_
      refine ok_brT rfl rfl ?_
      refine ok_calc rfl ((2 * reg i - 256 : Nat) : Int) (w64 (by omega)) ?_
      refine ok_calc rfl ((2 * reg i - 256 ^^^ 113 : Nat) : Int) (xor_i64 _ (by omega)) ?_
      refine ok_calc rfl (((i + 1) : Nat) : Int) (w64 (by omega)) ?_
      have hre : reg (i + 1) = 2 * reg i - 256 ^^^ 113 := (reg_x _ hreg h255).symm
      exact ok_back rfl ⟨⟨i + 1, by omega, he, hz, ra, qa, rb, by rw [hrow]; exact rcc, qt, fr_intro (by rw [hre]; rfl)⟩, by show 168 - (i + 1) < 168 - i; omega⟩
    · refine ok_calcB rfl false (deF (by omega)) ?_
      refine ok_brF rfl rfl ?_
      refine ok_calc rfl (((i + 1) : Nat) : Int) (w64 (by omega)) ?_
      have hre : reg (i + 1) = 2 * reg i := by show regStep _ = _; unfold regStep; rw [if_neg h255]
      exact ok_back rfl ⟨⟨i + 1, by omega, he, hz, ra, qa, rb, by rw [hrow]; exact rcc, qt, fr_intro (by rw [hre]; rfl)⟩, by show 168 - (i + 1) < 168 - i; omega⟩
  obtain rfl : i = 168 := by omega
  refine ok_calcB rfl false (deF (by omega)) ?_
  refine ok_brF rfl rfl ?_
  have rt : Row wr (w.heap.size + 1) 0 49 tabF := tabT_mk rb rcc
  refine ok_ldR (cs := rowA 49 tabF) rfl (rowA_size _ _) (Row.ofA rt) ?_
  refine ok_stR rfl (rowA_size _ _) (rowA_one _ _ fun j => tabT_one _ _ _) (fun j hj => ⟨ra.is hj, qa _⟩) ?_
  have r4 := rowA_stores wr w.heap.size 0 49 tabF (fun j hj => ra.is hj)
  exact ok_finR rfl (finC1 rfl rfl _ (run_loadVar_str agrees (t := 53) rfl (rowA_size _ _) r4.ofA) ⟨rfl, he.stores _ _ (fun h => by omega)⟩)

end Go.Proofs.Ytdbjhhnphbnnlaa
