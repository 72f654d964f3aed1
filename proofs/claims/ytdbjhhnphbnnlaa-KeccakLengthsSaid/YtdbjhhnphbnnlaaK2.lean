/- The program's tables, its sponge: all rounds, a byte taken in. -/
import Derived.Test.YtdbjhhnphbnnlaaM
namespace Go.Proofs.Ytdbjhhnphbnnlaa
open Go Go.RowKit

def tri : Nat → Nat
  | 0 => 0
  | n + 1 => tri n + (n + 1)
theorem tri_eq : ∀ t, t < 24 → tri (t + 1) % 64 = (t + 1) * (t + 2) / 2 % 64 := by decide
theorem tri_le : ∀ t, t < 26 → tri t ≤ 400 := by decide

def rowA (n : Nat) (f : Nat → Value) : Array Value := ((List.range n).map f).toArray
theorem rowA_size (n : Nat) (f : Nat → Value) : (rowA n f).size = n := by simp [rowA]
theorem rowA_get (n : Nat) (f : Nat → Value) (j : Nat) (h : j < n) : (rowA n f)[j]? = some (f j) := by simp [rowA, h]
theorem Row.ofA {w : World} {b off n : Nat} {f : Nat → Value} (h : Row w b off n f) : ∀ j, j < n → w.cell? ⟨b, off + j, none⟩ = (rowA n f)[j]? := fun j hj => by rw [h j hj, rowA_get n f j hj]
theorem rowA_one (n : Nat) (f : Nat → Value) (h : ∀ j, (f j).oneCell' = true) : ∀ v, v ∈ (rowA n f).toList → v.oneCell' = true := fun v hv => by
  simp [rowA] at hv; obtain ⟨j, _, rfl⟩ := hv; exact h j
theorem rowA_stores (w : World) (b off n : Nat) (f : Nat → Value) (h : ∀ j, j < n → (w.cell? ⟨b, off + j, none⟩).isSome = true) : Row (stores w b off (rowA n f).toList) b off n f := by
  have := stores_row (b := b) (rowA n f).toList w off (fun j hj => h j (by simpa [rowA] using hj))
  rw [show (rowA n f).toList.length = n by simp [rowA]] at this
  exact this.congr fun j hj => by simp [rowA, hj]

theorem upd_li (f : Nat → Nat) (i v j : Nat) : upd (li f) i (.int .i64 ((v : Nat) : Int)) j = li (upd f i v) j := by unfold upd li; by_cases h : j = i <;> simp [h]
theorem upd_lu (f : Nat → W64) (i : Nat) (v : W64) (j : Nat) : upd (lu f) i (.int .u64 (L v)) j = lu (upd f i v) j := by unfold upd lu; by_cases h : j = i <;> simp [h]

def od28 : Nat → List Nat := fun _ => [0, 1, 2, 3]

def IT (w : World) (tm : List Value) (wr : World) : Prop := ∃ n : Nat, n ≤ 24 ∧ Ext (fun _ => False) w wr ∧ wr.heap.size = w.heap.size + 2 ∧ Row wr w.heap.size 0 25 (li (byT n)) ∧ Row wr (w.heap.size + 1) 0 25 (li (toT n)) ∧ Free wr w.heap.size ∧ Free wr (w.heap.size + 1) ∧
  ∃ u : Nat → Value, tm = [.pointer (some ⟨w.heap.size, 0, none⟩), .pointer (some ⟨w.heap.size + 1, 0, none⟩), .int .i64 ((pt n).1 : Int), .int .i64 ((pt n).2 : Int), .int .i64 (tri n : Int), .int .i64 ((n + 1 : Nat) : Int), u 6, u 7, u 8, u 9, u 10, u 11, u 12, u 13, u 14, u 15, u 16, u 17, u 18, u 19, u 20, u 21, u 22, u 23, u 24, u 25, u 26, u 27, u 28, u 29, u 30, u 31, u 32, u 33, u 34, u 35, u 36, u 37, u 38, u 39, u 40]

set_option maxRecDepth 100000 in
theorem turns_any (w : World) : Calls Try.prog 28 #[] w fun e w' => e = .returned (.tuple #[.agg (rowA 25 (li off)), .agg (rowA 25 (li pos))]) ∧ Ext (fun _ => False) w w' := by
  refine calls_run (args := []) agrees od28 200 Try.func28 rfl ?_
  refine ok_new rfl ?_
  refine ok_newAt rfl (w.heap.size + 1) (by rw [World.size_alloc]) ?_
  refine ok_loop rfl (IT w) (fun tm _ => 25 - (intOf (tm.getD 5 undef)).toNat) ?_ ?_
  · refine ⟨0, by omega, ((Ext.refl _ w).alloc _).alloc _, by rw [World.size_alloc, World.size_alloc], ?_, ?_, ?_, ?_, fr_intro rfl⟩
    · exact (Row.new w _ _ (fun _ => zI) 25 (fun j hj => by simp [hj])).alloc (by rw [World.size_alloc]; omega) _
    · have := Row.new (w.alloc (.cells (Array.replicate 25 zI) 45)) (Array.replicate 25 zI) 45 (fun _ => zI) 25 (fun j hj => by simp [hj])
      rw [World.size_alloc] at this; exact this
    · exact (Free.new w _ _).alloc (by rw [World.size_alloc]; omega) _
    · have := Free.new (w.alloc (.cells (Array.replicate 25 zI) 45)) (Array.replicate 25 zI) 45
      rw [World.size_alloc] at this; exact this
  rintro tm wr ⟨n, hn, he, hz, hby, hto, hf0, hf1, u, rfl⟩
  refine runK_sound (od := od28) agrees 200 _ _ (fun _ => False) _ ?_
  by_cases hlt : n < 24
  · refine ok_calcB rfl true (deT (by omega)) ?_
    refine ok_brT rfl rfl ?_
    have hp := pt_lt n
    have hp1 := pt_lt (n + 1)
    have ht := tri_le (n + 1) (by omega)
    have ht0 := tri_le n (by omega)
    refine ok_calc rfl ((tri (n + 1) : Nat) : Int) (w64 (by have e : tri (n + 1) = tri n + (n + 1) := rfl; omega)) ?_
    refine ok_callS rfl (by kernel_rfl) (next_any _ _ hp.1 hp.2 _) ?_
    refine ok_calc rfl (((5 * (pt n).2) : Nat) : Int) (w64 (by omega)) ?_
    refine ok_calc rfl ((((5 * (pt n).2) + (pt n).1) : Nat) : Int) (w64 (by omega)) ?_
    refine ok_calc rfl (((5 * (pt n).2) : Nat) : Int) (w64 (by omega)) ?_
    refine ok_calc rfl ((((5 * (pt n).2) + (pt n).1) : Nat) : Int) (w64 (by omega)) ?_
    refine ok_test rfl (by decide) ?_
    refine ok_calc rfl _ (tmodl (tri (n + 1)) 64 _ rfl) ?_
    refine ok_calc rfl ((5 * (pt (n + 1)).2 : Nat) : Int) (w64 (by have e : (pt (n + 1)).2 = (2 * (pt n).1 + 3 * (pt n).2) % 5 := rfl; omega)) ?_
    refine ok_calc rfl ((5 * (pt (n + 1)).2 + (pt (n + 1)).1 : Nat) : Int) (w64 (by have e : (pt (n + 1)).1 = (pt n).2 := rfl; omega)) ?_
    refine ok_idx rfl ((5 * (pt n).2) + (pt n).1) (by omega) (by omega) ?_
    refine ok_st rfl rfl (hby.is (by omega)) (hf0 _) ?_
    refine ok_idx rfl ((5 * (pt n).2) + (pt n).1) (by omega) (by omega) ?_
    refine ok_st rfl rfl ((hto.other _ _ (by simp)).is (by omega)) ((hf1.set _ _) _) ?_
    refine ok_calc rfl (((n + 2) : Nat) : Int) (w64 (by omega)) ?_
    refine ok_back rfl ⟨⟨n + 1, by omega, (he.set _ _ (fun h => by dsimp only at h; omega)).set _ _ (fun h => by dsimp only at h; omega), by rw [World.size_setCell, World.size_setCell]; exact hz,
      ((hby.set (by omega) _).other _ _ (by simp)).congr (fun j hj => ?_), ((hto.other _ _ (by simp)).set (by omega) _).congr (fun j hj => ?_), (hf0.set _ _).set _ _, (hf1.set _ _).set _ _, fr_intro rfl⟩, by show 25 - (n + 1 + 1) < 25 - (n + 1); omega⟩
    · show upd (li (byT n)) _ _ j = li (upd (byT n) _ _) j
      rw [← tri_eq n hlt]; exact upd_li _ _ _ _
    · show upd (li (toT n)) _ _ j = li (upd (toT n) _ _) j
      exact upd_li _ _ _ _
  obtain rfl : n = 24 := by omega
  have hby1 : Row wr w.heap.size 0 25 (li off) := hby.congr fun j hj => by unfold li; rw [byT_end j hj]
  have hto1 : Row wr (w.heap.size + 1) 0 25 (li pos) := hto.congr fun j hj => by unfold li; rw [toT_end j hj]
  refine ok_calcB rfl false (deF (by omega)) ?_
  refine ok_brF rfl rfl ?_
  refine ok_test rfl (by kernel_rfl) ?_
  refine ok_draw rfl (fun w' => Row w' w.heap.size 0 25 (li off) ∧ Row w' (w.heap.size + 1) 0 25 (li pos)) ⟨hby1, hto1⟩ ?_
  refine ok_ldRC (cs := rowA 25 (li off)) rfl (rowA_size _ _) (fun w' hw' => hw'.1.ofA) ?_
  refine ok_ldRC (cs := rowA 25 (li pos)) rfl (rowA_size _ _) (fun w' hw' => hw'.2.ofA) ?_
  refine ok_stR rfl (rowA_size _ _) (rowA_one _ _ fun _ => rfl) (fun j hj => ⟨hby1.drew.is hj, hf0.drew _⟩) ?_
  have h2 : Row (stores wr.drew w.heap.size 0 (rowA 25 (li off)).toList) w.heap.size 0 25 (li off) := rowA_stores _ _ _ _ _ fun j hj => hby1.drew.is hj
  have h3 : Row (stores wr.drew w.heap.size 0 (rowA 25 (li off)).toList) (w.heap.size + 1) 0 25 (li pos) := hto1.drew.stores _ _ _ (by omega)
  refine ok_chk rfl ⟨h2, h3⟩ ?_
  refine ok_stR rfl (rowA_size _ _) (rowA_one _ _ fun _ => rfl) (fun j hj => ⟨h3.is hj, stores_free _ _ _ _ hf1.drew _⟩) ?_
  have h4 : Row (stores (stores wr.drew w.heap.size 0 (rowA 25 (li off)).toList) (w.heap.size + 1) 0 (rowA 25 (li pos)).toList) (w.heap.size + 1) 0 25 (li pos) := rowA_stores _ _ _ _ _ fun j hj => h3.is hj
  have h5 := h2.stores (rowA 25 (li pos)).toList (w.heap.size + 1) 0 (by omega)
  exact ok_finR rfl (finC2 rfl rfl rfl _ _ (run_loadVar_arr agrees (t := 45) rfl (rowA_size _ _) h5.ofA) (run_loadVar_arr agrees (t := 45) rfl (rowA_size _ _) h4.ofA)
    ⟨rfl, (he.drew.stores _ _ (fun h => by omega)).stores _ _ (fun h => by omega)⟩)

theorem and1 (r : Nat) : bits .and .u64 (r : Int) 1 = L (BitVec.ofNat 64 (r % 2)) := by
  show IntKind.u64.wrap ((BitVec.ofInt 64 (r : Int) &&& BitVec.ofInt 64 1).toNat : Int) = _
  rw [BitVec.ofInt_natCast, BitVec.toNat_and, show (BitVec.ofInt 64 1).toNat = 2 ^ 1 - 1 by decide, Nat.and_two_pow_sub_one_eq_mod, BitVec.toNat_ofNat, IntKind.wrap_u64]
  unfold L
  rw [BitVec.toNat_ofNat]
  omega
theorem one_shl (j : Nat) (h : j < 7) : IntKind.u64.wrap ((1 : Int) * 2 ^ min ((j : Nat) : Int).toNat IntKind.u64.bits) = ((2 ^ j : Nat) : Int) := by
  have key : ∀ j : Nat, j < 7 → IntKind.u64.wrap ((1 : Int) * 2 ^ min ((j : Nat) : Int).toNat IntKind.u64.bits) = ((2 ^ j : Nat) : Int) := by decide
  exact key j h
theorem two_pow_le (j : Nat) (h : j < 7) : 1 ≤ 2 ^ j ∧ 2 ^ j ≤ 64 := by
  have key : ∀ j, j < 7 → 1 ≤ 2 ^ j ∧ 2 ^ j ≤ 64 := by decide
  exact key j h
theorem dbl (r : Nat) (h : r < 256) : IntKind.u64.wrap ((r : Int) * 2 ^ min ((1 : Int)).toNat IntKind.u64.bits) = ((2 * r : Nat) : Int) := by
  rw [show min ((1 : Int)).toNat IntKind.u64.bits = 1 by decide, IntKind.wrap_u64]
  omega
theorem fold (r : Nat) (h : r < 512) : bits .xor .u64 (r : Int) 369 = ((r ^^^ 369 : Nat) : Int) := bits_xor_u64_nat r 369 (by omega) (by omega)

def od27 : Nat → List Nat := fun _ => List.range 14

def IC (w : World) (tm : List Value) (wr : World) : Prop := ∃ i : Nat, i ≤ 168 ∧ Ext (fun _ => False) w wr ∧ wr.heap.size = w.heap.size + 2 ∧ Row wr w.heap.size 0 24 (fun _ => zU) ∧ Row wr (w.heap.size + 1) 0 24 (lu (rcT i)) ∧ Free wr w.heap.size ∧ Free wr (w.heap.size + 1) ∧
  ∃ u : Nat → Value, tm = [.pointer (some ⟨w.heap.size, 0, none⟩), .pointer (some ⟨w.heap.size + 1, 0, none⟩), .int .u64 (reg i : Int), u 3, .int .i64 (i : Int), u 5, u 6, u 7, u 8, u 9, u 10, u 11, u 12, u 13, u 14, u 15, u 16, u 17, u 18, u 19, u 20, u 21, u 22, u 23, u 24, u 25, u 26, u 27]

set_option maxRecDepth 100000 in
theorem constants_any (w : World) : Calls Try.prog 27 #[] w fun e w' => e = .returned (.agg (rowA 24 (lu rc))) ∧ Ext (fun _ => False) w w' := by
  refine calls_run (args := []) agrees od27 200 Try.func27 rfl ?_
  refine ok_new rfl ?_
  refine ok_newAt rfl (w.heap.size + 1) (by rw [World.size_alloc]) ?_
  refine ok_loop rfl (IC w) (fun tm _ => 168 - (intOf (tm.getD 4 undef)).toNat) ?_ ?_
  · refine ⟨0, by omega, ((Ext.refl _ w).alloc _).alloc _, by rw [World.size_alloc, World.size_alloc], ?_, ?_, ?_, ?_, fr_intro rfl⟩
    · exact (Row.new w _ _ (fun _ => zU) 24 (fun j hj => by simp [hj])).alloc (by rw [World.size_alloc]; omega) _
    · have := Row.new (w.alloc (.cells (Array.replicate 24 zU) 46)) (Array.replicate 24 zU) 46 (fun _ => zU) 24 (fun j hj => by simp [hj])
      rw [World.size_alloc] at this; exact this
    · exact (Free.new w _ _).alloc (by rw [World.size_alloc]; omega) _
    · have := Free.new (w.alloc (.cells (Array.replicate 24 zU) 46)) (Array.replicate 24 zU) 46
      rw [World.size_alloc] at this; exact this
  rintro tm wr ⟨i, hi, he, hz, hr0, hr1, hf0, hf1, u, rfl⟩
  refine runK_sound (od := od27) agrees 200 _ _ (fun _ => False) _ ?_
  by_cases hlt : i < 168
  · refine ok_calcB rfl true (deT (by omega)) ?_
    refine ok_brT rfl rfl ?_
    have hreg := reg_lt i
    have h7 := two_pow_le (i % 7) (Nat.mod_lt _ (by decide))
    refine ok_test rfl (by kernel_rfl) ?_
    refine ok_draw rfl (SameHeap wr) (SameHeap.refl _) ?_
    refine ok_test rfl (by decide) ?_
    refine ok_calc rfl _ (tdivl i 7 _ rfl (by omega)) ?_
    refine ok_idx rfl (i / 7) (by omega) (by omega) ?_
    refine ok_ldC rfl (fun w' hw' => (SameHeap.cell hw' _).trans (hr1 _ (by omega))) ?_
    refine ok_calc rfl _ (and1 _) ?_
    refine ok_test rfl (by decide) ?_
    refine ok_calc rfl _ (tmodl i 7 _ rfl) ?_
    refine ok_test rfl (by omega) ?_
    refine ok_calc rfl ((2 ^ (i % 7) : Nat) : Int) (one_shl _ (Nat.mod_lt _ (by decide))) ?_
    refine ok_calc rfl ((2 ^ (i % 7) - 1 : Nat) : Int) (wu64 (by omega)) ?_
    refine ok_test rfl (by omega) ?_
    refine ok_calc rfl _ (shlL _ _) ?_
    refine ok_calc rfl _ (orL _ _) ?_
    refine ok_idx rfl (i / 7) (by omega) (by omega) ?_
    refine ok_st rfl rfl (hr1.drew.is (by omega)) (hf1.drew _) ?_
    refine ok_test rfl (by decide) ?_
    refine ok_calc rfl ((2 * reg i : Nat) : Int) (dbl _ hreg) ?_
    have hrow : Row (wr.drew.setCell ⟨w.heap.size + 1, 0 + i / 7, none⟩ (.int .u64 (L (rcT i (i / 7) ||| (BitVec.ofNat 64 (reg i % 2)) <<< (2 ^ (i % 7) - 1))))) (w.heap.size + 1) 0 24 (lu (rcT (i + 1))) := (hr1.drew.set (by omega) _).congr fun j hj => by
      show upd (lu (rcT i)) _ _ j = lu (upd (rcT i) _ _) j
      exact upd_lu _ _ _ _
    by_cases h255 : 2 * reg i > 255
    · refine ok_calcB rfl true (deT (by omega)) ?_
      refine ok_brT rfl rfl ?_
      refine ok_calc rfl ((2 * reg i ^^^ 369 : Nat) : Int) (fold _ (by omega)) ?_
      refine ok_calc rfl (((i + 1) : Nat) : Int) (w64 (by omega)) ?_
      have hre : reg (i + 1) = 2 * reg i ^^^ 369 := by show regStep _ = _; unfold regStep; rw [if_pos h255]
      exact ok_back rfl ⟨⟨i + 1, by omega, he.drew.set _ _ (fun h => by dsimp only at h; omega), by rw [World.size_setCell]; exact hz, hr0.drew.other _ _ (by simp), hrow, hf0.drew.set _ _, hf1.drew.set _ _, fr_intro (by rw [hre]; rfl)⟩, by show 168 - (i + 1) < 168 - i; omega⟩
    refine ok_calcB rfl false (deF (by omega)) ?_
    refine ok_brF rfl rfl ?_
    refine ok_calc rfl (((i + 1) : Nat) : Int) (w64 (by omega)) ?_
    have hre : reg (i + 1) = 2 * reg i := by show regStep _ = _; unfold regStep; rw [if_neg h255]
    exact ok_back rfl ⟨⟨i + 1, by omega, he.drew.set _ _ (fun h => by dsimp only at h; omega), by rw [World.size_setCell]; exact hz, hr0.drew.other _ _ (by simp), hrow, hf0.drew.set _ _, hf1.drew.set _ _, fr_intro (by rw [hre]; rfl)⟩, by show 168 - (i + 1) < 168 - i; omega⟩
  obtain rfl : i = 168 := by omega
  refine ok_calcB rfl false (deF (by omega)) ?_
  refine ok_brF rfl rfl ?_
  have h2 : Row (stores wr w.heap.size 0 (rowA 24 (lu rc)).toList) w.heap.size 0 24 (lu rc) := rowA_stores _ _ _ _ _ fun j hj => hr0.is hj
  refine ok_ldR (cs := rowA 24 (lu rc)) rfl (rowA_size _ _) (Row.ofA hr1) ?_
  refine ok_stR rfl (rowA_size _ _) (rowA_one _ _ fun _ => rfl) (fun j hj => ⟨hr0.is hj, hf0 _⟩) ?_
  exact ok_finR rfl (finC1 rfl rfl _ (run_loadVar_arr agrees (t := 46) rfl (rowA_size _ _) h2.ofA) ⟨rfl, he.stores _ _ (fun h => by omega)⟩)

end Go.Proofs.Ytdbjhhnphbnnlaa
