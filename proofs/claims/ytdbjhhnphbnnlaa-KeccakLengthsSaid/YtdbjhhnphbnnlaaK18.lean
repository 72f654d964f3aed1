/- The law KeccakLengths, walked. -/
import Derived.Test.YtdbjhhnphbnnlaaK17
namespace Go.Proofs.Ytdbjhhnphbnnlaa
open Go Go.RowKit

def od5 : Nat → List Nat := fun n => match n with | 9 => [0, 1, 2, 5, 3, 4, 6, 7, 8, 9, 10, 14, 11, 12, 13, 15, 16, 17, 18, 19] | _ => []

section
variable (n : Int) (b : BitVec 8) (k : Nat) (w : World)
def ILn (tm : List Value) (wr : World) : Prop := ∃ j : Nat, j ≤ k ∧ Ext (fun _ => False) w wr ∧ w.heap.size < wr.heap.size ∧ Row wr w.heap.size 0 k (fun i => if i < j then .int .u8 (Bt b) else zB) ∧ Free wr w.heap.size ∧
  ∃ u : Nat → Value, tm = [.int .i64 n, .int .u8 (Bt b), u 2, u 3, u 4, .int .i64 (k : Int), .slice (some ⟨w.heap.size, 0, none⟩) k k, .int .i64 (j : Int), u 8, u 9, u 10, u 11, u 12, u 13, u 14, u 15, u 16, u 17, u 18, u 19, u 20, u 21, u 22, u 23, u 24, u 25, u 26, u 27, u 28, u 29, u 30, u 31, u 32, u 33, u 34, u 35, u 36, u 37, u 38, u 39, u 40, u 41, u 42, u 43]
end

set_option maxRecDepth 100000 in
set_option maxHeartbeats 1000000 in
theorem lengths_any (n : Int) (b : BitVec 8) (hn : -9223372036854775808 ≤ n ∧ n ≤ 9223372036854775807) (w : World) :
    Calls Try.prog 5 #[.int .i64 n, .int .u8 (Bt b)] w fun e w' => e = .returned (.bool true) ∧ Ext (fun _ => False) w w' := by
  obtain ⟨z, hz⟩ : ∃ z, n.tmod 400 = z := ⟨_, rfl⟩
  have hb : -400 < z ∧ z < 400 := by
    have h1 := Int.tmod_lt_of_pos n (show (0 : Int) < 400 by decide)
    have h2 := Int.tmod_lt_of_pos (-n) (show (0 : Int) < 400 by decide)
    rw [Int.neg_tmod] at h2
    omega
  refine calls_run (args := [_, _]) agrees od5 200 Try.func5 rfl ?_
  refine ok_test rfl (by decide) ?_
  refine ok_calc rfl z hz ?_
  by_cases h0 : z < 0
  · refine ok_calcB rfl true (deT h0) ?_
    refine ok_brT rfl rfl ?_
    obtain ⟨k, hk⟩ : ∃ k : Nat, -z = (k : Int) := ⟨(-z).toNat, by omega⟩
    refine ok_calc rfl ((k : Nat) : Int) (w64 (by omega)) ?_
    refine ok_rawS rfl (Instr.makeSlice 22 (.int .i64 (k : Int)) (.int .i64 (k : Int))) rfl (run_makeBytes k (by omega) w) ?_
    have r0 : Row (w.alloc (.cells (rowA k fun _ => zB) 5)) w.heap.size 0 k (fun _ => zB) := Row.new w _ _ (fun _ => zB) k (fun j hj => rowA_get _ _ _ hj)
    have q0 : Free (w.alloc (.cells (rowA k fun _ => zB) 5)) w.heap.size := Free.new w _ _
    have e0 : Ext (fun _ => False) w (w.alloc (.cells (rowA k fun _ => zB) 5)) := (Ext.refl _ w).alloc _
    have z0 : (w.alloc (.cells (rowA k fun _ => zB) 5)).heap.size = w.heap.size + 1 := by rw [World.size_alloc]
    generalize w.alloc (.cells (rowA k fun _ => zB) 5) = w0 at *
    refine ok_loop rfl (ILn n b k w) (fun tm _ => k - (intOf (tm.getD 7 undef)).toNat) ?_ ?_
    · exact ⟨0, by omega, e0, by omega, r0.congr fun j _ => by simp, q0, fr_intro rfl⟩
    clear r0 q0 e0 z0
    rintro tm wr ⟨j, hj, he, hs, hr, hq, u, rfl⟩
    refine runK_sound (od := od5) agrees 200 _ _ (fun _ => False) _ ?_
    by_cases hlt : j < k
    · refine ok_calcB rfl true (deT (by omega)) ?_
      refine ok_brT rfl rfl ?_
      refine ok_idx rfl j (by omega) (by omega) ?_
      refine ok_st rfl rfl (hr.is (by omega)) (hq _) ?_
      refine ok_calc rfl ((j + 1 : Nat) : Int) (w64 (by omega)) ?_
      refine ok_back rfl ⟨⟨j + 1, by omega, he.set _ _ (fun h => by have : w.heap.size < w.heap.size := h; omega), by rw [World.size_setCell]; exact hs, ?_, hq.set _ _, fr_intro rfl⟩, by show k - (j + 1) < k - j; omega⟩
      refine (hr.set hlt _).congr fun i hi => ?_
      unfold upd
      dsimp only
      by_cases h1 : i = j
      · subst h1; rw [if_pos rfl, if_pos (by omega)]
      · rw [if_neg h1]
        by_cases h2 : i < j
        · rw [if_pos h2, if_pos (by omega)]
        · rw [if_neg h2, if_neg (by omega)]
    obtain rfl : j = k := by omega
    refine ok_calcB rfl false (deF (by omega)) ?_
    refine ok_brF rfl rfl ?_
    have hm : BytesAt wr wr.heap.size (.slice (some ⟨w.heap.size, 0, none⟩) j j) (List.replicate j b) := ⟨_, j, by simp, .inr ⟨w.heap.size, 0, rfl, hs, fun i hi => by
      rw [hr i (by simpa using hi)]; dsimp only; rw [if_pos (by simpa using hi)]
      simp⟩⟩
    have hml : (List.replicate j b).length = j := by simp
    generalize List.replicate j b = m at *
    refine ok_test rfl (by kernel_rfl) ?_
    refine ok_draw rfl (Ext (fun _ => False) wr) (Ext.refl _ wr).drew ?_
    refine ok_call rfl (by kernel_rfl) (lives_any _) ?_
    rintro e w7 ⟨rfl, e7⟩
    refine ⟨_, rfl, ?_⟩
    have e7 : Ext (fun _ => False) wr w7 := (Ext.refl _ wr).drew.trans e7
    have s7 := e7.size
    refine ok_chk rfl e7 ?_
    refine ok_brT rfl rfl ?_
    refine ok_brT rfl rfl ?_
    refine ok_brT rfl rfl ?_
    have m7 := (hm.ext e7 (by omega) (fun k h => h.elim)).up (B' := w7.heap.size) (by omega)
    refine ok_rawS rfl (Instr.buildSlice 40 1 #[(0, .slice (some ⟨w.heap.size, 0, none⟩) j j)]) (by simp [execOp, Act.eval, act]) (buildS _ _ _ w7) ?_
    refine ok_chk rfl (e7.alloc _) ?_
    refine ok_brT rfl rfl ?_
    refine ok_call rfl (by kernel_rfl) (sum1_any _ m w7.heap.size w7 m7 (by omega) (by omega)) ?_
    rintro e w8 ⟨rfl, e8⟩
    refine ⟨_, rfl, ?_⟩
    have e8 := (e7.alloc _).trans e8
    have s8 := e8.size
    refine ok_chk rfl e8 ?_
    refine ok_brT rfl rfl ?_
    refine ok_call rfl (by kernel_rfl) (refSum_any _ m w8 ((hm.ext e8 (by omega) (fun k h => h.elim)).up (by omega)) (by omega)) ?_
    rintro e w9 ⟨rfl, e9⟩
    refine ⟨_, rfl, ?_⟩
    have e9 := e8.trans e9
    have s9 := e9.size
    refine ok_chk rfl e9 ?_
    refine ok_brT rfl rfl ?_
    refine ok_valCS (v := .bool true) rfl _ rfl (fun w' hw' => same23 _ _ _ w') ?_
    refine ok_brT rfl rfl ?_
    refine ok_brT rfl rfl ?_
    refine ok_brT rfl rfl ?_
    refine ok_brT rfl rfl ?_
    have m9 := (hm.ext e9 (by omega) (fun k h => h.elim)).up (B' := w9.heap.size) (by omega)
    refine ok_rawS rfl (Instr.buildSlice 40 1 #[(0, .slice (some ⟨w.heap.size, 0, none⟩) j j)]) (by simp [execOp, Act.eval, act]) (buildS _ _ _ w9) ?_
    refine ok_chk rfl (e9.alloc _) ?_
    refine ok_brT rfl rfl ?_
    refine ok_call rfl (by kernel_rfl) (streamK1_any 40 _ m w9.heap.size w9 m9 (by omega) (by omega)) ?_
    rintro e wa ⟨xa, rfl, ha, ea⟩
    refine ⟨_, rfl, ?_⟩
    have ea := (e9.alloc _).trans ea
    have sa := ea.size
    refine ok_chkC rfl (Ext (fun _ => False) wa) (fun _ h => ea.trans h) (Ext.refl _ wa) ?_
    refine ok_brT rfl rfl ?_
    refine ok_valCS (v := .string (strB (streamZ 40 m))) rfl _ rfl (fun w' hw' => run_str _ _ wa.heap.size w' (ha.ext hw' (by omega) (fun k h => h.elim))) ?_
    refine ok_brT rfl rfl ?_
    refine ok_call rfl (by kernel_rfl) (refStream_any 40 _ m wa ((hm.ext ea (by omega) (fun k h => h.elim)).up (by omega)) (by omega)) ?_
    rintro e wb ⟨zb, rfl, ⟨bz, cz, rfl, hb'⟩, eb⟩
    have hb : BytesAt wb wb.heap.size (.slice bz (streamZ 40 m).length cz) (streamZ 40 m) := ⟨_, _, rfl, hb'⟩
    clear hb'
    refine ⟨_, rfl, ?_⟩
    refine ok_chkC rfl (Ext (fun _ => False) wb) (fun _ h => eb.trans h) (Ext.refl _ wb) ?_
    refine ok_brT rfl rfl ?_
    refine ok_valCS (v := .string (strB (streamZ 40 m))) rfl _ rfl (fun w' hw' => run_str _ _ wb.heap.size w' (hb.ext hw' (by omega) (fun k h => h.elim))) ?_
    refine ok_brT rfl rfl ?_
    refine ok_valCS (v := .bool true) rfl _ rfl (fun w' hw' => same9 _ _ _ w') ?_
    refine ok_brT rfl rfl ?_
    exact ok_finR rfl (fin1R rfl _ rfl ⟨rfl, (he.trans ea).trans eb⟩)
  · refine ok_calcB rfl false (deF h0) ?_
    refine ok_brF rfl rfl ?_
    obtain ⟨k, rfl⟩ : ∃ k : Nat, z = (k : Int) := ⟨z.toNat, by omega⟩
    refine ok_rawS rfl (Instr.makeSlice 22 (.int .i64 (k : Int)) (.int .i64 (k : Int))) rfl (run_makeBytes k (by omega) w) ?_
    have r0 : Row (w.alloc (.cells (rowA k fun _ => zB) 5)) w.heap.size 0 k (fun _ => zB) := Row.new w _ _ (fun _ => zB) k (fun j hj => rowA_get _ _ _ hj)
    have q0 : Free (w.alloc (.cells (rowA k fun _ => zB) 5)) w.heap.size := Free.new w _ _
    have e0 : Ext (fun _ => False) w (w.alloc (.cells (rowA k fun _ => zB) 5)) := (Ext.refl _ w).alloc _
    have z0 : (w.alloc (.cells (rowA k fun _ => zB) 5)).heap.size = w.heap.size + 1 := by rw [World.size_alloc]
    generalize w.alloc (.cells (rowA k fun _ => zB) 5) = w0 at *
    refine ok_loop rfl (ILn n b k w) (fun tm _ => k - (intOf (tm.getD 7 undef)).toNat) ?_ ?_
    · exact ⟨0, by omega, e0, by omega, r0.congr fun j _ => by simp, q0, fr_intro rfl⟩
    clear r0 q0 e0 z0
    rintro tm wr ⟨j, hj, he, hs, hr, hq, u, rfl⟩
    refine runK_sound (od := od5) agrees 200 _ _ (fun _ => False) _ ?_
    by_cases hlt : j < k
    · refine ok_calcB rfl true (deT (by omega)) ?_
      refine ok_brT rfl rfl ?_
      refine ok_idx rfl j (by omega) (by omega) ?_
      refine ok_st rfl rfl (hr.is (by omega)) (hq _) ?_
      refine ok_calc rfl ((j + 1 : Nat) : Int) (w64 (by omega)) ?_
      refine ok_back rfl ⟨⟨j + 1, by omega, he.set _ _ (fun h => by have : w.heap.size < w.heap.size := h; omega), by rw [World.size_setCell]; exact hs, ?_, hq.set _ _, fr_intro rfl⟩, by show k - (j + 1) < k - j; omega⟩
      refine (hr.set hlt _).congr fun i hi => ?_
      unfold upd
      dsimp only
      by_cases h1 : i = j
      · subst h1; rw [if_pos rfl, if_pos (by omega)]
      · rw [if_neg h1]
        by_cases h2 : i < j
        · rw [if_pos h2, if_pos (by omega)]
        · rw [if_neg h2, if_neg (by omega)]
    obtain rfl : j = k := by omega
    refine ok_calcB rfl false (deF (by omega)) ?_
    refine ok_brF rfl rfl ?_
    have hm : BytesAt wr wr.heap.size (.slice (some ⟨w.heap.size, 0, none⟩) j j) (List.replicate j b) := ⟨_, j, by simp, .inr ⟨w.heap.size, 0, rfl, hs, fun i hi => by
      rw [hr i (by simpa using hi)]; dsimp only; rw [if_pos (by simpa using hi)]
      simp⟩⟩
    have hml : (List.replicate j b).length = j := by simp
    generalize List.replicate j b = m at *
    refine ok_test rfl (by kernel_rfl) ?_
    refine ok_draw rfl (Ext (fun _ => False) wr) (Ext.refl _ wr).drew ?_
    refine ok_call rfl (by kernel_rfl) (lives_any _) ?_
    rintro e w7 ⟨rfl, e7⟩
    refine ⟨_, rfl, ?_⟩
    have e7 : Ext (fun _ => False) wr w7 := (Ext.refl _ wr).drew.trans e7
    have s7 := e7.size
    refine ok_chk rfl e7 ?_
    refine ok_brT rfl rfl ?_
    refine ok_brT rfl rfl ?_
    refine ok_brT rfl rfl ?_
    have m7 := (hm.ext e7 (by omega) (fun k h => h.elim)).up (B' := w7.heap.size) (by omega)
    refine ok_rawS rfl (Instr.buildSlice 40 1 #[(0, .slice (some ⟨w.heap.size, 0, none⟩) j j)]) (by simp [execOp, Act.eval, act]) (buildS _ _ _ w7) ?_
    refine ok_chk rfl (e7.alloc _) ?_
    refine ok_brT rfl rfl ?_
    refine ok_call rfl (by kernel_rfl) (sum1_any _ m w7.heap.size w7 m7 (by omega) (by omega)) ?_
    rintro e w8 ⟨rfl, e8⟩
    refine ⟨_, rfl, ?_⟩
    have e8 := (e7.alloc _).trans e8
    have s8 := e8.size
    refine ok_chk rfl e8 ?_
    refine ok_brT rfl rfl ?_
    refine ok_call rfl (by kernel_rfl) (refSum_any _ m w8 ((hm.ext e8 (by omega) (fun k h => h.elim)).up (by omega)) (by omega)) ?_
    rintro e w9 ⟨rfl, e9⟩
    refine ⟨_, rfl, ?_⟩
    have e9 := e8.trans e9
    have s9 := e9.size
    refine ok_chk rfl e9 ?_
    refine ok_brT rfl rfl ?_
    refine ok_valCS (v := .bool true) rfl _ rfl (fun w' hw' => same23 _ _ _ w') ?_
    refine ok_brT rfl rfl ?_
    refine ok_brT rfl rfl ?_
    refine ok_brT rfl rfl ?_
    refine ok_brT rfl rfl ?_
    have m9 := (hm.ext e9 (by omega) (fun k h => h.elim)).up (B' := w9.heap.size) (by omega)
    refine ok_rawS rfl (Instr.buildSlice 40 1 #[(0, .slice (some ⟨w.heap.size, 0, none⟩) j j)]) (by simp [execOp, Act.eval, act]) (buildS _ _ _ w9) ?_
    refine ok_chk rfl (e9.alloc _) ?_
    refine ok_brT rfl rfl ?_
    refine ok_call rfl (by kernel_rfl) (streamK1_any 40 _ m w9.heap.size w9 m9 (by omega) (by omega)) ?_
    rintro e wa ⟨xa, rfl, ha, ea⟩
    refine ⟨_, rfl, ?_⟩
    have ea := (e9.alloc _).trans ea
    have sa := ea.size
    refine ok_chkC rfl (Ext (fun _ => False) wa) (fun _ h => ea.trans h) (Ext.refl _ wa) ?_
    refine ok_brT rfl rfl ?_
    refine ok_valCS (v := .string (strB (streamZ 40 m))) rfl _ rfl (fun w' hw' => run_str _ _ wa.heap.size w' (ha.ext hw' (by omega) (fun k h => h.elim))) ?_
    refine ok_brT rfl rfl ?_
    refine ok_call rfl (by kernel_rfl) (refStream_any 40 _ m wa ((hm.ext ea (by omega) (fun k h => h.elim)).up (by omega)) (by omega)) ?_
    rintro e wb ⟨zb, rfl, ⟨bz, cz, rfl, hb'⟩, eb⟩
    have hb : BytesAt wb wb.heap.size (.slice bz (streamZ 40 m).length cz) (streamZ 40 m) := ⟨_, _, rfl, hb'⟩
    clear hb'
    refine ⟨_, rfl, ?_⟩
    refine ok_chkC rfl (Ext (fun _ => False) wb) (fun _ h => eb.trans h) (Ext.refl _ wb) ?_
    refine ok_brT rfl rfl ?_
    refine ok_valCS (v := .string (strB (streamZ 40 m))) rfl _ rfl (fun w' hw' => run_str _ _ wb.heap.size w' (hb.ext hw' (by omega) (fun k h => h.elim))) ?_
    refine ok_brT rfl rfl ?_
    refine ok_valCS (v := .bool true) rfl _ rfl (fun w' hw' => same9 _ _ _ w') ?_
    refine ok_brT rfl rfl ?_
    exact ok_finR rfl (fin1R rfl _ rfl ⟨rfl, (he.trans ea).trans eb⟩)

end Go.Proofs.Ytdbjhhnphbnnlaa
