/- keccak.Rounds; slices that are built, cut. -/
import Derived.Test.YtdbjhhnphbnnlaaK7
import Derived.Great.BuildSlice
namespace Go.Proofs.Ytdbjhhnphbnnlaa
open Go Go.RowKit

theorem stores_far (b : Nat) : ∀ (l : List Value) (w : World) (o k : Nat), (k < o ∨ o + l.length ≤ k) → (stores w b o l).cell? ⟨b, k, none⟩ = w.cell? ⟨b, k, none⟩
  | [], _, _, _, _ => rfl
  | v :: l, w, o, k, h => by
    simp only [stores]
    simp only [List.length_cons] at h
    rw [stores_far b l _ _ _ (by omega), World.cell?_setCell_other _ _ _ _ (by intro e2; injection e2; omega)]

set_option maxRecDepth 100000 in
theorem rounds_any (s : St) (w : World) : Calls Try.prog 13 #[.agg (rowA 25 (lu s))] w fun e w' => e = .returned (.agg (rowA 25 (lu (full s)))) ∧ Ext (fun _ => False) w w' := by
  refine calls_run (args := [_]) agrees od0 200 Try.func13 rfl ?_
  refine ok_new rfl ?_
  refine ok_newAt rfl (w.heap.size + 1) (by rw [World.size_alloc]) ?_
  have e0 : Ext (fun _ => False) w ((w.alloc (.cells (rowA 25 (lu s)) 33)).alloc (.cells (Array.replicate 25 zU) 33)) := ((Ext.refl _ w).alloc _).alloc _
  have z0 : ((w.alloc (.cells (rowA 25 (lu s)) 33)).alloc (.cells (Array.replicate 25 zU) 33)).heap.size = w.heap.size + 2 := by rw [World.size_alloc, World.size_alloc]
  have r0 : Row ((w.alloc (.cells (rowA 25 (lu s)) 33)).alloc (.cells (Array.replicate 25 zU) 33)) w.heap.size 0 25 (lu s) := (Row.new w _ _ (lu s) 25 (fun j hj => rowA_get _ _ _ hj)).alloc (by rw [World.size_alloc]; omega) _
  have r1 : Row ((w.alloc (.cells (rowA 25 (lu s)) 33)).alloc (.cells (Array.replicate 25 zU) 33)) (w.heap.size + 1) 0 25 (fun _ => zU) := by
    have := Row.new (w.alloc (.cells (rowA 25 (lu s)) 33)) (Array.replicate 25 zU) 33 (fun _ => zU) 25 (fun j hj => by simp [hj])
    rw [World.size_alloc] at this; exact this
  have q1 : Free ((w.alloc (.cells (rowA 25 (lu s)) 33)).alloc (.cells (Array.replicate 25 zU) 33)) (w.heap.size + 1) := by
    have := Free.new (w.alloc (.cells (rowA 25 (lu s)) 33)) (Array.replicate 25 zU) 33
    rw [World.size_alloc] at this; exact this
  generalize (w.alloc (.cells (rowA 25 (lu s)) 33)).alloc (.cells (Array.replicate 25 zU) 33) = w0 at *
  refine ok_call rfl (by kernel_rfl) (start_any 136 _) ?_
  rintro e w1 ⟨g, rfl, hgz, he1, hg⟩
  refine ⟨_, rfl, ?_⟩
  refine ok_ldR (cs := rowA 25 (lu s)) rfl (rowA_size _ _) (Row.ofA (r0.ext he1 (by omega) id)) ?_
  refine ok_stR rfl (rowA_size _ _) (rowA_one _ _ fun _ => rfl) (fun j hj => ⟨hg.st.is hj, hg.free _⟩) ?_
  have far : ∀ k, 25 ≤ k → (stores w1 g 0 (rowA 25 (lu s)).toList).cell? ⟨g, k, none⟩ = w1.cell? ⟨g, k, none⟩ := fun k hk => stores_far g _ _ _ _ (.inr (by simp [rowA]; omega))
  have hg2 : Spg (stores w1 g 0 (rowA 25 (lu s)).toList) g s 136 0 :=
    ⟨rowA_stores w1 g 0 25 (lu s) (fun j hj => hg.st.is hj), fun j hj => by rw [far _ (by omega)]; exact hg.by_ j hj, fun j hj => by rw [far _ (by omega)]; exact hg.to j hj, fun j hj => by rw [far _ (by omega)]; exact hg.cs j hj,
     by rw [far _ (by omega)]; exact hg.rate, by rw [far _ (by omega)]; exact hg.at_, stores_free _ _ _ _ hg.free⟩
  have he2 : Ext (fun k => w.heap.size + 2 ≤ k) w0 (stores w1 g 0 (rowA 25 (lu s)).toList) := (he1.mono fun _ h => h.elim).stores _ _ (fun h => by omega)
  refine ok_call rfl (by kernel_rfl) (all_any g s 136 0 _ hg2) ?_
  rintro e w3 ⟨rfl, he3, hg3⟩
  refine ⟨_, rfl, ?_⟩
  have he : Ext (fun k => w.heap.size + 2 ≤ k) w0 w3 := he2.trans (he3.mono fun k h => by omega)
  refine ok_ldR (cs := rowA 25 (lu (full s))) rfl (rowA_size _ _) (Row.ofA hg3.st) ?_
  have r3 := r1.ext he (by omega) (by omega)
  have q3 := q1.ext he (by omega) (by omega)
  refine ok_stR rfl (rowA_size _ _) (rowA_one _ _ fun _ => rfl) (fun j hj => ⟨r3.is hj, q3 _⟩) ?_
  have r4 := rowA_stores w3 (w.heap.size + 1) 0 25 (lu (full s)) (fun j hj => r3.is hj)
  refine ok_finR rfl (finC1 rfl rfl _ (run_loadVar_arr agrees (t := 33) rfl (rowA_size _ _) r4.ofA) ⟨rfl, ?_⟩)
  exact ((e0.mono fun _ h => h.elim).trans' (S := fun _ => False) he (fun k hk h => by omega)).stores _ _ (fun h => by omega)

theorem build0 (w : World) : (Instr.buildSlice 22 0 #[]).run Try.prog w = .ok (.slice (some ⟨w.heap.size, 0, none⟩) 0 0) (w.alloc (.cells #[] 5)) := by
  obtain ⟨i, hi, hz, hs, hb⟩ := in5
  have e0 : Array.range 0 = #[] := by decide
  simp [Instr.buildSlice, run_underlying el5, sizeOf, typeInfo, zeroValue, hi, hz, hs, newRow, Instr.fill, e0]
theorem build1 (b : BitVec 8) (w : World) : (Instr.buildSlice 22 1 #[(0, bv b)]).run Try.prog w = .ok (.slice (some ⟨w.heap.size, 0, none⟩) 1 1) (w.alloc (.cells #[bv b] 5)) := by
  obtain ⟨i, hi, hz, hs, hb⟩ := in5
  simp [Instr.buildSlice, run_underlying el5, sizeOf, typeInfo, zeroValue, hi, hz, hs, newRow, Instr.fill, bv, Value.cells, zB, show Array.range 1 = #[0] by decide]

/-- A slice that was cut short. -/
theorem run_cut (h n cap : Nat) (a : Option Addr) (hh : h ≤ cap) (z : Int) (hzh : z = (h : Int)) (w : World) : (Instr.sliceAt 22 (.slice a n cap) none (some (.int .i64 z)) none).run Try.prog w = .ok (.slice a h cap) w := by
  subst hzh
  obtain ⟨i, hi, hz, hs, hb⟩ := in5
  have : (h : Int) ≤ (cap : Int) := by omega
  by_cases h0 : cap = 0
  · simp [Instr.sliceAt, Instr.slice, run_underlying el5, Instr.sliceBounds, Instr.sliceBound, asIntOf, sizeOf, typeInfo, hi, hs, this, h0]; omega
  · simp [Instr.sliceAt, Instr.slice, run_underlying el5, Instr.sliceBounds, Instr.sliceBound, asIntOf, sizeOf, typeInfo, hi, hs, this, h0, hh]
    cases a <;> simp [Addr.add]

end Go.Proofs.Ytdbjhhnphbnnlaa
