/- The program's sponge: begun, all rounds, a byte taken in. -/
import Derived.Test.YtdbjhhnphbnnlaaK2
namespace Go.Proofs.Ytdbjhhnphbnnlaa
open Go Go.RowKit

/-- A sponge lies there. -/
structure Spg (w : World) (g : Nat) (s : St) (rate at_ : Nat) : Prop where
  st : Row w g 0 25 (lu s)
  by_ : Row w g 25 25 (li off)
  to : Row w g 50 25 (li pos)
  cs : Row w g 75 24 (lu rc)
  rate : w.cell? ⟨g, 99, none⟩ = some (.int .i64 (rate : Int))
  at_ : w.cell? ⟨g, 100, none⟩ = some (.int .i64 (at_ : Int))
  free : Free w g

section
variable {w w' : World} {g : Nat} {s : St} {rate at_ : Nat}
theorem Spg.lt (h : Spg w g s rate at_) : g < w.heap.size := h.st.lt (by decide)
theorem Spg.ext {S : Nat → Prop} (h : Spg w g s rate at_) (he : Ext S w w') (hs : ¬ S g) : Spg w' g s rate at_ :=
  ⟨h.st.ext he h.lt hs, h.by_.ext he h.lt hs, h.to.ext he h.lt hs, h.cs.ext he h.lt hs, by rw [cell_blk (he.block g h.lt hs)]; exact h.rate, by rw [cell_blk (he.block g h.lt hs)]; exact h.at_, h.free.ext he h.lt hs⟩
theorem Spg.atS (h : Spg w g s rate at_) : (w.cell? ⟨g, 100, none⟩).isSome = true := by rw [h.at_]; rfl
theorem Spg.drew (h : Spg w g s rate at_) : Spg w.drew g s rate at_ := ⟨h.st, h.by_, h.to, h.cs, h.rate, h.at_, h.free⟩
theorem Spg.alloc (h : Spg w g s rate at_) (o : Obj) (ho : frz o = true := by rfl) : Spg (w.alloc o) g s rate at_ := h.ext (S := fun _ => False) ((Ext.refl _ w).alloc o ho) id
theorem Spg.other (h : Spg w g s rate at_) (a : Addr) (v : Value) (hne : a.block ≠ g) : Spg (w.setCell a v) g s rate at_ := h.ext (S := fun k => k = a.block) ((Ext.refl _ w).set a v fun _ => rfl) (fun e => hne e.symm)
/-- A store into the state. -/
theorem Spg.word (h : Spg w g s rate at_) (j : Nat) (hj : j < 25) (v : W64) : Spg (w.setCell ⟨g, 0 + j, none⟩ (.int .u64 (L v))) g (upd s j v) rate at_ :=
  ⟨(h.st.set hj _).congr (fun i _ => upd_lu _ _ _ _), h.by_.other _ _ (by dsimp only; omega), h.to.other _ _ (by dsimp only; omega), h.cs.other _ _ (by dsimp only; omega),
   by rw [World.cell?_setCell_other _ _ _ _ (by intro e; injection e; omega)]; exact h.rate, by rw [World.cell?_setCell_other _ _ _ _ (by intro e; injection e; omega)]; exact h.at_, h.free.set _ _⟩
/-- A store into the place. -/
theorem Spg.place (h : Spg w g s rate at_) (n : Nat) : Spg (w.setCell ⟨g, 100, none⟩ (.int .i64 (n : Int))) g s rate n :=
  ⟨h.st.other _ _ (by dsimp only; omega), h.by_.other _ _ (by dsimp only; omega), h.to.other _ _ (by dsimp only; omega), h.cs.other _ _ (by dsimp only; omega),
   by rw [World.cell?_setCell_other _ _ _ _ (by intro e; injection e; omega)]; exact h.rate, World.cell?_setCell_same _ _ _ h.at_, h.free.set _ _⟩
theorem Spg.same {s' : St} (h : Spg w g s rate at_) (e : ∀ j, j < 25 → s j = s' j) : Spg w g s' rate at_ := ⟨h.st.congr (fun j hj => by unfold lu; rw [e j hj]), h.by_, h.to, h.cs, h.rate, h.at_, h.free⟩
end

def spgF (rate : Nat) (j : Nat) : Value := if j < 75 then (if j < 25 then zU else zI) else if j < 99 then lu rc (j - 75) else if j = 99 then .int .i64 (rate : Int) else .int .i64 ((0 : Nat) : Int)
def spg0 (rate : Nat) : Array Value := rowA 101 (spgF rate)
theorem run_build (rate : Nat) (w : World) : (Instr.build 48 #[(4, .int .i64 (rate : Int)), (3, .agg (rowA 24 (lu rc)))]).run Try.prog w = .ok (.agg (spg0 rate)) w := by kernel_rfl
theorem spg0_get (rate : Nat) : (∀ j, j < 25 → (spg0 rate)[0 + j]? = some (lu zero j)) ∧ (∀ j, j < 25 → (spg0 rate)[25 + j]? = some zI) ∧ (∀ j, j < 25 → (spg0 rate)[50 + j]? = some zI) ∧ (∀ j, j < 24 → (spg0 rate)[75 + j]? = some (lu rc j)) ∧
    (spg0 rate)[99]? = some (.int .i64 (rate : Int)) ∧ (spg0 rate)[100]? = some (.int .i64 ((0 : Nat) : Int)) := by
  have get : ∀ j, j < 101 → (spg0 rate)[j]? = some (spgF rate j) := fun j hj => rowA_get _ _ _ hj
  refine ⟨fun j hj => ?_, fun j hj => ?_, fun j hj => ?_, fun j hj => ?_, ?_, ?_⟩
  · rw [get _ (by omega)]; unfold spgF; rw [if_pos (by omega), if_pos (by omega)]; rfl
  · rw [get _ (by omega)]; unfold spgF; rw [if_pos (by omega), if_neg (by omega)]
  · rw [get _ (by omega)]; unfold spgF; rw [if_pos (by omega), if_neg (by omega)]
  · rw [get _ (by omega)]; unfold spgF; rw [if_neg (by omega), if_pos (by omega), show 75 + j - 75 = j by omega]
  · rw [get _ (by omega)]; unfold spgF; rw [if_neg (by omega), if_neg (by omega), if_pos rfl]
  · rw [get _ (by omega)]; unfold spgF; rw [if_neg (by omega), if_neg (by omega), if_neg (by omega)]

set_option maxRecDepth 100000 in
theorem start_any (rate : Nat) (w : World) : Calls Try.prog 19 #[.int .i64 (rate : Int)] w fun e w' => ∃ g, e = .returned (.pointer (some ⟨g, 0, none⟩)) ∧ w.heap.size ≤ g ∧ Ext (fun _ => False) w w' ∧ Spg w' g zero rate 0 := by
  refine calls_run (args := [_]) agrees od0 100 Try.func19 rfl ?_
  refine ok_call rfl (by kernel_rfl) (constants_any _) ?_
  rintro e w1 ⟨rfl, he1⟩
  refine ⟨_, rfl, ?_⟩
  refine ok_rawS rfl (Instr.build 48 #[(4, .int .i64 (rate : Int)), (3, .agg (rowA 24 (lu rc)))]) (by simp [execOp, Act.eval, act]) (run_build rate _) ?_
  refine ok_new rfl ?_
  refine ok_call rfl (by kernel_rfl) (turns_any _) ?_
  rintro e w2 ⟨rfl, he2⟩
  refine ⟨_, rfl, ?_⟩
  have hsz : w1.heap.size < w2.heap.size := by have := he2.size; rw [World.size_alloc] at this; omega
  have hlt : w1.heap.size < (w1.alloc (.cells (spg0 rate) 48)).heap.size := by rw [World.size_alloc]; omega
  have hall : ∀ o, w2.cell? ⟨w1.heap.size, o, none⟩ = (spg0 rate)[o]? := fun o => by
    rw [cell_blk (he2.block _ hlt id)]
    simp only [World.cell?, heap_alloc_new]
    rfl
  have hfr : Free w2 w1.heap.size := (Free.new w1 (spg0 rate) 48).ext he2 hlt id
  obtain ⟨g0, g1, g2, g3, g4, g5⟩ := spg0_get rate
  have r1 : Row w2 w1.heap.size (0 + 25) 25 (fun _ => zI) := fun j hj => by rw [hall]; exact g1 j hj
  have r2 : Row w2 w1.heap.size (0 + 50) 25 (fun _ => zI) := fun j hj => by rw [hall]; exact g2 j hj
  refine ok_stR rfl (rowA_size _ _) (rowA_one _ _ fun _ => rfl) (fun j hj => ⟨r1.is hj, hfr _⟩) ?_
  have o1 : ∀ (w : World) (b : Nat) (l : List Value) (off o : Nat), (o < off ∨ off + l.length ≤ o) → (stores w b off l).cell? ⟨b, o, none⟩ = w.cell? ⟨b, o, none⟩ := by
    intro w b l
    induction l generalizing w with
    | nil => intro off o _; rfl
    | cons v l ih => intro off o ho; simp only [stores]; rw [ih _ _ _ (by simp at ho; omega), World.cell?_setCell_other _ _ _ _ (by intro e; injection e; simp at ho; omega)]
  have hl25 : ∀ f : Nat → Value, (rowA 25 f).toList.length = 25 := fun f => by simp [rowA]
  have r1' : Row (stores w2 w1.heap.size (0 + 25) (rowA 25 (li off)).toList) w1.heap.size (0 + 25) 25 (li off) := rowA_stores _ _ _ _ _ fun j hj => r1.is hj
  have r2' : Row (stores w2 w1.heap.size (0 + 25) (rowA 25 (li off)).toList) w1.heap.size (0 + 50) 25 (fun _ => zI) := fun j hj => by rw [o1 _ _ _ _ _ (by rw [hl25]; omega)]; exact r2 j hj
  refine ok_stR rfl (rowA_size _ _) (rowA_one _ _ fun _ => rfl) (fun j hj => ⟨r2'.is hj, stores_free _ _ _ _ hfr _⟩) ?_
  have r2'' := rowA_stores (stores w2 w1.heap.size (0 + 25) (rowA 25 (li off)).toList) w1.heap.size (0 + 50) 25 (li pos) fun j hj => r2'.is hj
  refine ok_finR rfl (fin1R rfl _ rfl ⟨w1.heap.size, rfl, he1.size, ((Ext.trans' he1 ((Ext.refl (fun _ => False) w1).alloc _) (fun _ _ h => h)).trans he2 |>.stores _ _ fun h => by have := he1.size; omega).stores _ _ fun h => by have := he1.size; omega,
    ⟨fun j hj => ?_, fun j hj => ?_, r2'', fun j hj => ?_, ?_, ?_, stores_free _ _ _ _ (stores_free _ _ _ _ hfr)⟩⟩)
  · rw [o1 _ _ _ _ _ (by omega), o1 _ _ _ _ _ (by omega), hall]; exact g0 j hj
  · rw [o1 _ _ _ _ _ (by omega)]; exact r1' j hj
  · rw [o1 _ _ _ _ _ (by rw [hl25]; omega), o1 _ _ _ _ _ (by rw [hl25]; omega), hall]; exact g3 j hj
  · rw [o1 _ _ _ _ _ (by rw [hl25]; omega), o1 _ _ _ _ _ (by rw [hl25]; omega), hall]; exact g4
  · rw [o1 _ _ _ _ _ (by rw [hl25]; omega), o1 _ _ _ _ _ (by rw [hl25]; omega), hall]; exact g5

def od22 : Nat → List Nat := fun _ => List.range 11

def IA (w : World) (g : Nat) (s : St) (rate at_ : Nat) (tm : List Value) (wr : World) : Prop := ∃ n : Nat, n ≤ 24 ∧ Ext (· = g) w wr ∧ Spg wr g (perm n s) rate at_ ∧ ∃ u : Nat → Value, tm = [.pointer (some ⟨g, 0, none⟩), u 1, u 2, u 3, u 4, u 5, u 6, .agg (rowA 24 (lu rc)), .int .i64 (n : Int), u 9, u 10, u 11, u 12, u 13, u 14, u 15, u 16, u 17, u 18, u 19, u 20, u 21, u 22, u 23, u 24, u 25]

set_option maxRecDepth 100000 in
theorem all_any (g : Nat) (s : St) (rate at_ : Nat) (w : World) (hg : Spg w g s rate at_) : Calls Try.prog 22 #[.pointer (some ⟨g, 0, none⟩)] w fun e w' => e = .returned (.tuple #[]) ∧ Ext (· = g) w w' ∧ Spg w' g (full s) rate 0 := by
  refine calls_run (args := [_]) agrees od22 200 Try.func22 rfl ?_
  refine ok_ldR (cs := rowA 24 (lu rc)) rfl (rowA_size _ _) (Row.ofA hg.cs) ?_
  refine ok_loop rfl (IA w g s rate at_) (fun tm _ => 24 - (intOf (tm.getD 8 undef)).toNat) ?_ ?_
  · exact ⟨0, by omega, Ext.refl _ w, hg, fr_intro rfl⟩
  rintro tm wr ⟨n, hn, he, hg, u, rfl⟩
  refine runK_sound (od := od22) agrees 200 _ _ (fun _ => False) _ ?_
  by_cases hlt : n < 24
  · refine ok_calcB rfl true (deT (by omega)) ?_
    refine ok_brT rfl rfl ?_
    refine ok_idx rfl n (by omega) (by omega) ?_
    refine ok_get rfl (rowA_get _ _ _ hlt) ?_
    refine ok_test rfl (by kernel_rfl) ?_
    refine ok_draw rfl (SameHeap wr) (SameHeap.refl _) ?_
    refine ok_call rfl (by kernel_rfl) (mix_any g (perm n s) (rc n) _ hg.drew.st hg.drew.by_ hg.drew.to hg.drew.free) ?_
    rintro e w1 ⟨rfl, he1, hst, hrest, hfr⟩
    refine ⟨_, rfl, ?_⟩
    refine ok_calc rfl (((n + 1) : Nat) : Int) (w64 (by omega)) ?_
    have hg1 : Spg w1 g (perm (n + 1) s) rate at_ := ⟨hst, fun j hj => (hrest _ (by omega)).trans (hg.drew.by_ j hj), fun j hj => (hrest _ (by omega)).trans (hg.drew.to j hj), fun j hj => (hrest _ (by omega)).trans (hg.drew.cs j hj),
      (hrest _ (by omega)).trans hg.drew.rate, (hrest _ (by omega)).trans hg.drew.at_, hfr⟩
    exact ok_back rfl ⟨⟨n + 1, by omega, he.drew.trans he1, hg1, fr_intro rfl⟩, by show 24 - (n + 1) < 24 - n; omega⟩
  obtain rfl : n = 24 := by omega
  refine ok_calcB rfl false (deF (by omega)) ?_
  refine ok_brF rfl rfl ?_
  refine ok_st rfl rfl hg.atS (hg.free _) ?_
  exact ok_finN rfl (fin0N rfl ⟨rfl, he.set _ _ (fun _ => rfl), hg.place 0⟩)

def od29 : Nat → List Nat := fun _ => List.range 18

set_option maxRecDepth 100000 in
theorem add_any (g : Nat) (s : St) (rate at0 at_ : Nat) (b : BitVec 8) (w : World) (hg : Spg w g s rate at0) (hat : at_ < 200) :
    Calls Try.prog 29 #[.pointer (some ⟨g, 0, none⟩), .int .i64 (at_ : Int), .int .u8 (Bt b)] w fun e w' => e = .returned (.tuple #[]) ∧ Ext (· = g) w w' ∧ Spg w' g (addB s at_ b) rate at0 := by
  refine calls_run (args := [_, _, _]) agrees od29 200 Try.func29 rfl ?_
  refine ok_test rfl (by kernel_rfl) ?_
  refine ok_draw rfl (SameHeap w) (SameHeap.refl _) ?_
  refine ok_test rfl (by decide) ?_
  refine ok_calc rfl _ (tdivl at_ 8 _ rfl (by omega)) ?_
  refine ok_idx rfl (at_ / 8) (by omega) (by omega) ?_
  refine ok_ldC rfl (fun w' hw' => (SameHeap.cell hw' _).trans (hg.drew.st _ (by omega))) ?_
  refine ok_calc rfl _ (up8 b) ?_
  refine ok_test rfl (by decide) ?_
  refine ok_calc rfl _ (tmodl at_ 8 _ rfl) ?_
  refine ok_calc rfl (((8 * (at_ % 8)) : Nat) : Int) (w64 (by omega)) ?_
  refine ok_test rfl (by omega) ?_
  refine ok_calc rfl _ (shlL _ _) ?_
  refine ok_calc rfl _ (xorL _ _) ?_
  refine ok_idx rfl (at_ / 8) (by omega) (by omega) ?_
  refine ok_st rfl rfl (hg.drew.st.is (by omega)) (hg.drew.free _) ?_
  exact ok_finN rfl (fin0N rfl ⟨rfl, (Ext.refl _ w).drew.set _ _ (fun _ => rfl), hg.drew.word _ (by omega) _⟩)

end Go.Proofs.Ytdbjhhnphbnnlaa
