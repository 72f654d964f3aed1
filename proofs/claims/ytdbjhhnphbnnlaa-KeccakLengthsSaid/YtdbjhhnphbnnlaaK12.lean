/- The reference's round, all its rounds. -/
import Derived.Test.YtdbjhhnphbnnlaaK11
namespace Go.Proofs.Ytdbjhhnphbnnlaa
open Go Go.RowKit

theorem Row.eqA {w : World} {b off n : Nat} {f : Nat → Value} (h : Row w b off n f) {f' : Nat → Value} (e : ∀ j, j < n → f j = f' j) : Row w b off n f' := h.congr e
def od31 : Nat → List Nat := fun n => match n with | 5 => List.range 26 | 9 => List.range 15 | 17 => List.range 31 | 24 => List.range 31 | 25 => List.range 11 | _ => []

section
variable (t n : Nat) (s : St) (w : World)
def IQ1 (tm : List Value) (wr : World) : Prop := ∃ x : Nat, x ≤ 5 ∧ Ext (fun _ => False) w wr ∧ wr.heap.size = w.heap.size + 4 ∧ Row wr w.heap.size 0 25 (lu s) ∧ Row wr (w.heap.size + 1) 0 25 (fun _ => zU) ∧ Free wr (w.heap.size + 1) ∧ Row wr (w.heap.size + 2) 0 5 (fun j => if j < x then lu (col s) j else zU) ∧ Free wr (w.heap.size + 2) ∧ Row wr (w.heap.size + 3) 0 5 (fun _ => zU) ∧ Free wr (w.heap.size + 3) ∧ ∃ u : Nat → Value, tm = [.pointer (some ⟨t, 0, none⟩), u 1, .int .i64 (n : Int), u 3, .pointer (some ⟨w.heap.size, 0, none⟩), u 5, .pointer (some ⟨w.heap.size + 1, 0, none⟩), .pointer (some ⟨w.heap.size + 2, 0, none⟩), .pointer (some ⟨w.heap.size + 3, 0, none⟩), .int .i64 (x : Int), u 10, u 11, u 12, u 13, u 14, u 15, u 16, u 17, u 18, u 19, u 20, u 21, u 22, u 23, u 24, u 25, u 26, u 27, u 28, u 29, u 30, u 31, u 32, u 33, u 34, u 35, u 36, u 37, u 38, u 39, u 40, u 41, u 42, u 43, u 44, u 45, u 46, u 47, u 48, u 49, u 50, u 51, u 52, u 53, u 54, u 55, u 56, u 57, u 58, u 59, u 60, u 61, u 62, u 63, u 64, u 65, u 66, u 67, u 68, u 69, u 70, u 71, u 72, u 73, u 74, u 75, u 76, u 77, u 78, u 79, u 80, u 81, u 82, u 83, u 84, u 85, u 86, u 87, u 88, u 89, u 90, u 91, u 92, u 93, u 94, u 95, u 96, u 97, u 98, u 99, u 100, u 101, u 102, u 103, u 104, u 105, u 106, u 107, u 108, u 109, u 110, u 111, u 112, u 113, u 114, u 115, u 116, u 117, u 118, u 119, u 120, u 121, u 122, u 123, u 124, u 125, u 126, u 127, u 128, u 129, u 130, u 131, u 132, u 133, u 134, u 135, u 136, u 137, u 138, u 139, u 140, u 141, u 142, u 143, u 144, u 145, u 146, u 147, u 148, u 149, u 150]
def IQ2 (tm : List Value) (wr : World) : Prop := ∃ x : Nat, x ≤ 5 ∧ Ext (fun _ => False) w wr ∧ wr.heap.size = w.heap.size + 4 ∧ Row wr w.heap.size 0 25 (lu s) ∧ Row wr (w.heap.size + 1) 0 25 (fun _ => zU) ∧ Free wr (w.heap.size + 1) ∧ Row wr (w.heap.size + 2) 0 5 (lu (col s)) ∧ Row wr (w.heap.size + 3) 0 5 (fun j => if j < x then lu (th s) j else zU) ∧ Free wr (w.heap.size + 3) ∧ ∃ u : Nat → Value, tm = [.pointer (some ⟨t, 0, none⟩), u 1, .int .i64 (n : Int), u 3, .pointer (some ⟨w.heap.size, 0, none⟩), u 5, .pointer (some ⟨w.heap.size + 1, 0, none⟩), .pointer (some ⟨w.heap.size + 2, 0, none⟩), .pointer (some ⟨w.heap.size + 3, 0, none⟩), u 9, .int .i64 (x : Int), u 11, u 12, u 13, u 14, u 15, u 16, u 17, u 18, u 19, u 20, u 21, u 22, u 23, u 24, u 25, u 26, u 27, u 28, u 29, u 30, u 31, u 32, u 33, u 34, u 35, u 36, u 37, u 38, u 39, u 40, u 41, u 42, u 43, u 44, u 45, u 46, u 47, u 48, u 49, u 50, u 51, u 52, u 53, u 54, u 55, u 56, u 57, u 58, u 59, u 60, u 61, u 62, u 63, u 64, u 65, u 66, u 67, u 68, u 69, u 70, u 71, u 72, u 73, u 74, u 75, u 76, u 77, u 78, u 79, u 80, u 81, u 82, u 83, u 84, u 85, u 86, u 87, u 88, u 89, u 90, u 91, u 92, u 93, u 94, u 95, u 96, u 97, u 98, u 99, u 100, u 101, u 102, u 103, u 104, u 105, u 106, u 107, u 108, u 109, u 110, u 111, u 112, u 113, u 114, u 115, u 116, u 117, u 118, u 119, u 120, u 121, u 122, u 123, u 124, u 125, u 126, u 127, u 128, u 129, u 130, u 131, u 132, u 133, u 134, u 135, u 136, u 137, u 138, u 139, u 140, u 141, u 142, u 143, u 144, u 145, u 146, u 147, u 148, u 149, u 150]
def IQ3 (tm : List Value) (wr : World) : Prop := ∃ x : Nat, x ≤ 5 ∧ Ext (fun _ => False) w wr ∧ wr.heap.size = w.heap.size + 6 ∧ Row wr w.heap.size 0 25 (lu s) ∧ Row wr (w.heap.size + 1) 0 25 (fun _ => zU) ∧ Free wr (w.heap.size + 1) ∧ Row wr (w.heap.size + 3) 0 5 (lu (th s)) ∧ (∀ j, j < 25 → (wr.cell? ⟨w.heap.size + 4, 0 + j, none⟩).isSome = true) ∧ Free wr (w.heap.size + 4) ∧ Row wr (w.heap.size + 5) 0 25 (fun _ => zU) ∧ Free wr (w.heap.size + 5) ∧ (∀ i, i < 25 → i % 5 < x → wr.cell? ⟨w.heap.size + 4, 0 + pos i, none⟩ = some (lu (bb s) i)) ∧ ∃ u : Nat → Value, tm = [.pointer (some ⟨t, 0, none⟩), u 1, .int .i64 (n : Int), u 3, .pointer (some ⟨w.heap.size, 0, none⟩), u 5, .pointer (some ⟨w.heap.size + 1, 0, none⟩), .pointer (some ⟨w.heap.size + 2, 0, none⟩), .pointer (some ⟨w.heap.size + 3, 0, none⟩), u 9, u 10, .pointer (some ⟨w.heap.size + 4, 0, none⟩), .pointer (some ⟨w.heap.size + 5, 0, none⟩), .int .i64 (x : Int), u 14, u 15, u 16, u 17, u 18, u 19, u 20, u 21, u 22, u 23, u 24, u 25, u 26, u 27, u 28, u 29, u 30, u 31, u 32, u 33, u 34, u 35, u 36, u 37, u 38, u 39, u 40, u 41, u 42, u 43, u 44, u 45, u 46, u 47, u 48, u 49, u 50, u 51, u 52, u 53, u 54, u 55, u 56, u 57, u 58, u 59, u 60, u 61, u 62, u 63, u 64, u 65, u 66, u 67, u 68, u 69, u 70, u 71, u 72, u 73, u 74, u 75, u 76, u 77, u 78, u 79, u 80, u 81, u 82, u 83, u 84, u 85, u 86, u 87, u 88, u 89, u 90, u 91, u 92, u 93, u 94, u 95, u 96, u 97, u 98, u 99, u 100, u 101, u 102, u 103, u 104, u 105, u 106, u 107, u 108, u 109, u 110, u 111, u 112, u 113, u 114, u 115, u 116, u 117, u 118, u 119, u 120, u 121, u 122, u 123, u 124, u 125, u 126, u 127, u 128, u 129, u 130, u 131, u 132, u 133, u 134, u 135, u 136, u 137, u 138, u 139, u 140, u 141, u 142, u 143, u 144, u 145, u 146, u 147, u 148, u 149, u 150]
def IQ4 (x : Nat) (tm : List Value) (wr : World) : Prop := ∃ y : Nat, y ≤ 5 ∧ Ext (fun _ => False) w wr ∧ wr.heap.size = w.heap.size + 6 ∧ Row wr w.heap.size 0 25 (lu s) ∧ Row wr (w.heap.size + 1) 0 25 (fun _ => zU) ∧ Free wr (w.heap.size + 1) ∧ Row wr (w.heap.size + 3) 0 5 (lu (th s)) ∧ (∀ j, j < 25 → (wr.cell? ⟨w.heap.size + 4, 0 + j, none⟩).isSome = true) ∧ Free wr (w.heap.size + 4) ∧ Row wr (w.heap.size + 5) 0 25 (fun _ => zU) ∧ Free wr (w.heap.size + 5) ∧ (∀ i, i < 25 → (i % 5 < x ∨ i % 5 = x ∧ i / 5 < y) → wr.cell? ⟨w.heap.size + 4, 0 + pos i, none⟩ = some (lu (bb s) i)) ∧ ∃ u : Nat → Value, tm = [.pointer (some ⟨t, 0, none⟩), u 1, .int .i64 (n : Int), u 3, .pointer (some ⟨w.heap.size, 0, none⟩), u 5, .pointer (some ⟨w.heap.size + 1, 0, none⟩), .pointer (some ⟨w.heap.size + 2, 0, none⟩), .pointer (some ⟨w.heap.size + 3, 0, none⟩), u 9, u 10, .pointer (some ⟨w.heap.size + 4, 0, none⟩), .pointer (some ⟨w.heap.size + 5, 0, none⟩), .int .i64 (x : Int), .int .i64 (y : Int), u 15, u 16, u 17, u 18, u 19, u 20, u 21, u 22, u 23, u 24, u 25, u 26, u 27, u 28, u 29, u 30, u 31, u 32, u 33, u 34, u 35, u 36, u 37, u 38, u 39, u 40, u 41, u 42, u 43, u 44, u 45, u 46, u 47, u 48, u 49, u 50, u 51, u 52, u 53, u 54, u 55, u 56, u 57, u 58, u 59, u 60, u 61, u 62, u 63, u 64, u 65, u 66, u 67, u 68, u 69, u 70, u 71, u 72, u 73, u 74, u 75, u 76, u 77, u 78, u 79, u 80, u 81, u 82, u 83, u 84, u 85, u 86, u 87, u 88, u 89, u 90, u 91, u 92, u 93, u 94, u 95, u 96, u 97, u 98, u 99, u 100, u 101, u 102, u 103, u 104, u 105, u 106, u 107, u 108, u 109, u 110, u 111, u 112, u 113, u 114, u 115, u 116, u 117, u 118, u 119, u 120, u 121, u 122, u 123, u 124, u 125, u 126, u 127, u 128, u 129, u 130, u 131, u 132, u 133, u 134, u 135, u 136, u 137, u 138, u 139, u 140, u 141, u 142, u 143, u 144, u 145, u 146, u 147, u 148, u 149, u 150]
def IQ5 (tm : List Value) (wr : World) : Prop := ∃ x : Nat, x ≤ 5 ∧ Ext (fun _ => False) w wr ∧ wr.heap.size = w.heap.size + 6 ∧ Row wr w.heap.size 0 25 (lu s) ∧ Row wr (w.heap.size + 1) 0 25 (fun _ => zU) ∧ Free wr (w.heap.size + 1) ∧ Row wr (w.heap.size + 4) 0 25 (lu (bs s)) ∧ Free wr (w.heap.size + 5) ∧ Row wr (w.heap.size + 5) 0 25 (fun j => if j % 5 < x then lu (chi (bs s)) j else zU) ∧ ∃ u : Nat → Value, tm = [.pointer (some ⟨t, 0, none⟩), u 1, .int .i64 (n : Int), u 3, .pointer (some ⟨w.heap.size, 0, none⟩), u 5, .pointer (some ⟨w.heap.size + 1, 0, none⟩), .pointer (some ⟨w.heap.size + 2, 0, none⟩), .pointer (some ⟨w.heap.size + 3, 0, none⟩), u 9, u 10, .pointer (some ⟨w.heap.size + 4, 0, none⟩), .pointer (some ⟨w.heap.size + 5, 0, none⟩), u 13, u 14, .int .i64 (x : Int), u 16, u 17, u 18, u 19, u 20, u 21, u 22, u 23, u 24, u 25, u 26, u 27, u 28, u 29, u 30, u 31, u 32, u 33, u 34, u 35, u 36, u 37, u 38, u 39, u 40, u 41, u 42, u 43, u 44, u 45, u 46, u 47, u 48, u 49, u 50, u 51, u 52, u 53, u 54, u 55, u 56, u 57, u 58, u 59, u 60, u 61, u 62, u 63, u 64, u 65, u 66, u 67, u 68, u 69, u 70, u 71, u 72, u 73, u 74, u 75, u 76, u 77, u 78, u 79, u 80, u 81, u 82, u 83, u 84, u 85, u 86, u 87, u 88, u 89, u 90, u 91, u 92, u 93, u 94, u 95, u 96, u 97, u 98, u 99, u 100, u 101, u 102, u 103, u 104, u 105, u 106, u 107, u 108, u 109, u 110, u 111, u 112, u 113, u 114, u 115, u 116, u 117, u 118, u 119, u 120, u 121, u 122, u 123, u 124, u 125, u 126, u 127, u 128, u 129, u 130, u 131, u 132, u 133, u 134, u 135, u 136, u 137, u 138, u 139, u 140, u 141, u 142, u 143, u 144, u 145, u 146, u 147, u 148, u 149, u 150]
def IQ6 (x : Nat) (tm : List Value) (wr : World) : Prop := ∃ y : Nat, y ≤ 5 ∧ Ext (fun _ => False) w wr ∧ wr.heap.size = w.heap.size + 6 ∧ Row wr w.heap.size 0 25 (lu s) ∧ Row wr (w.heap.size + 1) 0 25 (fun _ => zU) ∧ Free wr (w.heap.size + 1) ∧ Row wr (w.heap.size + 4) 0 25 (lu (bs s)) ∧ Free wr (w.heap.size + 5) ∧ Row wr (w.heap.size + 5) 0 25 (fun j => if j % 5 < x ∨ j % 5 = x ∧ j / 5 < y then lu (chi (bs s)) j else zU) ∧ ∃ u : Nat → Value, tm = [.pointer (some ⟨t, 0, none⟩), u 1, .int .i64 (n : Int), u 3, .pointer (some ⟨w.heap.size, 0, none⟩), u 5, .pointer (some ⟨w.heap.size + 1, 0, none⟩), .pointer (some ⟨w.heap.size + 2, 0, none⟩), .pointer (some ⟨w.heap.size + 3, 0, none⟩), u 9, u 10, .pointer (some ⟨w.heap.size + 4, 0, none⟩), .pointer (some ⟨w.heap.size + 5, 0, none⟩), u 13, u 14, .int .i64 (x : Int), .int .i64 (y : Int), u 17, u 18, u 19, u 20, u 21, u 22, u 23, u 24, u 25, u 26, u 27, u 28, u 29, u 30, u 31, u 32, u 33, u 34, u 35, u 36, u 37, u 38, u 39, u 40, u 41, u 42, u 43, u 44, u 45, u 46, u 47, u 48, u 49, u 50, u 51, u 52, u 53, u 54, u 55, u 56, u 57, u 58, u 59, u 60, u 61, u 62, u 63, u 64, u 65, u 66, u 67, u 68, u 69, u 70, u 71, u 72, u 73, u 74, u 75, u 76, u 77, u 78, u 79, u 80, u 81, u 82, u 83, u 84, u 85, u 86, u 87, u 88, u 89, u 90, u 91, u 92, u 93, u 94, u 95, u 96, u 97, u 98, u 99, u 100, u 101, u 102, u 103, u 104, u 105, u 106, u 107, u 108, u 109, u 110, u 111, u 112, u 113, u 114, u 115, u 116, u 117, u 118, u 119, u 120, u 121, u 122, u 123, u 124, u 125, u 126, u 127, u 128, u 129, u 130, u 131, u 132, u 133, u 134, u 135, u 136, u 137, u 138, u 139, u 140, u 141, u 142, u 143, u 144, u 145, u 146, u 147, u 148, u 149, u 150]
end

set_option maxRecDepth 100000 in
set_option maxHeartbeats 1000000 in
theorem refRound_any (t n : Nat) (s : St) (w : World) (hn : n < 24) (ht : Row w t 0 49 tabF) :
    Calls Try.prog 31 #[.pointer (some ⟨t, 0, none⟩), .agg (rowA 25 (lu s)), .int .i64 (n : Int)] w fun e w' => e = .returned (.agg (rowA 25 (lu (round s (rc n))))) ∧ Ext (fun _ => False) w w' := by
  have htl : t < w.heap.size := ht.lt (by decide)
  have hby := tabT_lo ht
  have hrc := tabT_hi ht
  refine calls_run (args := [_, _, _]) agrees od31 400 Try.func31 rfl ?_
  refine ok_new rfl ?_
  have e0 : Ext (fun _ => False) w (w.alloc (.cells (rowA 25 (lu s)) 33)) := (Ext.refl _ w).alloc _
  have z0 : (w.alloc (.cells (rowA 25 (lu s)) 33)).heap.size = w.heap.size + 1 := by rw [World.size_alloc]
  have r0 : Row (w.alloc (.cells (rowA 25 (lu s)) 33)) w.heap.size 0 25 (lu s) := Row.new w _ _ _ _ fun j hj => rowA_get _ _ _ hj
  generalize w.alloc (.cells (rowA 25 (lu s)) 33) = w0 at *
  refine ok_newAt rfl (w.heap.size + 1) z0 ?_
  have e1 := e0.alloc (.cells (Array.replicate 25 zU) 33)
  have z1 : (w0.alloc (.cells (Array.replicate 25 zU) 33)).heap.size = w.heap.size + 2 := by rw [World.size_alloc, z0]
  have r1 := r0.alloc (by omega) (.cells (Array.replicate 25 zU) 33)
  have a1 : Row (w0.alloc (.cells (Array.replicate 25 zU) 33)) (w.heap.size + 1) 0 25 (fun _ => zU) := by rw [← z0]; exact Row.new w0 _ _ _ _ fun j hj => by simp [hj]
  have q1 : Free (w0.alloc (.cells (Array.replicate 25 zU) 33)) (w.heap.size + 1) := by rw [← z0]; exact Free.new w0 _ _
  generalize w0.alloc (.cells (Array.replicate 25 zU) 33) = w1 at *
  refine ok_newAt rfl (w.heap.size + 2) z1 ?_
  have e2 := e1.alloc (.cells (Array.replicate 5 zU) 64)
  have z2 : (w1.alloc (.cells (Array.replicate 5 zU) 64)).heap.size = w.heap.size + 3 := by rw [World.size_alloc, z1]
  have r2 := r1.alloc (by omega) (.cells (Array.replicate 5 zU) 64)
  have a2 := a1.alloc (by omega) (.cells (Array.replicate 5 zU) 64)
  have q2 := q1.alloc (by omega) (.cells (Array.replicate 5 zU) 64)
  have c2 : Row (w1.alloc (.cells (Array.replicate 5 zU) 64)) (w.heap.size + 2) 0 5 (fun _ => zU) := by rw [← z1]; exact Row.new w1 _ _ _ _ fun j hj => by simp [hj]
  have p2 : Free (w1.alloc (.cells (Array.replicate 5 zU) 64)) (w.heap.size + 2) := by rw [← z1]; exact Free.new w1 _ _
  generalize w1.alloc (.cells (Array.replicate 5 zU) 64) = w2 at *
  refine ok_newAt rfl (w.heap.size + 3) z2 ?_
  have e3 := e2.alloc (.cells (Array.replicate 5 zU) 64)
  have z3 : (w2.alloc (.cells (Array.replicate 5 zU) 64)).heap.size = w.heap.size + 4 := by rw [World.size_alloc, z2]
  have r3 := r2.alloc (by omega) (.cells (Array.replicate 5 zU) 64)
  have a3 := a2.alloc (by omega) (.cells (Array.replicate 5 zU) 64)
  have q3 := q2.alloc (by omega) (.cells (Array.replicate 5 zU) 64)
  have c3 := c2.alloc (by omega) (.cells (Array.replicate 5 zU) 64)
  have p3 := p2.alloc (by omega) (.cells (Array.replicate 5 zU) 64)
  have d3 : Row (w2.alloc (.cells (Array.replicate 5 zU) 64)) (w.heap.size + 3) 0 5 (fun _ => zU) := by rw [← z2]; exact Row.new w2 _ _ _ _ fun j hj => by simp [hj]
  have y3 : Free (w2.alloc (.cells (Array.replicate 5 zU) 64)) (w.heap.size + 3) := by rw [← z2]; exact Free.new w2 _ _
  generalize w2.alloc (.cells (Array.replicate 5 zU) 64) = w3 at *
  refine ok_loop rfl (IQ1 t n s w) (fun tm _ => 5 - (intOf (tm.getD 9 undef)).toNat) ?_ ?_
  · exact ⟨0, by omega, e3, z3, r3, a3, q3, c3, p3, d3, y3, fr_intro rfl⟩
  clear e0 z0 r0 e1 z1 r1 a1 q1 e2 z2 r2 a2 q2 c2 p2 e3 z3 r3 a3 q3 c3 p3 d3 y3
  rintro tm wr ⟨x, hx, he, hz, hs, ho, qo, hc, qc, hd, qd, u, rfl⟩
  refine runK_sound (od := od31) agrees 400 _ _ (fun _ => False) _ ?_
  by_cases hlt : x < 5
  · refine ok_calcB rfl true (deT (by omega)) ?_
    refine ok_brT rfl rfl ?_
    refine ok_test rfl (by kernel_rfl) ?_
    refine ok_draw rfl (SameHeap wr) (SameHeap.refl _) ?_
    refine ok_idx rfl x (by omega) (by omega) ?_
    refine ok_ldC rfl (fun w' hw' => (SameHeap.cell hw' _).trans (hs _ (by omega))) ?_
    refine ok_calc rfl (((x + 5) : Nat) : Int) (w64 (by omega)) ?_
    refine ok_idx rfl (x + 5) (by omega) (by omega) ?_
    refine ok_ldC rfl (fun w' hw' => (SameHeap.cell hw' _).trans (hs _ (by omega))) ?_
    refine ok_calc rfl _ (xorL _ _) ?_
    refine ok_calc rfl (((x + 10) : Nat) : Int) (w64 (by omega)) ?_
    refine ok_idx rfl (x + 10) (by omega) (by omega) ?_
    refine ok_ldC rfl (fun w' hw' => (SameHeap.cell hw' _).trans (hs _ (by omega))) ?_
    refine ok_calc rfl _ (xorL _ _) ?_
    refine ok_calc rfl (((x + 15) : Nat) : Int) (w64 (by omega)) ?_
    refine ok_idx rfl (x + 15) (by omega) (by omega) ?_
    refine ok_ldC rfl (fun w' hw' => (SameHeap.cell hw' _).trans (hs _ (by omega))) ?_
    refine ok_calc rfl _ (xorL _ _) ?_
    refine ok_calc rfl (((x + 20) : Nat) : Int) (w64 (by omega)) ?_
    refine ok_idx rfl (x + 20) (by omega) (by omega) ?_
    refine ok_ldC rfl (fun w' hw' => (SameHeap.cell hw' _).trans (hs _ (by omega))) ?_
    refine ok_calc rfl _ (xorL _ _) ?_
    refine ok_idx rfl x (by omega) (by omega) ?_
    refine ok_st rfl rfl (hc.is (by omega)) (qc _) ?_
    refine ok_calc rfl (((x + 1) : Nat) : Int) (w64 (by omega)) ?_
    refine ok_back rfl ⟨⟨x + 1, by omega, he.drew.set _ _ (fun h => by dsimp only at h; omega), by rw [World.size_setCell]; exact hz, hs.drew.other _ _ (by simp), ho.drew.other _ _ (by simp), qo.drew.set _ _, (hc.drew.set hlt _).congr (fun j hj => ?_), qc.drew.set _ _, hd.drew.other _ _ (by simp), qd.drew.set _ _, fr_intro rfl⟩, by show 5 - (x + 1) < 5 - x; omega⟩
    unfold upd
    dsimp only
    by_cases e : j = x
    · subst e; rw [if_pos rfl, if_pos (by omega)]; rfl
    · rw [if_neg e]
      by_cases e2 : j < x
      · rw [if_pos e2, if_pos (by omega)]
      · rw [if_neg e2, if_neg (by omega)]
  obtain rfl : x = 5 := by omega
  have hcol : Row wr (w.heap.size + 2) 0 5 (lu (col s)) := hc.congr fun j hj => by rw [if_pos hj]
  refine ok_calcB rfl false (deF (by omega)) ?_
  refine ok_brF rfl rfl ?_
  refine ok_loop rfl (IQ2 t n s w) (fun tm _ => 5 - (intOf (tm.getD 10 undef)).toNat) ?_ ?_
  · exact ⟨0, by omega, he, hz, hs, ho, qo, hcol, hd, qd, fr_intro rfl⟩
  clear he hz hs ho qo hc qc hd qd hcol
  rintro tm wr ⟨x, hx, he, hz, hs, ho, qo, hc, hd, qd, u, rfl⟩
  refine runK_sound (od := od31) agrees 400 _ _ (fun _ => False) _ ?_
  by_cases hlt : x < 5
  · refine ok_calcB rfl true (deT (by omega)) ?_
    refine ok_brT rfl rfl ?_
    refine ok_test rfl (by kernel_rfl) ?_
    refine ok_draw rfl (SameHeap wr) (SameHeap.refl _) ?_
    refine ok_calc rfl (((x + 4) : Nat) : Int) (w64 (by omega)) ?_
    refine ok_test rfl (by decide) ?_
    refine ok_calc rfl _ (tmodl (x + 4) 5 _ rfl) ?_
    refine ok_idx rfl ((x + 4) % 5) (by omega) (by omega) ?_
    refine ok_ldC rfl (fun w' hw' => (SameHeap.cell hw' _).trans (hc _ (by omega))) ?_
    refine ok_calc rfl (((x + 1) : Nat) : Int) (w64 (by omega)) ?_
    refine ok_test rfl (by decide) ?_
    refine ok_calc rfl _ (tmodl (x + 1) 5 _ rfl) ?_
    refine ok_idx rfl ((x + 1) % 5) (by omega) (by omega) ?_
    refine ok_ldC rfl (fun w' hw' => (SameHeap.cell hw' _).trans (hc _ (by omega))) ?_
    refine ok_call rfl (by kernel_rfl) (left_any _ 1 (by decide) _) ?_
    rintro e wL ⟨rfl, rfl⟩
    refine ⟨_, rfl, ?_⟩
    refine ok_chk rfl (SameHeap.refl _) ?_
    refine ok_calc rfl _ (xorL _ _) ?_
    refine ok_idx rfl x (by omega) (by omega) ?_
    refine ok_st rfl rfl (hd.drew.is (by omega)) (qd.drew _) ?_
    refine ok_calc rfl (((x + 1) : Nat) : Int) (w64 (by omega)) ?_
    refine ok_back rfl ⟨⟨x + 1, by omega, he.drew.drew.set _ _ (fun h => by dsimp only at h; omega), by rw [World.size_setCell]; exact hz, hs.drew.drew.other _ _ (by simp), ho.drew.drew.other _ _ (by simp), qo.drew.drew.set _ _, hc.drew.drew.other _ _ (by simp), (hd.drew.drew.set hlt _).congr (fun j hj => ?_), qd.drew.drew.set _ _, fr_intro rfl⟩, by show 5 - (x + 1) < 5 - x; omega⟩
    unfold upd
    dsimp only
    by_cases e : j = x
    · subst e; rw [if_pos rfl, if_pos (by omega)]; rfl
    · rw [if_neg e]
      by_cases e2 : j < x
      · rw [if_pos e2, if_pos (by omega)]
      · rw [if_neg e2, if_neg (by omega)]
  obtain rfl : x = 5 := by omega
  have hth : Row wr (w.heap.size + 3) 0 5 (lu (th s)) := hd.congr fun j hj => by rw [if_pos hj]
  refine ok_calcB rfl false (deF (by omega)) ?_
  refine ok_brF rfl rfl ?_
  refine ok_newAt rfl (w.heap.size + 4) hz ?_
  have e4 := he.alloc (.cells (Array.replicate 25 zU) 33)
  have z4 : (wr.alloc (.cells (Array.replicate 25 zU) 33)).heap.size = w.heap.size + 5 := by rw [World.size_alloc, hz]
  have s4 := hs.alloc (by omega) (.cells (Array.replicate 25 zU) 33)
  have o4 := ho.alloc (by omega) (.cells (Array.replicate 25 zU) 33)
  have q4 := qo.alloc (by omega) (.cells (Array.replicate 25 zU) 33)
  have t4 := hth.alloc (by omega) (.cells (Array.replicate 25 zU) 33)
  have b4 : Row (wr.alloc (.cells (Array.replicate 25 zU) 33)) (w.heap.size + 4) 0 25 (fun _ => zU) := by rw [← hz]; exact Row.new wr _ _ _ _ fun j hj => by simp [hj]
  have f4 : Free (wr.alloc (.cells (Array.replicate 25 zU) 33)) (w.heap.size + 4) := by rw [← hz]; exact Free.new wr _ _
  generalize wr.alloc (.cells (Array.replicate 25 zU) 33) = w4 at *
  refine ok_newAt rfl (w.heap.size + 5) z4 ?_
  have e5 := e4.alloc (.cells (Array.replicate 25 zU) 33)
  have z5 : (w4.alloc (.cells (Array.replicate 25 zU) 33)).heap.size = w.heap.size + 6 := by rw [World.size_alloc, z4]
  have s5 := s4.alloc (by omega) (.cells (Array.replicate 25 zU) 33)
  have o5 := o4.alloc (by omega) (.cells (Array.replicate 25 zU) 33)
  have q5 := q4.alloc (by omega) (.cells (Array.replicate 25 zU) 33)
  have t5 := t4.alloc (by omega) (.cells (Array.replicate 25 zU) 33)
  have b5 := b4.alloc (by omega) (.cells (Array.replicate 25 zU) 33)
  have f5 := f4.alloc (by omega) (.cells (Array.replicate 25 zU) 33)
  have x5 : Row (w4.alloc (.cells (Array.replicate 25 zU) 33)) (w.heap.size + 5) 0 25 (fun _ => zU) := by rw [← z4]; exact Row.new w4 _ _ _ _ fun j hj => by simp [hj]
  have y5 : Free (w4.alloc (.cells (Array.replicate 25 zU) 33)) (w.heap.size + 5) := by rw [← z4]; exact Free.new w4 _ _
  generalize w4.alloc (.cells (Array.replicate 25 zU) 33) = w5 at *
  refine ok_loop rfl (IQ3 t n s w) (fun tm _ => 5 - (intOf (tm.getD 13 undef)).toNat) ?_ ?_
  · exact ⟨0, by omega, e5, z5, s5, o5, q5, t5, fun j hj => b5.is hj, f5, x5, y5, fun i _ h => by omega, fr_intro rfl⟩
  clear he hz hs ho qo hc hd qd hth e4 z4 s4 o4 q4 t4 b4 f4 e5 z5 s5 o5 q5 t5 b5 f5 x5 y5
  rintro tm wr ⟨x, hx, he, hz, hs, ho, qo, hth, hsome, qb, hx5, qx, hb, u, rfl⟩
  refine runK_sound (od := od31) agrees 400 _ _ (fun _ => False) _ ?_
  by_cases hlt : x < 5
  · refine ok_calcB rfl true (deT (by omega)) ?_
    refine ok_brT rfl rfl ?_
    refine ok_loop rfl (IQ4 t n s w x) (fun tm _ => 5 - (intOf (tm.getD 14 undef)).toNat) ?_ ?_
    · exact ⟨0, by omega, he, hz, hs, ho, qo, hth, hsome, qb, hx5, qx, fun i hi h => hb i hi (by omega), fr_intro rfl⟩
    clear he hz hs ho qo hth hsome qb hx5 qx hb
    rintro tm wr ⟨y, hy, he, hz, hs, ho, qo, hth, hsome, qb, hx5, qx, hb, u, rfl⟩
    refine runK_sound (od := od31) agrees 400 _ _ (fun _ => False) _ ?_
    have hby1 : Row wr t 0 25 (li off) := hby.ext he htl id
    by_cases hly : y < 5
    · refine ok_calcB rfl true (deT (by omega)) ?_
      refine ok_brT rfl rfl ?_
      have hps := pos_spec x hlt y hly
      have hpl := pos_lt (5 * y + x) (by omega)
      refine ok_test rfl (by kernel_rfl) ?_
      refine ok_draw rfl (SameHeap wr) (SameHeap.refl _) ?_
      refine ok_calc rfl (((2 * x) : Nat) : Int) (w64 (by omega)) ?_
      refine ok_calc rfl (((3 * y) : Nat) : Int) (w64 (by omega)) ?_
      refine ok_calc rfl ((((2 * x) + (3 * y)) : Nat) : Int) (w64 (by omega)) ?_
      refine ok_test rfl (by decide) ?_
      refine ok_calc rfl _ (tmodl ((2 * x) + (3 * y)) 5 _ rfl) ?_
      refine ok_calc rfl (((5 * (((2 * x) + (3 * y)) % 5)) : Nat) : Int) (w64 (by omega)) ?_
      refine ok_calc rfl ((((5 * (((2 * x) + (3 * y)) % 5)) + y) : Nat) : Int) (w64 (by omega)) ?_
      refine ok_calc rfl (((5 * y) : Nat) : Int) (w64 (by omega)) ?_
      refine ok_calc rfl ((((5 * y) + x) : Nat) : Int) (w64 (by omega)) ?_
      refine ok_idx rfl ((5 * y) + x) (by omega) (by omega) ?_
      refine ok_ldC rfl (fun w' hw' => (SameHeap.cell hw' _).trans (hby1 _ (by omega))) ?_
      refine ok_calc rfl (((5 * y) : Nat) : Int) (w64 (by omega)) ?_
      refine ok_calc rfl ((((5 * y) + x) : Nat) : Int) (w64 (by omega)) ?_
      refine ok_idx rfl ((5 * y) + x) (by omega) (by omega) ?_
      refine ok_ldC rfl (fun w' hw' => (SameHeap.cell hw' _).trans (hs _ (by omega))) ?_
      refine ok_idx rfl x (by omega) (by omega) ?_
      refine ok_ldC rfl (fun w' hw' => (SameHeap.cell hw' _).trans (hth _ (by omega))) ?_
      refine ok_calc rfl _ (xorL _ _) ?_
      refine ok_call rfl (by kernel_rfl) (left_any _ _ (off_lt (5 * y + x) (by omega)) _) ?_
      rintro e wL ⟨rfl, rfl⟩
      refine ⟨_, rfl, ?_⟩
      refine ok_chk rfl (SameHeap.refl _) ?_
      refine ok_idx rfl (pos (5 * y + x)) (by omega) hpl ?_
      refine ok_st rfl rfl (hsome _ hpl) (qb.drew _) ?_
      refine ok_calc rfl (((y + 1) : Nat) : Int) (w64 (by omega)) ?_
      refine ok_back rfl ⟨⟨y + 1, by omega, he.drew.drew.set _ _ (fun h => by dsimp only at h; omega), by rw [World.size_setCell]; exact hz, hs.drew.drew.other _ _ (by simp), ho.drew.drew.other _ _ (by simp), qo.drew.drew.set _ _, hth.drew.drew.other _ _ (by simp), fun j hj => cell_isSome_setCell (hsome j hj), qb.drew.drew.set _ _, hx5.drew.drew.other _ _ (by simp), qx.drew.drew.set _ _, fun i hi h => ?_, fr_intro rfl⟩, by show 5 - (y + 1) < 5 - y; omega⟩
      by_cases e : i = 5 * y + x
      · subst e
        obtain ⟨v, hv⟩ := Option.isSome_iff_exists.1 (hsome _ hpl)
        have h1 : lu (bb s) (5 * y + x) = .int .u64 (L ((s (5 * y + x) ^^^ th s x).rotateLeft (off (5 * y + x)))) := by
          unfold lu bb; rw [show (5 * y + x) % 5 = x by omega]
        rw [h1]
        exact World.cell?_setCell_same wr.drew.drew _ _ hv
      · rw [World.cell?_setCell_other]
        · exact hb i hi (by omega)
        · intro e2
          injection e2 with _ e3
          exact e (by have := inv_pos i hi; have h4 := inv_pos (5 * y + x) (by omega); rw [show pos i = pos (5 * y + x) by omega] at this; omega)
    obtain rfl : y = 5 := by omega
    refine ok_calcB rfl false (deF (by omega)) ?_
    refine ok_brF rfl rfl ?_
    refine ok_calc rfl (((x + 1) : Nat) : Int) (w64 (by omega)) ?_
    exact ok_back rfl ⟨⟨x + 1, by omega, he, hz, hs, ho, qo, hth, hsome, qb, hx5, qx, fun i hi h => hb i hi (by omega), fr_intro rfl⟩, by show 5 - (x + 1) < 5 - x; omega⟩
  obtain rfl : x = 5 := by omega
  have hbs : Row wr (w.heap.size + 4) 0 25 (lu (bs s)) := fun j hj => by
    have := hb (inv j) (inv_lt j hj) (by omega)
    rw [pos_inv j hj] at this
    exact this
  refine ok_calcB rfl false (deF (by omega)) ?_
  refine ok_brF rfl rfl ?_
  refine ok_loop rfl (IQ5 t n s w) (fun tm _ => 5 - (intOf (tm.getD 15 undef)).toNat) ?_ ?_
  · exact ⟨0, by omega, he, hz, hs, ho, qo, hbs, qx, hx5.congr (fun j hj => by rw [if_neg (by omega)]), fr_intro rfl⟩
  clear he hz hs ho qo hth hsome qb hx5 qx hb hbs
  rintro tm wr ⟨x, hx, he, hz, hs, ho, qo, hbs, qx, hxr, u, rfl⟩
  refine runK_sound (od := od31) agrees 400 _ _ (fun _ => False) _ ?_
  by_cases hlt : x < 5
  · refine ok_calcB rfl true (deT (by omega)) ?_
    refine ok_brT rfl rfl ?_
    refine ok_loop rfl (IQ6 t n s w x) (fun tm _ => 5 - (intOf (tm.getD 16 undef)).toNat) ?_ ?_
    · refine ⟨0, by omega, he, hz, hs, ho, qo, hbs, qx, hxr.congr (fun j hj => ?_), fr_intro rfl⟩
      by_cases e : j % 5 < x
      · rw [if_pos e, if_pos (by omega)]
      · rw [if_neg e, if_neg (by omega)]
    clear he hz hs ho qo hbs qx hxr
    rintro tm wr ⟨y, hy, he, hz, hs, ho, qo, hbs, qx, hxr, u, rfl⟩
    refine runK_sound (od := od31) agrees 400 _ _ (fun _ => False) _ ?_
    by_cases hly : y < 5
    · refine ok_calcB rfl true (deT (by omega)) ?_
      refine ok_brT rfl rfl ?_
      refine ok_test rfl (by kernel_rfl) ?_
      refine ok_draw rfl (SameHeap wr) (SameHeap.refl _) ?_
      refine ok_calc rfl (((5 * y) : Nat) : Int) (w64 (by omega)) ?_
      refine ok_calc rfl ((((5 * y) + x) : Nat) : Int) (w64 (by omega)) ?_
      refine ok_calc rfl (((5 * y) : Nat) : Int) (w64 (by omega)) ?_
      refine ok_calc rfl ((((5 * y) + x) : Nat) : Int) (w64 (by omega)) ?_
      refine ok_idx rfl ((5 * y) + x) (by omega) (by omega) ?_
      refine ok_ldC rfl (fun w' hw' => (SameHeap.cell hw' _).trans (hbs _ (by omega))) ?_
      refine ok_calc rfl (((5 * y) : Nat) : Int) (w64 (by omega)) ?_
      refine ok_calc rfl (((x + 1) : Nat) : Int) (w64 (by omega)) ?_
      refine ok_test rfl (by decide) ?_
      refine ok_calc rfl _ (tmodl (x + 1) 5 _ rfl) ?_
      refine ok_calc rfl ((((5 * y) + ((x + 1) % 5)) : Nat) : Int) (w64 (by omega)) ?_
      refine ok_idx rfl ((5 * y) + ((x + 1) % 5)) (by omega) (by omega) ?_
      refine ok_ldC rfl (fun w' hw' => (SameHeap.cell hw' _).trans (hbs _ (by omega))) ?_
      refine ok_calc rfl _ (notL _) ?_
      refine ok_calc rfl (((5 * y) : Nat) : Int) (w64 (by omega)) ?_
      refine ok_calc rfl (((x + 2) : Nat) : Int) (w64 (by omega)) ?_
      refine ok_test rfl (by decide) ?_
      refine ok_calc rfl _ (tmodl (x + 2) 5 _ rfl) ?_
      refine ok_calc rfl ((((5 * y) + ((x + 2) % 5)) : Nat) : Int) (w64 (by omega)) ?_
      refine ok_idx rfl ((5 * y) + ((x + 2) % 5)) (by omega) (by omega) ?_
      refine ok_ldC rfl (fun w' hw' => (SameHeap.cell hw' _).trans (hbs _ (by omega))) ?_
      refine ok_calc rfl _ (andL _ _) ?_
      refine ok_calc rfl _ (xorL _ _) ?_
      refine ok_idx rfl ((5 * y) + x) (by omega) (by omega) ?_
      refine ok_st rfl rfl (hxr.is (by omega)) (qx _) ?_
      refine ok_calc rfl (((y + 1) : Nat) : Int) (w64 (by omega)) ?_
      refine ok_back rfl ⟨⟨y + 1, by omega, he.drew.set _ _ (fun h => by dsimp only at h; omega), by rw [World.size_setCell]; exact hz, hs.drew.other _ _ (by simp), ho.drew.other _ _ (by simp), qo.drew.set _ _, hbs.drew.other _ _ (by simp), qx.drew.set _ _, (hxr.drew.set (by omega) _).congr (fun j hj => ?_), fr_intro rfl⟩, by show 5 - (y + 1) < 5 - y; omega⟩
      unfold upd
      dsimp only
      by_cases e : j = 5 * y + x
      · subst e
        rw [if_pos rfl, if_pos (by omega)]
        show _ = Value.int .u64 (L (chi (bs s) (5 * y + x)))
        rw [← chi_at (bs s) y x hlt, BitVec.and_comm]
      · rw [if_neg e]
        by_cases e2 : j % 5 < x ∨ j % 5 = x ∧ j / 5 < y
        · rw [if_pos e2, if_pos (by omega)]
        · rw [if_neg e2, if_neg (by omega)]
    obtain rfl : y = 5 := by omega
    refine ok_calcB rfl false (deF (by omega)) ?_
    refine ok_brF rfl rfl ?_
    refine ok_calc rfl (((x + 1) : Nat) : Int) (w64 (by omega)) ?_
    refine ok_back rfl ⟨⟨x + 1, by omega, he, hz, hs, ho, qo, hbs, qx, hxr.congr (fun j hj => ?_), fr_intro rfl⟩, by show 5 - (x + 1) < 5 - x; omega⟩
    by_cases e : j % 5 < x + 1
    · rw [if_pos e, if_pos (by omega)]
    · rw [if_neg e, if_neg (by omega)]
  obtain rfl : x = 5 := by omega
  have hout : Row wr (w.heap.size + 5) 0 25 (lu (chi (bs s))) := hxr.congr fun j hj => by rw [if_pos (by omega)]
  refine ok_calcB rfl false (deF (by omega)) ?_
  refine ok_brF rfl rfl ?_
  have hrc1 : Row wr t 25 24 (lu rc) := hrc.ext he htl id
  refine ok_test rfl (by kernel_rfl) ?_
  refine ok_draw rfl (SameHeap wr) (SameHeap.refl _) ?_
  refine ok_idx rfl 0 (by omega) (by omega) ?_
  refine ok_ldC rfl (fun w' hw' => (SameHeap.cell hw' _).trans (hout 0 (by omega))) ?_
  refine ok_idx rfl n (by omega) (by omega) ?_
  refine ok_ldC rfl (fun w' hw' => (SameHeap.cell hw' _).trans (hrc1 n (by omega))) ?_
  refine ok_calc rfl _ (xorL _ _) ?_
  refine ok_idx rfl 0 (by omega) (by omega) ?_
  refine ok_st rfl rfl (hout.is (by omega)) (qx _) ?_
  have hfin := (hout.drew.set (j := 0) (by omega) (.int .u64 (L (chi (bs s) 0 ^^^ rc n)))).congr (g := lu (round s (rc n))) (fun j _ => by
    rw [upd_lu]; unfold lu upd round
    by_cases e : j = 0
    · subst e; rfl
    · simp only [if_neg e])
  have ho1 := ho.drew.other ⟨w.heap.size + 5, 0 + 0, none⟩ (.int .u64 (L (chi (bs s) 0 ^^^ rc n))) (by simp)
  have qo1 := qo.drew.set ⟨w.heap.size + 5, 0 + 0, none⟩ (.int .u64 (L (chi (bs s) 0 ^^^ rc n)))
  have he1 : Ext (fun _ => False) w (wr.drew.setCell ⟨w.heap.size + 5, 0 + 0, none⟩ (.int .u64 (L (chi (bs s) 0 ^^^ rc n)))) := he.drew.set _ _ (fun h => by dsimp only at h; omega)
  refine ok_ldR (cs := rowA 25 (lu (round s (rc n)))) rfl (rowA_size _ _) (Row.ofA hfin) ?_
  refine ok_stR rfl (rowA_size _ _) (rowA_one _ _ fun _ => rfl) (fun j hj => ⟨ho1.is hj, qo1 _⟩) ?_
  exact ok_finR rfl (finC1 rfl rfl _ (run_loadVar_arr agrees (t := 33) rfl (rowA_size _ _) (rowA_stores _ (w.heap.size + 1) 0 25 (lu (round s (rc n))) (fun j hj => ho1.is hj)).ofA) ⟨rfl, he1.stores _ _ (fun h => by omega)⟩)

def IZ (t : Nat) (s : St) (w : World) (tm : List Value) (wr : World) : Prop := ∃ n : Nat, n ≤ 24 ∧ Ext (fun _ => False) w wr ∧ w.heap.size + 2 ≤ wr.heap.size ∧ Row wr w.heap.size 0 25 (lu (perm n s)) ∧ Free wr w.heap.size ∧ Row wr (w.heap.size + 1) 0 25 (fun _ => zU) ∧ Free wr (w.heap.size + 1) ∧
  ∃ u : Nat → Value, tm = [.pointer (some ⟨t, 0, none⟩), u 1, u 2, .pointer (some ⟨w.heap.size, 0, none⟩), .pointer (some ⟨w.heap.size + 1, 0, none⟩), .int .i64 (n : Int), u 6, u 7, u 8, u 9, u 10, u 11, u 12, u 13, u 14]

set_option maxRecDepth 100000 in
theorem refRounds_any (t : Nat) (s : St) (w : World) (ht : Row w t 0 49 tabF) :
    Calls Try.prog 26 #[.pointer (some ⟨t, 0, none⟩), .agg (rowA 25 (lu s))] w fun e w' => e = .returned (.agg (rowA 25 (lu (full s)))) ∧ Ext (fun _ => False) w w' := by
  have htl : t < w.heap.size := ht.lt (by decide)
  refine calls_run (args := [_, _]) agrees od0 200 Try.func26 rfl ?_
  refine ok_new rfl ?_
  have e0 : Ext (fun _ => False) w (w.alloc (.cells (rowA 25 (lu s)) 33)) := (Ext.refl _ w).alloc _
  have z0 : (w.alloc (.cells (rowA 25 (lu s)) 33)).heap.size = w.heap.size + 1 := by rw [World.size_alloc]
  have r0 : Row (w.alloc (.cells (rowA 25 (lu s)) 33)) w.heap.size 0 25 (lu s) := Row.new w _ _ _ _ fun j hj => rowA_get _ _ _ hj
  have q0 : Free (w.alloc (.cells (rowA 25 (lu s)) 33)) w.heap.size := Free.new w _ _
  generalize w.alloc (.cells (rowA 25 (lu s)) 33) = w0 at *
  refine ok_newAt rfl (w.heap.size + 1) z0 ?_
  have e1 := e0.alloc (.cells (Array.replicate 25 zU) 33)
  have z1 : (w0.alloc (.cells (Array.replicate 25 zU) 33)).heap.size = w.heap.size + 2 := by rw [World.size_alloc, z0]
  have r1 := r0.alloc (by omega) (.cells (Array.replicate 25 zU) 33)
  have q1 := q0.alloc (by omega) (.cells (Array.replicate 25 zU) 33)
  have a1 : Row (w0.alloc (.cells (Array.replicate 25 zU) 33)) (w.heap.size + 1) 0 25 (fun _ => zU) := by rw [← z0]; exact Row.new w0 _ _ _ _ fun j hj => by simp [hj]
  have p1 : Free (w0.alloc (.cells (Array.replicate 25 zU) 33)) (w.heap.size + 1) := by rw [← z0]; exact Free.new w0 _ _
  generalize w0.alloc (.cells (Array.replicate 25 zU) 33) = w1 at *
  refine ok_loop rfl (IZ t s w) (fun tm _ => 24 - (intOf (tm.getD 5 undef)).toNat) ?_ ?_
  · exact ⟨0, by omega, e1, by omega, r1, q1, a1, p1, fr_intro rfl⟩
  clear e0 z0 r0 q0 e1 z1 r1 q1 a1 p1
  rintro tm wr ⟨n, hn, he, hz, hr, hq, ha, hp, u, rfl⟩
  refine runK_sound (od := od0) agrees 200 _ _ (fun _ => False) _ ?_
  by_cases hlt : n < 24
  · refine ok_calcB rfl true (deT (by omega)) ?_
    refine ok_brT rfl rfl ?_
    refine ok_ldR (cs := rowA 25 (lu (perm n s))) rfl (rowA_size _ _) (Row.ofA hr) ?_
    refine ok_call rfl (by kernel_rfl) (refRound_any t n (perm n s) wr hlt (ht.ext he htl id)) ?_
    rintro e w2 ⟨rfl, he2⟩
    refine ⟨_, rfl, ?_⟩
    have hr2 := hr.ext he2 (by omega) id
    have hq2 := hq.ext he2 (by omega) id
    have s2 := he2.size
    refine ok_stR rfl (rowA_size _ _) (rowA_one _ _ fun _ => rfl) (fun j hj => ⟨hr2.is hj, hq2 _⟩) ?_
    refine ok_calc rfl (((n + 1) : Nat) : Int) (w64 (by omega)) ?_
    exact ok_back rfl ⟨⟨n + 1, by omega, (he.trans he2).stores _ _ (fun h => by omega), by rw [stores_size]; omega, rowA_stores w2 w.heap.size 0 25 _ (fun j hj => hr2.is hj), stores_free _ _ _ _ hq2, (ha.ext he2 (by omega) id).stores _ _ _ (by omega), stores_free _ _ _ _ (hp.ext he2 (by omega) id), fr_intro rfl⟩, by show 24 - (n + 1) < 24 - n; omega⟩
  obtain rfl : n = 24 := by omega
  refine ok_calcB rfl false (deF (by omega)) ?_
  refine ok_brF rfl rfl ?_
  refine ok_ldR (cs := rowA 25 (lu (full s))) rfl (rowA_size _ _) (Row.ofA hr) ?_
  refine ok_stR rfl (rowA_size _ _) (rowA_one _ _ fun _ => rfl) (fun j hj => ⟨ha.is hj, hp _⟩) ?_
  exact ok_finR rfl (finC1 rfl rfl _ (run_loadVar_arr agrees (t := 33) rfl (rowA_size _ _) (rowA_stores _ (w.heap.size + 1) 0 25 (lu (full s)) (fun j hj => ha.is hj)).ofA) ⟨rfl, he.stores _ _ (fun h => by omega)⟩)

end Go.Proofs.Ytdbjhhnphbnnlaa
