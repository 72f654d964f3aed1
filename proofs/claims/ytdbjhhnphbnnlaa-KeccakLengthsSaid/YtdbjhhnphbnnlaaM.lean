/- One round of the program's keccak, over the sponge's block. -/
import Derived.Test.YtdbjhhnphbnnlaaF7
namespace Go.Proofs.Ytdbjhhnphbnnlaa
open Go Go.RowKit

def od30 : Nat → List Nat := fun n => match n with | 4 => List.range 36 | 10 => List.range 14 | 14 => List.range 20 | 23 => List.range 22 | 25 => List.range 9 | _ => []

theorem fr_intro {F : (Nat → Value) → List Value} {tm : List Value} (h : tm = F (fun i => tm.getD i undef)) : ∃ u, tm = F u := ⟨_, h⟩

theorem chi_at (b : St) (m x : Nat) (hx : x < 5) : b (5 * m + x) ^^^ (b (5 * m + (x + 2) % 5) &&& ~~~ b (5 * m + (x + 1) % 5)) = chi b (5 * m + x) := by
  unfold chi
  rw [show (5 * m + x) / 5 = m by omega, show (5 * m + x) % 5 = x by omega]

/-- The slice of an array from a place on. -/
theorem run_sliceFrom {P : Program} (hA : Agrees P ty zr) {t : TypeId} {n : Nat} {one : Bool} (ht : ty t = .arr n 1 one) (g lo : Nat) (k : IntKind) (h : lo < n) (w : World) :
    (Instr.sliceAt t (.pointer (some ⟨g, 0, none⟩)) (some (.int k (lo : Int))) none none).run P w = .ok (.slice (some ⟨g, lo, none⟩) (n - lo) (n - lo)) w := by
  obtain ⟨el, hu, hsz, _, _⟩ := tyOf_arr ((hA.td t (by simp [ht])).trans ht)
  have h1 : (lo : Int) ≤ (n : Int) := by omega
  have h2 : n ≠ lo := by omega
  simp [Instr.sliceAt, underlying, hu, Instr.sureAddr, Instr.sliceBounds, Instr.sliceBound, asIntOf, sizeIs_spec hsz, Addr.add_lit, h1, h2, show ¬ n < lo by omega]
theorem run_sliceArr {P : Program} (hA : Agrees P ty zr) {t : TypeId} {n : Nat} {one : Bool} (ht : ty t = .arr n 1 one) (a : Option Addr) (len cap : Nat) (h : n ≤ len) (w : World) :
    (Instr.arrayAt t (.slice a len cap)).run P w = .ok (.pointer a) w := by
  obtain ⟨el, hu, _, _, _⟩ := tyOf_arr ((hA.td t (by simp [ht])).trans ht)
  simp [Instr.arrayAt, underlying, hu, show ¬ len < n by omega]

section
variable (b : Nat) (s : St) (c : W64) (w : World)
def I1 (tm : List Value) (wr : World) : Prop := ∃ (k : Nat), k ≤ 5 ∧ Ext (fun _ => False) w wr ∧ wr.heap.size = w.heap.size + 1 ∧ Row wr w.heap.size 0 5 (fun j => if j < k then .int .u64 (L (col s j)) else zU) ∧ Free wr w.heap.size ∧ ∃ u : Nat → Value, tm = [.pointer (some ⟨b, 0, none⟩), .pointer (some ⟨b, 25, none⟩), .pointer (some ⟨b, 50, none⟩), .int .u64 (L c), u 4, u 5, u 6, u 7, .pointer (some ⟨w.heap.size, 0, none⟩), u 9, u 10, u 11, u 12, u 13, u 14, u 15, u 16, .int .i64 (k : Int), u 18, u 19, u 20, u 21, u 22, u 23, u 24, u 25, u 26, u 27, u 28, u 29, u 30, u 31, u 32, u 33, u 34, u 35, u 36, u 37, u 38, u 39, u 40, u 41, u 42, u 43, u 44, u 45, u 46, u 47, u 48, u 49, u 50, u 51, u 52, u 53, u 54, u 55, u 56, u 57, u 58, u 59, u 60, u 61, u 62, u 63, u 64, u 65, u 66, u 67, u 68, u 69, u 70, u 71, u 72, u 73, u 74, u 75, u 76, u 77, u 78, u 79, u 80, u 81, u 82, u 83, u 84, u 85, u 86, u 87, u 88, u 89, u 90, u 91, u 92, u 93, u 94, u 95, u 96, u 97, u 98, u 99, u 100, u 101, u 102, u 103, u 104, u 105, u 106, u 107, u 108, u 109, u 110, u 111, u 112, u 113, u 114, u 115, u 116, u 117, u 118, u 119, u 120, u 121, u 122, u 123, u 124, u 125, u 126, u 127, u 128, u 129, u 130, u 131, u 132, u 133, u 134, u 135, u 136, u 137]
def I2 (tm : List Value) (wr : World) : Prop := ∃ (k : Nat), k ≤ 5 ∧ Ext (fun _ => False) w wr ∧ wr.heap.size = w.heap.size + 2 ∧ Row wr w.heap.size 0 5 (lu (col s)) ∧ (∀ i, i < 25 → i % 5 < k → wr.cell? ⟨w.heap.size + 1, 0 + pos i, none⟩ = some (lu (bb s) i)) ∧ (∀ j, j < 25 → (wr.cell? ⟨w.heap.size + 1, 0 + j, none⟩).isSome = true) ∧ Free wr (w.heap.size + 1) ∧ ∃ u : Nat → Value, tm = [.pointer (some ⟨b, 0, none⟩), .pointer (some ⟨b, 25, none⟩), .pointer (some ⟨b, 50, none⟩), .int .u64 (L c), u 4, u 5, u 6, u 7, .pointer (some ⟨w.heap.size, 0, none⟩), u 9, .pointer (some ⟨w.heap.size + 1, 0, none⟩), u 11, u 12, u 13, u 14, u 15, u 16, u 17, u 18, u 19, u 20, u 21, u 22, u 23, u 24, u 25, u 26, u 27, u 28, u 29, u 30, u 31, u 32, u 33, u 34, u 35, u 36, u 37, u 38, u 39, u 40, u 41, u 42, u 43, u 44, u 45, u 46, u 47, u 48, u 49, u 50, u 51, u 52, u 53, u 54, u 55, .int .i64 (k : Int), u 57, u 58, u 59, u 60, u 61, u 62, u 63, u 64, u 65, u 66, u 67, u 68, u 69, u 70, u 71, u 72, u 73, u 74, u 75, u 76, u 77, u 78, u 79, u 80, u 81, u 82, u 83, u 84, u 85, u 86, u 87, u 88, u 89, u 90, u 91, u 92, u 93, u 94, u 95, u 96, u 97, u 98, u 99, u 100, u 101, u 102, u 103, u 104, u 105, u 106, u 107, u 108, u 109, u 110, u 111, u 112, u 113, u 114, u 115, u 116, u 117, u 118, u 119, u 120, u 121, u 122, u 123, u 124, u 125, u 126, u 127, u 128, u 129, u 130, u 131, u 132, u 133, u 134, u 135, u 136, u 137]
def I3 (k : Nat) (tm : List Value) (wr : World) : Prop := ∃ (m : Nat), m ≤ 5 ∧ Ext (fun _ => False) w wr ∧ wr.heap.size = w.heap.size + 2 ∧ Row wr w.heap.size 0 5 (lu (col s)) ∧ (∀ i, i < 25 → (i % 5 < k ∨ i % 5 = k ∧ i / 5 < m) → wr.cell? ⟨w.heap.size + 1, 0 + pos i, none⟩ = some (lu (bb s) i)) ∧ (∀ j, j < 25 → (wr.cell? ⟨w.heap.size + 1, 0 + j, none⟩).isSome = true) ∧ Free wr (w.heap.size + 1) ∧ ∃ u : Nat → Value, tm = [.pointer (some ⟨b, 0, none⟩), .pointer (some ⟨b, 25, none⟩), .pointer (some ⟨b, 50, none⟩), .int .u64 (L c), u 4, u 5, u 6, u 7, .pointer (some ⟨w.heap.size, 0, none⟩), u 9, .pointer (some ⟨w.heap.size + 1, 0, none⟩), .int .i64 (k : Int), .int .u64 (L (th s k)), .int .i64 ((k + 5 * m : Nat) : Int), u 14, u 15, u 16, u 17, u 18, u 19, u 20, u 21, u 22, u 23, u 24, u 25, u 26, u 27, u 28, u 29, u 30, u 31, u 32, u 33, u 34, u 35, u 36, u 37, u 38, u 39, u 40, u 41, u 42, u 43, u 44, u 45, u 46, u 47, u 48, u 49, u 50, u 51, u 52, u 53, u 54, u 55, .int .i64 (k : Int), u 57, u 58, u 59, u 60, u 61, u 62, u 63, u 64, u 65, u 66, u 67, u 68, u 69, u 70, u 71, u 72, u 73, u 74, u 75, u 76, u 77, u 78, u 79, u 80, u 81, u 82, u 83, u 84, u 85, u 86, u 87, u 88, u 89, u 90, u 91, u 92, u 93, u 94, u 95, u 96, u 97, u 98, u 99, u 100, u 101, u 102, u 103, u 104, u 105, u 106, u 107, u 108, u 109, u 110, u 111, u 112, u 113, u 114, u 115, u 116, u 117, u 118, u 119, u 120, u 121, u 122, u 123, u 124, u 125, u 126, u 127, u 128, u 129, u 130, u 131, u 132, u 133, u 134, u 135, u 136, u 137]
def I4 (tm : List Value) (wr : World) : Prop := ∃ (m : Nat), m ≤ 5 ∧ Ext (· = b) w wr ∧ w.heap.size + 2 ≤ wr.heap.size ∧ Row wr (w.heap.size + 1) 0 25 (lu (bs s)) ∧ Row wr b 0 25 (fun j => if j < 5 * m then lu (chi (bs s)) j else lu s j) ∧ (∀ o, 25 ≤ o → wr.cell? ⟨b, o, none⟩ = w.cell? ⟨b, o, none⟩) ∧ Free wr b ∧ ∃ u : Nat → Value, tm = [.pointer (some ⟨b, 0, none⟩), .pointer (some ⟨b, 25, none⟩), .pointer (some ⟨b, 50, none⟩), .int .u64 (L c), u 4, u 5, u 6, u 7, u 8, u 9, .pointer (some ⟨w.heap.size + 1, 0, none⟩), u 11, u 12, u 13, .int .i64 ((5 * m : Nat) : Int), u 15, u 16, u 17, u 18, u 19, u 20, u 21, u 22, u 23, u 24, u 25, u 26, u 27, u 28, u 29, u 30, u 31, u 32, u 33, u 34, u 35, u 36, u 37, u 38, u 39, u 40, u 41, u 42, u 43, u 44, u 45, u 46, u 47, u 48, u 49, u 50, u 51, u 52, u 53, u 54, u 55, u 56, u 57, u 58, u 59, u 60, u 61, u 62, u 63, u 64, u 65, u 66, u 67, u 68, u 69, u 70, u 71, u 72, u 73, u 74, u 75, u 76, u 77, u 78, u 79, u 80, u 81, u 82, u 83, u 84, u 85, u 86, u 87, u 88, u 89, u 90, u 91, u 92, u 93, u 94, u 95, u 96, u 97, u 98, u 99, u 100, u 101, u 102, u 103, u 104, u 105, u 106, u 107, u 108, u 109, u 110, u 111, u 112, u 113, u 114, u 115, u 116, u 117, u 118, u 119, u 120, u 121, u 122, u 123, u 124, u 125, u 126, u 127, u 128, u 129, u 130, u 131, u 132, u 133, u 134, u 135, u 136, u 137]
def I5 (m g : Nat) (tm : List Value) (wr : World) : Prop := ∃ (x : Nat), x ≤ 5 ∧ Ext (· = b) w wr ∧ g < wr.heap.size ∧ w.heap.size + 2 ≤ g ∧ Row wr (w.heap.size + 1) 0 25 (lu (bs s)) ∧ Row wr g 0 5 (fun x => lu (bs s) (5 * m + x)) ∧ Row wr b 0 25 (fun j => if j < 5 * m + x then lu (chi (bs s)) j else lu s j) ∧ (∀ o, 25 ≤ o → wr.cell? ⟨b, o, none⟩ = w.cell? ⟨b, o, none⟩) ∧ Free wr b ∧ ∃ u : Nat → Value, tm = [.pointer (some ⟨b, 0, none⟩), .pointer (some ⟨b, 25, none⟩), .pointer (some ⟨b, 50, none⟩), .int .u64 (L c), u 4, u 5, u 6, u 7, u 8, u 9, .pointer (some ⟨w.heap.size + 1, 0, none⟩), u 11, u 12, u 13, .int .i64 ((5 * m : Nat) : Int), .pointer (some ⟨g, 0, none⟩), u 16, u 17, u 18, u 19, u 20, u 21, u 22, u 23, u 24, u 25, u 26, u 27, u 28, u 29, u 30, u 31, u 32, u 33, u 34, u 35, u 36, u 37, u 38, u 39, u 40, u 41, u 42, u 43, u 44, u 45, u 46, u 47, u 48, u 49, u 50, u 51, u 52, u 53, u 54, u 55, u 56, u 57, u 58, u 59, u 60, u 61, u 62, u 63, u 64, u 65, u 66, u 67, u 68, u 69, u 70, u 71, u 72, u 73, u 74, u 75, u 76, u 77, u 78, u 79, u 80, u 81, u 82, u 83, u 84, u 85, u 86, u 87, u 88, u 89, u 90, u 91, u 92, u 93, u 94, u 95, u 96, u 97, u 98, u 99, u 100, u 101, u 102, u 103, u 104, .int .i64 (x : Int), u 106, u 107, u 108, u 109, u 110, u 111, u 112, u 113, u 114, u 115, u 116, u 117, u 118, u 119, u 120, u 121, u 122, u 123, u 124, u 125, u 126, u 127, u 128, u 129, u 130, u 131, u 132, u 133, u 134, u 135, u 136, u 137]
end

set_option maxRecDepth 100000 in
set_option maxHeartbeats 1000000 in
theorem mix_any (b : Nat) (s : St) (c : W64) (w : World) (hs : Row w b 0 25 (lu s)) (hby : Row w b 25 25 (li off)) (hto : Row w b 50 25 (li pos)) (hf : Free w b) :
    Calls Try.prog 30 #[.pointer (some ⟨b, 0, none⟩), .pointer (some ⟨b, 25, none⟩), .pointer (some ⟨b, 50, none⟩), .int .u64 (L c)] w fun e w' => e = .returned (.tuple #[]) ∧ Ext (· = b) w w' ∧ Row w' b 0 25 (lu (round s c)) ∧ (∀ o, 25 ≤ o → w'.cell? ⟨b, o, none⟩ = w.cell? ⟨b, o, none⟩) ∧ Free w' b := by
  have hbl : b < w.heap.size := hs.lt (by decide)
  refine calls_run (args := [_, _, _, _]) agrees od30 400 Try.func30 rfl ?_
  refine ok_new rfl ?_
  refine ok_loop rfl (I1 b s c w) (fun tm _ => 5 - (intOf (tm.getD 17 undef)).toNat) ?_ ?_
  · exact ⟨0, by omega, (Ext.refl _ w).alloc _, by rw [World.size_alloc], Row.new _ _ _ _ _ (fun j hj => by simp [hj]), Free.new _ _ _, fr_intro rfl⟩
  rintro tm wr ⟨k, hk, he, hz, hrow, hfr, u, rfl⟩
  refine runK_sound (od := od30) agrees 400 _ _ (fun _ => False) _ ?_
  have hs1 : Row wr b 0 25 (lu s) := hs.ext he hbl id
  by_cases hlt : k < 5
  · refine ok_calcB rfl true (deT (by omega)) ?_
    refine ok_brT rfl rfl ?_
    refine ok_test rfl (by kernel_rfl) ?_
    refine ok_draw rfl (SameHeap wr) (SameHeap.refl _) ?_
    refine ok_idx rfl k (by omega) (by omega) ?_
    refine ok_ldC rfl (fun w' hw' => (SameHeap.cell hw' _).trans (hs1 _ (by omega))) ?_
    refine ok_calc rfl (((k + 5) : Nat) : Int) (w64 (by omega)) ?_
    refine ok_idx rfl (k + 5) (by omega) (by omega) ?_
    refine ok_ldC rfl (fun w' hw' => (SameHeap.cell hw' _).trans (hs1 _ (by omega))) ?_
    refine ok_calc rfl _ (xorL _ _) ?_
    refine ok_calc rfl (((k + 10) : Nat) : Int) (w64 (by omega)) ?_
    refine ok_idx rfl (k + 10) (by omega) (by omega) ?_
    refine ok_ldC rfl (fun w' hw' => (SameHeap.cell hw' _).trans (hs1 _ (by omega))) ?_
    refine ok_calc rfl _ (xorL _ _) ?_
    refine ok_calc rfl (((k + 15) : Nat) : Int) (w64 (by omega)) ?_
    refine ok_idx rfl (k + 15) (by omega) (by omega) ?_
    refine ok_ldC rfl (fun w' hw' => (SameHeap.cell hw' _).trans (hs1 _ (by omega))) ?_
    refine ok_calc rfl _ (xorL _ _) ?_
    refine ok_calc rfl (((k + 20) : Nat) : Int) (w64 (by omega)) ?_
    refine ok_idx rfl (k + 20) (by omega) (by omega) ?_
    refine ok_ldC rfl (fun w' hw' => (SameHeap.cell hw' _).trans (hs1 _ (by omega))) ?_
    refine ok_calc rfl _ (xorL _ _) ?_
    refine ok_idx rfl k (by omega) (by omega) ?_
    refine ok_st rfl rfl (hrow.drew.is hlt) (hfr.drew _) ?_
    refine ok_calc rfl (((k + 1) : Nat) : Int) (w64 (by omega)) ?_
    refine ok_back rfl ⟨⟨k + 1, by omega, he.drew.set _ _ (fun h => by dsimp only at h; omega), by rw [World.size_setCell]; exact hz, (hrow.drew.set hlt _).congr (fun j hj => ?_), hfr.drew.set _ _, fr_intro rfl⟩, by show 5 - (k + 1) < 5 - k; omega⟩
    unfold upd
    dsimp only
    by_cases e : j = k
    · subst e; rw [if_pos rfl, if_pos (by omega)]; rfl
    · rw [if_neg e]
      by_cases e2 : j < k
      · rw [if_pos e2, if_pos (by omega)]
      · rw [if_neg e2, if_neg (by omega)]
  obtain rfl : k = 5 := by omega
  have hcol : Row wr w.heap.size 0 5 (lu (col s)) := hrow.congr fun j hj => by rw [if_pos hj]; rfl
  clear hrow hs1
  refine ok_calcB rfl false (deF (by omega)) ?_
  refine ok_brF rfl rfl ?_
  refine ok_newAt rfl (w.heap.size + 1) hz ?_
  refine ok_loop rfl (I2 b s c w) (fun tm _ => 5 - (intOf (tm.getD 56 undef)).toNat) ?_ ?_
  · exact ⟨0, by omega, he.alloc _, by rw [World.size_alloc, hz], hcol.alloc (by omega) _, fun i _ h => by omega, fun j hj => by rw [← hz]; exact (Row.new wr _ _ (fun _ => zU) 25 (fun j hj => by simp [hj])).is hj, by rw [← hz]; exact Free.new _ _ _, fr_intro rfl⟩
  clear he hz hcol hfr
  rintro tm wr ⟨k, hk, he, hz, hcol, hrow, hsome, hfr, u, rfl⟩
  refine runK_sound (od := od30) agrees 400 _ _ (fun _ => False) _ ?_
  by_cases hlt : k < 5
  · refine ok_calcB rfl true (deT (by omega)) ?_
    refine ok_brT rfl rfl ?_
    refine ok_test rfl (by kernel_rfl) ?_
    refine ok_draw rfl (SameHeap wr) (SameHeap.refl _) ?_
    refine ok_calc rfl (((k + 5) : Nat) : Int) (w64 (by omega)) ?_
    refine ok_calc rfl (((k + 4) : Nat) : Int) (w64 (by omega)) ?_
    refine ok_test rfl (by decide) ?_
    refine ok_calc rfl _ (tmodl (k + 4) 5 _ rfl) ?_
    refine ok_idx rfl ((k + 4) % 5) (by omega) (by omega) ?_
    refine ok_ldC rfl (fun w' hw' => (SameHeap.cell hw' _).trans (hcol _ (by omega))) ?_
    refine ok_calc rfl (((k + 1) : Nat) : Int) (w64 (by omega)) ?_
    refine ok_test rfl (by decide) ?_
    refine ok_calc rfl _ (tmodl (k + 1) 5 _ rfl) ?_
    refine ok_idx rfl ((k + 1) % 5) (by omega) (by omega) ?_
    refine ok_ldC rfl (fun w' hw' => (SameHeap.cell hw' _).trans (hcol _ (by omega))) ?_
    refine ok_callS rfl (by kernel_rfl) (rot_any _ 1 (by decide) _) ?_
    refine ok_chk rfl (SameHeap.refl _) ?_
    refine ok_calc rfl _ (xorL _ _) ?_
    refine ok_loop rfl (I3 b s c w k) (fun tm _ => 25 - (intOf (tm.getD 13 undef)).toNat) ?_ ?_
    · exact ⟨0, by omega, he.drew, hz, hcol.drew, fun i hi h => hrow i hi (by omega), hsome, hfr.drew, fr_intro rfl⟩
    clear he hz hcol hrow hsome hfr
    rintro tm wr ⟨m, hm, he, hz, hcol, hrow, hsome, hfr, u, rfl⟩
    refine runK_sound (od := od30) agrees 400 _ _ (fun _ => False) _ ?_
    have hs1 : Row wr b 0 25 (lu s) := hs.ext he hbl id
    have hby1 : Row wr b 25 25 (li off) := hby.ext he hbl id
    have hto1 : Row wr b 50 25 (li pos) := hto.ext he hbl id
    by_cases hlm : m < 5
    · refine ok_calcB rfl true (deT (by omega)) ?_
      refine ok_brT rfl rfl ?_
      refine ok_test rfl (by kernel_rfl) ?_
      refine ok_draw rfl (SameHeap wr) (SameHeap.refl _) ?_
      refine ok_idx rfl (k + 5 * m) (by omega) (by omega) ?_
      refine ok_ldC rfl (fun w' hw' => (SameHeap.cell hw' _).trans (hto1 _ (by omega))) ?_
      refine ok_idx rfl (k + 5 * m) (by omega) (by omega) ?_
      refine ok_ldC rfl (fun w' hw' => (SameHeap.cell hw' _).trans (hs1 _ (by omega))) ?_
      refine ok_calc rfl _ (xorL _ _) ?_
      refine ok_idx rfl (k + 5 * m) (by omega) (by omega) ?_
      refine ok_ldC rfl (fun w' hw' => (SameHeap.cell hw' _).trans (hby1 _ (by omega))) ?_
      refine ok_callS rfl (by kernel_rfl) (rot_any _ _ (off_lt (k + 5 * m) (by omega)) _) ?_
      refine ok_chk rfl (SameHeap.refl _) ?_
      refine ok_idx rfl (pos (k + 5 * m)) rfl (pos_lt _ (by omega)) ?_
      refine ok_st rfl rfl (hsome _ (pos_lt _ (by omega))) (hfr.drew _) ?_
      refine ok_calc rfl (((k + 5 * (m + 1)) : Nat) : Int) (w64 (by omega)) ?_
      refine ok_back rfl ⟨⟨m + 1, by omega, he.drew.set _ _ (fun h => by dsimp only at h; omega), by rw [World.size_setCell]; exact hz, hcol.drew.other _ _ (by simp), fun i hi h => ?_, fun j hj => cell_isSome_setCell (hsome j hj), hfr.drew.set _ _, fr_intro rfl⟩, by show 25 - (k + 5 * (m + 1)) < 25 - (k + 5 * m); omega⟩
      by_cases e : i = k + 5 * m
      · subst e
        obtain ⟨v, hv⟩ := Option.isSome_iff_exists.1 (hsome _ (pos_lt (k + 5 * m) (by omega)))
        have h1 : lu (bb s) (k + 5 * m) = .int .u64 (L ((s (k + 5 * m) ^^^ th s k).rotateLeft (off (k + 5 * m)))) := by
          unfold lu bb; rw [show (k + 5 * m) % 5 = k by omega]
        rw [h1]
        exact World.cell?_setCell_same wr.drew _ _ hv
      · rw [World.cell?_setCell_other]
        · exact hrow i hi (by omega)
        · intro e2
          injection e2 with _ e3
          exact e (by have := inv_pos i hi; have h4 := inv_pos (k + 5 * m) (by omega); rw [show pos i = pos (k + 5 * m) by omega] at this; omega)
    obtain rfl : m = 5 := by omega
    refine ok_calcB rfl false (deF (by omega)) ?_
    refine ok_brF rfl rfl ?_
    refine ok_calc rfl (((k + 1) : Nat) : Int) (w64 (by omega)) ?_
    exact ok_back rfl ⟨⟨k + 1, by omega, he, hz, hcol, fun i hi h => hrow i hi (by omega), hsome, hfr, fr_intro rfl⟩, by show 5 - (k + 1) < 5 - k; omega⟩
  obtain rfl : k = 5 := by omega
  have hb2 : Row wr (w.heap.size + 1) 0 25 (lu (bs s)) := fun j hj => by
    have := hrow (inv j) (inv_lt j hj) (by omega)
    rw [pos_inv j hj] at this
    exact this
  clear hrow hsome hfr hcol
  refine ok_calcB rfl false (deF (by omega)) ?_
  refine ok_brF rfl rfl ?_
  refine ok_loop rfl (I4 b s c w) (fun tm _ => 25 - (intOf (tm.getD 14 undef)).toNat) ?_ ?_
  · exact ⟨0, by omega, he.mono (fun _ h => h.elim), by omega, hb2, (hs.ext he hbl id).congr (fun j hj => by rw [if_neg (by omega)]), fun o ho => cell_blk (he.block b hbl id) o, hf.ext he hbl id, fr_intro rfl⟩
  clear he hz hb2
  rintro tm wr ⟨m, hm, he, hz, hb2, hst, hrest, hfr, u, rfl⟩
  refine runK_sound (od := od30) agrees 400 _ _ (fun _ => False) _ ?_
  by_cases hlm : m < 5
  · refine ok_calcB rfl true (deT (by omega)) ?_
    refine ok_brT rfl rfl ?_
    have hsub := hb2.sub (5 * m) 5 (by omega)
    refine ok_rawS rfl (Instr.sliceAt 33 (.pointer (some ⟨w.heap.size + 1, 0, none⟩)) (some (.int .i64 ((5 * m : Nat) : Int))) none none) rfl (run_sliceFrom agrees (t := 33) rfl _ _ _ (by omega) _) ?_
    refine ok_rawS rfl (Instr.arrayAt 64 (.slice (some ⟨w.heap.size + 1, 5 * m, none⟩) (25 - 5 * m) (25 - 5 * m))) rfl (run_sliceArr agrees (t := 64) rfl _ _ _ (by omega) _) ?_
    refine ok_ldR rfl hsub.arr.1 (fun j hj => by have := hsub.arr.2 j hj; rw [Nat.zero_add] at this; exact this) ?_
    refine ok_new rfl ?_
    refine ok_stR rfl hsub.arr.1 (fun v hv => by simp [lu] at hv; obtain ⟨_, _, rfl⟩ := hv; rfl) (fun j hj => ⟨(Row.new wr _ _ (fun _ => zU) 5 (fun j hj => by simp [hj])).is hj, Free.new _ _ _ _⟩) ?_
    refine ok_loop rfl (I5 b s c w m wr.heap.size) (fun tm _ => 5 - (intOf (tm.getD 105 undef)).toNat) ?_ ?_
    · have hne : b ≠ wr.heap.size := by omega
      refine ⟨0, by omega, ?_, by rw [stores_size, World.size_alloc]; omega, hz, (hb2.alloc (by omega) _).stores _ _ _ (by omega), ?_, ?_, fun o ho => ?_, stores_free _ _ _ _ (hfr.alloc (by omega) _), fr_intro rfl⟩
      · exact (he.alloc _).stores _ _ (fun h => by have := he.size; omega)
      · have := stores_row (b := wr.heap.size) ((List.range 5).map fun j => lu (bs s) (5 * m + j)) (wr.alloc (.cells (Array.replicate 5 zU) 64)) 0 (fun j hj => (Row.new wr _ _ (fun _ => zU) 5 (fun j hj => by simp [hj])).is (by simpa using hj))
        rw [List.length_map, List.length_range] at this
        exact this.congr fun j hj => by simp [hj]
      · exact ((hst.alloc (by omega) _).stores _ _ _ (fun e => hne e.symm)).congr fun j hj => rfl
      · rw [cell_blk (stores_other _ _ hne _ _), cell_blk (Below.heap_alloc _ _ _ (by omega))]; exact hrest o ho
    generalize hg : wr.heap.size = g
    clear he hz hb2 hst hrest hfr hsub hg
    rintro tm wr ⟨x, hx, he, hg, hz, hb2, hr, hst, hrest, hfr, u, rfl⟩
    refine runK_sound (od := od30) agrees 400 _ _ (fun _ => False) _ ?_
    by_cases hlx : x < 5
    · refine ok_calcB rfl true (deT (by omega)) ?_
      refine ok_brT rfl rfl ?_
      refine ok_test rfl (by kernel_rfl) ?_
      refine ok_draw rfl (SameHeap wr) (SameHeap.refl _) ?_
      refine ok_calc rfl ((((5 * m) + x) : Nat) : Int) (w64 (by omega)) ?_
      refine ok_idx rfl x (by omega) (by omega) ?_
      refine ok_ldC rfl (fun w' hw' => (SameHeap.cell hw' _).trans (hr _ (by omega))) ?_
      refine ok_calc rfl (((x + 2) : Nat) : Int) (w64 (by omega)) ?_
      refine ok_test rfl (by decide) ?_
      refine ok_calc rfl _ (tmodl (x + 2) 5 _ rfl) ?_
      refine ok_idx rfl ((x + 2) % 5) (by omega) (by omega) ?_
      refine ok_ldC rfl (fun w' hw' => (SameHeap.cell hw' _).trans (hr _ (by omega))) ?_
      refine ok_calc rfl (((x + 1) : Nat) : Int) (w64 (by omega)) ?_
      refine ok_test rfl (by decide) ?_
      refine ok_calc rfl _ (tmodl (x + 1) 5 _ rfl) ?_
      refine ok_idx rfl ((x + 1) % 5) (by omega) (by omega) ?_
      refine ok_ldC rfl (fun w' hw' => (SameHeap.cell hw' _).trans (hr _ (by omega))) ?_
      refine ok_calc rfl _ (andNotL _ _) ?_
      refine ok_calc rfl _ (xorL _ _) ?_
      refine ok_idx rfl ((5 * m) + x) (by omega) (by omega) ?_
      refine ok_st rfl rfl (hst.drew.is (by omega)) (hfr.drew _) ?_
      refine ok_calc rfl (((x + 1) : Nat) : Int) (w64 (by omega)) ?_
      refine ok_back rfl ⟨⟨x + 1, by omega, he.drew.set _ _ (fun _ => rfl), by rw [World.size_setCell]; exact hg, hz, hb2.drew.other _ _ (by simp; omega), hr.drew.other _ _ (by simp; omega), (hst.drew.set (by omega) _).congr (fun j hj => ?_), fun o ho => ?_, hfr.drew.set _ _, fr_intro rfl⟩, by show 5 - (x + 1) < 5 - x; omega⟩
      · unfold upd
        dsimp only
        by_cases e : j = 5 * m + x
        · subst e; rw [if_pos rfl, if_pos (by omega)]; show Value.int _ _ = lu _ _; unfold lu; rw [chi_at _ _ _ hlx]
        · rw [if_neg e]
          by_cases e2 : j < 5 * m + x
          · rw [if_pos e2, if_pos (by omega)]
          · rw [if_neg e2, if_neg (by omega)]
      · rw [World.cell?_setCell_other _ _ _ _ (by intro e; injection e; omega)]; exact hrest o ho
    obtain rfl : x = 5 := by omega
    refine ok_calcB rfl false (deF (by omega)) ?_
    refine ok_brF rfl rfl ?_
    refine ok_calc rfl (((5 * (m + 1)) : Nat) : Int) (w64 (by omega)) ?_
    exact ok_back rfl ⟨⟨m + 1, by omega, he, by omega, hb2, hst.congr (fun j hj => by rw [show 5 * (m + 1) = 5 * m + 5 by omega]), hrest, hfr, fr_intro rfl⟩, by show 25 - (5 * (m + 1)) < 25 - (5 * m); omega⟩
  obtain rfl : m = 5 := by omega
  have hst1 : Row wr b 0 25 (lu (chi (bs s))) := hst.congr fun j hj => by rw [if_pos (by omega)]
  refine ok_calcB rfl false (deF (by omega)) ?_
  refine ok_brF rfl rfl ?_
  refine ok_test rfl (by kernel_rfl) ?_
  refine ok_draw rfl (SameHeap wr) (SameHeap.refl _) ?_
  refine ok_idx rfl 0 (by omega) (by omega) ?_
  refine ok_ldC rfl (fun w' hw' => (SameHeap.cell hw' _).trans (hst1 _ (by omega))) ?_
  refine ok_calc rfl _ (xorL _ _) ?_
  refine ok_idx rfl 0 (by omega) (by omega) ?_
  refine ok_st rfl rfl (hst1.drew.is (by omega)) (hfr.drew _) ?_
  refine ok_finN rfl (fin0N rfl ⟨rfl, he.drew.set _ _ (fun _ => rfl), (hst1.drew.set (j := 0) (by omega) _).congr (fun j hj => ?_), fun o ho => ?_, hfr.drew.set _ _⟩)
  · unfold upd lu round
    by_cases e : j = 0
    · subst e; rw [if_pos rfl, if_pos rfl]
    · rw [if_neg e, if_neg e]
  · rw [World.cell?_setCell_other _ _ _ _ (by intro e; injection e; omega)]; exact hrest o ho
end Go.Proofs.Ytdbjhhnphbnnlaa
