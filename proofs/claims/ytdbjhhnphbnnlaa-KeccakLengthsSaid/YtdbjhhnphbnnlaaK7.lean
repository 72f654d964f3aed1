/- append, on a slice of bytes that the call itself made. -/
import Derived.Test.YtdbjhhnphbnnlaaK6
namespace Go.Proofs.Ytdbjhhnphbnnlaa
open Go Go.RowKit

def bv (b : BitVec 8) : Value := .int .u8 (Bt b)

/-- A slice of bytes that lies at the head of a block of its own, from block B on; or nil. -/
def Own (w : World) (B : Nat) (v : Value) (l : Bs) : Prop :=
  (v = .slice none 0 0 ∧ l = []) ∨
  ∃ g cap cur, v = .slice (some ⟨g, 0, none⟩) l.length cap ∧ B ≤ g ∧ w.heap[g]? = some (.cells cur 5 (0, 0)) ∧ l.length ≤ cap ∧ cur.size = cap ∧ cur.toList.take l.length = l.map bv

theorem setRow_frozen (w : World) (g : Nat) (cs : Array Value) (a : Addr) : (w.setRow g cs).frozen? a = w.frozen? a := by
  simp only [World.frozen?, World.setRow, Array.getElem?_modify]
  by_cases h : g = a.block
  · rw [if_pos h]
    cases w.heap[a.block]? with
    | none => rfl
    | some o => cases o <;> rfl
  · rw [if_neg h]

theorem setRow_ext {S : Nat → Prop} (w : World) (g : Nat) (cs : Array Value) (hS : S g) : Ext S w (w.setRow g cs) :=
  ⟨rfl, rfl, rfl, by simp, fun k _ hn => by rw [setRow_other w g k cs (fun e => hn (by rw [e]; exact hS))], fun a => setRow_frozen w g cs a⟩

theorem el5 : Try.prog.underlying 22 = some (.slice 5) := by kernel_rfl
theorem in5 : ∃ i, Try.prog.info? 5 = some i ∧ i.zero = some zB ∧ i.size = 1 ∧ i.bytes = 1 := by
  have h : (Try.prog.info? 5).map (fun i => (i.zero, i.size, i.bytes)) = some (some zB, 1, 1) := by kernel_rfl
  cases hq : Try.prog.info? 5 with
  | none => simp [hq] at h
  | some i => simp [hq] at h; exact ⟨i, rfl, h.1, h.2.1, h.2.2⟩

theorem nextcap_le (n c : Nat) (h : c < n) : Builtin.nextslicecap n c ≤ 2 * n + 512 + 5 * n := by
  unfold Builtin.nextslicecap
  split
  · omega
  · split
    · omega
    · have step : ∀ (r c : Nat), c ≤ 2 * n + 512 → Builtin.growBy n r c ≤ 2 * n + 512 + 5 * n := by
        intro r
        induction r with
        | zero => intro c hc; simp only [Builtin.growBy]; omega
        | succ r ih =>
          intro c hc
          simp only [Builtin.growBy]
          split
          · omega
          · exact ih _ (by omega)
      exact step 4 c (by omega)

theorem append_any (B : Nat) (v u : Value) (l l2 : Bs) (B2 : Nat) (t : TypeId) (w : World) (ho : Own w B v l) (hu : BytesAt w B2 u l2) (hlen : l.length + l2.length ≤ 35184372088832) (hB : B ≤ w.heap.size) :
    ∃ v' w', (Builtin.append_ #[22, 22] t #[v, u]).run Try.prog w = .ok v' w' ∧ Own w' B v' (l ++ l2) ∧ Ext (fun k => B ≤ k) w w' := by
  obtain ⟨i, hi, hz, hs, hb⟩ := in5
  obtain ⟨base, cap2, rfl, hu⟩ := hu
  rcases Nat.eq_zero_or_pos l2.length with h0 | hpos
  · -- nothing is appended
    have hl2 : l2 = [] := List.length_eq_zero_iff.1 h0
    subst hl2
    rw [List.append_nil]
    refine ⟨v, w, ?_, ho, Ext.refl _ w⟩
    rcases ho with ⟨rfl, rfl⟩ | ⟨g, cap, cur, rfl, hg, hh, hle, hsz, htk⟩
    · cases base <;> simp [Builtin.append_, run_underlying el5, sizeOf, typeInfo, hi, Builtin.lenOf, Builtin.firstCells, loadCells, loadCellsFrom]
    · cases base <;> simp [Builtin.append_, run_underlying el5, sizeOf, typeInfo, hi, Builtin.lenOf, Builtin.firstCells, loadCells, loadCellsFrom, hle, storeCells]
  · obtain ⟨b, off, rfl, _, hc⟩ := hu.resolve_left (by omega)
    have hnews : ∀ j x, (l2.map bv)[j]? = some x → w.cell? ((⟨b, off, none⟩ : Addr).add j) = some x := fun j x hx => by
      rw [List.getElem?_map] at hx
      cases hj : l2[j]? with
      | none => simp [hj] at hx
      | some y =>
        simp [hj] at hx
        have hlt := (List.getElem?_eq_some_iff.1 hj)
        rw [Addr.add_lit, hc j hlt.1, hlt.2, ← hx]
        rfl
    have one : ∀ x ∈ l2.map bv, x.oneCell' = true := fun x hx => by simp at hx; obtain ⟨y, _, rfl⟩ := hx; rfl
    rcases ho with ⟨rfl, rfl⟩ | ⟨g, cap, cur, rfl, hg, hh, hle, hsz, htk⟩
    · have hr := run_append_nil (P := Try.prog) w 22 t 5 i zB el5 hi hz ⟨b, off, none⟩ l2.length cap2 (l2.map bv) (by simp [hs]) hnews hpos (by omega) (by rw [hb]; omega)
      refine ⟨_, _, hr, .inr ⟨w.heap.size, grownCap w l2.length 0 5, (l2.map bv).toArray ++ Builtin.zeroCells zB.cells (grownCap w l2.length 0 5 - l2.length), rfl, hB, heap_alloc_new w.drew _, ?_, ?_, ?_⟩, (Ext.refl _ w).drew.alloc _⟩
      · rw [List.nil_append]; unfold grownCap; simp only [Question.cut]; omega
      · simp only [Array.size_append, List.size_toArray, List.length_map, size_zeroCells]
        have : (Value.cells zB).size = 1 := rfl
        rw [this]
        have : l2.length ≤ grownCap w l2.length 0 5 := by unfold grownCap; simp only [Question.cut]; omega
        omega
      · simp
    · by_cases hroom : l.length + l2.length ≤ cap
      · have hr := run_append_room (P := Try.prog) w 22 t 5 i el5 hi g l.length cap cur hh ⟨b, off, none⟩ l2.length cap2 (l2.map bv) (by simp [hs]) hnews one hroom (by simp [hs]; omega)
        refine ⟨_, _, hr, .inr ⟨g, cap, (cur.toList.take (l.length * i.size) ++ l2.map bv ++ cur.toList.drop (l.length * i.size + (l2.map bv).length)).toArray, by rw [List.length_append], hg, setRow_heap w g cur _ 5 _ hh, by rw [List.length_append]; exact hroom, ?_, ?_⟩, setRow_ext w g _ hg⟩
        · simp [hs]; omega
        · rw [hs, Nat.mul_one, htk, List.map_append, List.length_append]
          simp [List.take_append]; exact List.take_of_length_le (by simp)
      · have olds : ∀ j x, (l.map bv)[j]? = some x → w.cell? ((⟨g, 0, none⟩ : Addr).add j) = some x := fun j x hx => by
          rw [Addr.add_lit, Nat.zero_add]
          simp only [World.cell?, hh]
          rw [← htk, List.getElem?_take] at hx
          split at hx
          · simpa using hx
          · cases hx
        have hr := run_append_grow (P := Try.prog) w 22 t 5 i zB el5 hi hz ⟨g, 0, none⟩ l.length cap (l.map bv) (by simp [hs]) olds ⟨b, off, none⟩ l2.length cap2 (l2.map bv) (by simp [hs]) hnews (by omega) (by omega)
          (by rw [hb]; have := nextcap_le (l.length + l2.length) cap (by omega); omega)
        have hcap : l.length + l2.length ≤ grownCap w (l.length + l2.length) cap 5 := by unfold grownCap; simp only [Question.cut]; omega
        refine ⟨_, _, hr, .inr ⟨w.heap.size, grownCap w (l.length + l2.length) cap 5, (l.map bv).toArray ++ (l2.map bv).toArray ++ Builtin.zeroCells zB.cells (grownCap w (l.length + l2.length) cap 5 - (l.length + l2.length)), by rw [List.length_append], hB, heap_alloc_new w.drew _, by rw [List.length_append]; exact hcap, ?_, ?_⟩, (Ext.refl _ w).drew.alloc _⟩
        · simp only [Array.size_append, List.size_toArray, List.length_map, size_zeroCells]
          have : (Value.cells zB).size = 1 := rfl
          rw [this]
          omega
        · simp [List.take_append]; exact List.take_of_length_le (by simp)

end Go.Proofs.Ytdbjhhnphbnnlaa
