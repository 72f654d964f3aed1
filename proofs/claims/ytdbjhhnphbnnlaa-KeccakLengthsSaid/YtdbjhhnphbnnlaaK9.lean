/- What one block takes, in plain Lean; a slice of bytes of one's own; one byte more. -/
import Derived.Test.YtdbjhhnphbnnlaaK8
namespace Go.Proofs.Ytdbjhhnphbnnlaa
open Go Go.RowKit

theorem gd {α : Type} (l : List α) (j : Nat) (d : α) (h : j < l.length) : l.getD j d = l[j] := by
  rw [List.getD_eq_getElem?_getD, List.getElem?_eq_getElem h]; rfl
theorem gd_l {α : Type} (l m : List α) (j : Nat) (d : α) (h : j < l.length) : (l ++ m).getD j d = l.getD j d := by
  rw [List.getD_eq_getElem?_getD, List.getD_eq_getElem?_getD, List.getElem?_append_left h]
theorem gd_r {α : Type} (l m : List α) (j : Nat) (d : α) (h : l.length ≤ j) : (l ++ m).getD j d = m.getD (j - l.length) d := by
  rw [List.getD_eq_getElem?_getD, List.getD_eq_getElem?_getD, List.getElem?_append_right h]

def pk (c : Bs) : Nat → St
  | 0 => zero
  | i + 1 => addB (pk c i) i (c.getD i 0)

theorem addB_xor (s : St) (i : Nat) (a b : BitVec 8) : addB (addB s i a) i b = addB s i (a ^^^ b) := by
  funext j
  unfold addB upd
  by_cases h : j = i / 8
  · simp only [h, if_true]
    rw [BitVec.setWidth_xor, BitVec.shiftLeft_xor_distrib, BitVec.xor_assoc]
  · simp only [if_neg h]
theorem addB_zero (s : St) (i : Nat) : addB s i 0 = s := by
  funext j
  unfold addB upd
  split
  · rename_i h
    subst h
    simp
  · rfl
theorem pk_congr {c c' : Bs} : ∀ (k : Nat), (∀ j, j < k → c.getD j 0 = c'.getD j 0) → pk c k = pk c' k
  | 0, _ => rfl
  | k + 1, h => by
    show addB (pk c k) k _ = addB (pk c' k) k _
    rw [pk_congr k (fun j hj => h j (by omega)), h k (by omega)]

theorem eats_take (rate : Nat) (l : Bs) (hl : l.length < rate) : ∀ k, k ≤ l.length → eats rate (zero, 0) (l.take k) = (pk l k, k)
  | 0, _ => rfl
  | k + 1, hk => by
    have h := eats_take rate l hl k (by omega)
    rw [List.take_succ_eq_append_getElem (by omega), eats_snoc, h]
    unfold eat
    rw [if_neg (by show ¬ k + 1 = rate; omega)]
    show (addB (pk l k) k l[k], k + 1) = (addB (pk l k) k (l.getD k 0), k + 1)
    rw [gd _ _ _ (by omega)]
theorem eats_short (rate : Nat) (l : Bs) (hl : l.length < rate) : eats rate (zero, 0) l = (pk l l.length, l.length) := by
  have := eats_take rate l hl l.length (Nat.le_refl _)
  rwa [List.take_length] at this

def padded (l : Bs) (e : BitVec 8) (m : Nat) : Bs := l ++ [e] ++ List.replicate m 0

theorem padded_length (l : Bs) (e : BitVec 8) (m : Nat) : (padded l e m).length = l.length + 1 + m := by simp [padded]; omega
theorem padded_succ (l : Bs) (e : BitVec 8) (m : Nat) : padded l e m ++ [0] = padded l e (m + 1) := by
  unfold padded
  rw [List.append_assoc _ (List.replicate m 0), ← List.replicate_succ']
theorem padded_lo (l : Bs) (e : BitVec 8) (m j : Nat) (h : j < l.length) : (padded l e m).getD j 0 = l.getD j 0 := by
  unfold padded
  rw [List.append_assoc, gd_l _ _ _ _ h]
theorem padded_at (l : Bs) (e : BitVec 8) (m : Nat) : (padded l e m).getD l.length 0 = e := by
  unfold padded
  simp
theorem padded_hi (l : Bs) (e : BitVec 8) (m j : Nat) (h : l.length < j) : (padded l e m).getD j 0 = 0 := by
  unfold padded
  rw [List.append_assoc, gd_r _ _ _ _ (by omega)]
  obtain ⟨k, hk⟩ : ∃ k, j - l.length = k + 1 := ⟨j - l.length - 1, by omega⟩
  rw [hk]
  simp only [List.singleton_append, List.getD_cons_succ]
  by_cases h2 : k < m
  · rw [gd _ _ _ (by simpa using h2)]; simp
  · rw [List.getD_eq_getElem?_getD, List.getElem?_eq_none (by simpa using h2)]; rfl

theorem pk_padded (l : Bs) (e : BitVec 8) (m : Nat) : ∀ k, pk (padded l e m) (l.length + 1 + k) = addB (pk l l.length) l.length e
  | 0 => by
    show addB (pk (padded l e m) l.length) l.length ((padded l e m).getD l.length 0) = _
    rw [padded_at, pk_congr l.length (fun j hj => padded_lo l e m j hj)]
  | k + 1 => by
    show addB (pk (padded l e m) (l.length + 1 + k)) (l.length + 1 + k) ((padded l e m).getD (l.length + 1 + k) 0) = _
    rw [padded_hi _ _ _ _ (by omega), addB_zero, pk_padded l e m k]

/-- The last byte turned. -/
def last (r : Nat) (c : Bs) : Bs := c.set (r - 1) (c.getD (r - 1) 0 ^^^ 128)
theorem last_length (r : Nat) (c : Bs) : (last r c).length = c.length := by simp [last]
theorem last_getD (r : Nat) (c : Bs) (j : Nat) (hr : r - 1 < c.length) : (last r c).getD j 0 = if j = r - 1 then c.getD (r - 1) 0 ^^^ 128 else c.getD j 0 := by
  unfold last
  by_cases h : j = r - 1
  · subst h; rw [if_pos rfl]; simp [hr]
  · rw [if_neg h]
    simp only [List.getD_eq_getElem?_getD]
    rw [List.getElem?_set_ne (by omega)]

theorem pk_last (r : Nat) (c : Bs) (hr : 0 < r) (hc : r ≤ c.length) : pk (last r c) r = addB (pk c r) (r - 1) 128 := by
  obtain ⟨q, rfl⟩ : ∃ q, r = q + 1 := ⟨r - 1, by omega⟩
  show addB (pk (last (q + 1) c) q) q ((last (q + 1) c).getD q 0) = addB (addB (pk c q) q (c.getD q 0)) q 128
  rw [addB_xor, last_getD _ _ _ (by omega), if_pos (by omega), pk_congr (c := last (q + 1) c) (c' := c) q (fun j hj => by rw [last_getD _ _ _ (by omega), if_neg (by omega)])]
  rfl

/-- A block that ends. -/
theorem fed_block (rate : Nat) (e : BitVec 8) (l : Bs) (m : Nat) (h : l.length + 1 + m = rate) : full (pk (last rate (padded l e m)) rate) = fed rate e l := by
  unfold fed
  rw [eats_short rate l (by omega), pk_last _ _ (by omega) (by rw [padded_length]; omega)]
  have := pk_padded l e m m
  rw [h] at this
  rw [this]

theorem dst_first (rate : Nat) (t : St) : ∀ i, i ≤ rate → dst rate i (t, 0) = (t, i) := by
  intro i
  suffices h : ∀ i at_, at_ + i ≤ rate → dst rate i (t, at_) = (t, at_ + i) by intro hi; have := h i 0 (by omega); rwa [Nat.zero_add] at this
  intro i
  induction i with
  | zero => intro at_ _; rfl
  | succ i ih =>
    intro at_ h
    rw [← dst_dn]
    unfold dn dq
    simp only [if_neg (show ¬ at_ = rate by omega)]
    rw [ih (at_ + 1) (by omega), show at_ + 1 + i = at_ + (i + 1) by omega]
theorem drip_first (rate n i : Nat) (t : St) (h : i < n) (hr : i < rate) : (drip rate n (t, 0)).getD i 0 = outB t i := by
  rw [drip_getD _ _ _ _ h, dst_first _ _ _ (by omega)]
  unfold ob dq
  simp only [if_neg (show ¬ i = rate by omega)]

/-! ### Slices of one's own -/
theorem Own.is {w : World} {B : Nat} {v : Value} {l : Bs} (h : Own w B v l) : ∃ a cap, v = .slice a l.length cap := by
  rcases h with ⟨rfl, rfl⟩ | ⟨g, cap, cur, rfl, _⟩
  · exact ⟨_, _, rfl⟩
  · exact ⟨_, _, rfl⟩
theorem Own.at {w : World} {B : Nat} {v : Value} {l : Bs} (h : Own w B v l) (hl : 0 < l.length) :
    ∃ g cap, v = .slice (some ⟨g, 0, none⟩) l.length cap ∧ B ≤ g ∧ g < w.heap.size ∧ Row w g 0 l.length (lb fun j => l.getD j 0) ∧ Free w g := by
  rcases h with ⟨rfl, rfl⟩ | ⟨g, cap, cur, rfl, hg, hh, hle, hsz, htk⟩
  · cases hl
  · have hlt : g < w.heap.size := by
      rcases Nat.lt_or_ge g w.heap.size with h | h
      · exact h
      · rw [Array.getElem?_eq_none h] at hh; cases hh
    refine ⟨g, cap, rfl, hg, hlt, fun j hj => ?_, fun o => ?_⟩
    · simp only [World.cell?, hh, Nat.zero_add]
      have : (cur.toList.take l.length)[j]? = (l.map bv)[j]? := by rw [htk]
      rw [List.getElem?_take, if_pos hj, List.getElem?_map, List.getElem?_eq_getElem hj] at this
      show (if (none : Option Nat).isSome = true then none else cur[j]?) = _
      rw [if_neg (by simp), ← Array.getElem?_toList, this]
      show some (bv l[j]) = some (bv (l.getD j 0))
      rw [gd _ _ _ hj]
    · simp only [World.frozen?, hh]; simp
theorem Own.ext {S : Nat → Prop} {w w' : World} {B : Nat} {v : Value} {l : Bs} (h : Own w B v l) (he : Ext S w w') (hs : ∀ k, B ≤ k → k < w.heap.size → ¬ S k) : Own w' B v l := by
  rcases h with h | ⟨g, cap, cur, rfl, hg, hh, h⟩
  · exact .inl h
  · have hlt : g < w.heap.size := by
      rcases Nat.lt_or_ge g w.heap.size with h | h
      · exact h
      · rw [Array.getElem?_eq_none h] at hh; cases hh
    exact .inr ⟨g, cap, cur, rfl, hg, by rw [he.block g hlt (hs g hg hlt)]; exact hh, h⟩

theorem one_at (b : BitVec 8) (w : World) : BytesAt (w.alloc (.cells #[bv b] 5)) (w.heap.size + 1) (.slice (some ⟨w.heap.size, 0, none⟩) 1 1) [b] := by
  refine ⟨_, 1, rfl, .inr ⟨w.heap.size, 0, rfl, by omega, fun j hj => ?_⟩⟩
  simp only [World.cell?, heap_alloc_new]
  obtain rfl : j = 0 := by simpa using hj
  rfl

/-- One byte more. -/
theorem push_any (B : Nat) (v : Value) (l : Bs) (b : BitVec 8) (t : TypeId) (w : World) (ho : Own w B v l) (hlen : l.length + 1 ≤ 35184372088832) (hB : B ≤ w.heap.size) :
    ∃ v' w', (Builtin.append_ #[22, 22] t #[v, .slice (some ⟨w.heap.size, 0, none⟩) 1 1]).run Try.prog (w.alloc (.cells #[bv b] 5)) = .ok v' w' ∧ Own w' B v' (l ++ [b]) ∧ Ext (fun k => B ≤ k) w w' := by
  obtain ⟨v', w', h1, h2, h3⟩ := append_any B v _ l [b] _ t (w.alloc (.cells #[bv b] 5)) (ho.ext ((Ext.refl (fun _ => False) w).alloc _) (fun _ _ _ => id)) (one_at b w) hlen (by rw [World.size_alloc]; omega)
  exact ⟨v', w', h1, h2, ((Ext.refl _ w).alloc _).trans h3⟩

/-- append([]byte{}, l...), behind it one byte. -/
theorem begin_any (u : Value) (l : Bs) (B : Nat) (e : BitVec 8) (t : TypeId) (w : World) (hu : BytesAt w B u l) (hB : B ≤ w.heap.size) (hlen : l.length + 1 ≤ 35184372088832) :
    ∃ v1 w1, (Builtin.append_ #[22, 22] t #[.slice (some ⟨w.heap.size, 0, none⟩) 0 0, u]).run Try.prog (w.alloc (.cells #[] 5)) = .ok v1 w1 ∧ Own w1 w.heap.size v1 l ∧ Ext (fun k => w.heap.size ≤ k) w w1 := by
  have he : Ext (fun _ => False) w (w.alloc (.cells #[] 5)) := (Ext.refl _ w).alloc _
  obtain ⟨v', w', h1, h2, h3⟩ := append_any w.heap.size (.slice (some ⟨w.heap.size, 0, none⟩) 0 0) u [] l B t (w.alloc (.cells #[] 5))
    (.inr ⟨w.heap.size, 0, #[], rfl, Nat.le_refl _, heap_alloc_new w _, Nat.le_refl _, rfl, rfl⟩) (hu.ext he hB (fun _ h => h.elim)) (by simp; omega) (by rw [World.size_alloc]; omega)
  exact ⟨v', w', h1, h2, (he.mono fun _ h => h.elim).trans h3⟩

end Go.Proofs.Ytdbjhhnphbnnlaa
