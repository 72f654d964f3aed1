/- Words of the walks: numbers, rows of cells, what stays. -/
import Derived.Test.YtdbjhhnphbnnlaaF5
import Derived.Test.YtdbjhhnphbnnlaaK0
namespace Go.Proofs.Ytdbjhhnphbnnlaa
open Go Go.RowKit

def L (x : W64) : Int := (x.toNat : Int)
def Bt (x : BitVec 8) : Int := (x.toNat : Int)

theorem L_wrap (x : W64) : IntKind.u64.wrap (x.toNat : Int) = L x := by
  rw [IntKind.wrap_u64]
  have := x.isLt
  unfold L
  omega

theorem L_ofInt (x : W64) : BitVec.ofInt 64 (L x) = x := by
  unfold L
  rw [BitVec.ofInt_natCast, BitVec.ofNat_toNat, BitVec.setWidth_eq]

theorem xorL (a b : W64) : bits .xor .u64 (L a) (L b) = L (a ^^^ b) := by
  show IntKind.u64.wrap ((BitVec.ofInt 64 (L a) ^^^ BitVec.ofInt 64 (L b)).toNat : Int) = _
  rw [L_ofInt, L_ofInt, L_wrap]
theorem andL (a b : W64) : bits .and .u64 (L a) (L b) = L (a &&& b) := by
  show IntKind.u64.wrap ((BitVec.ofInt 64 (L a) &&& BitVec.ofInt 64 (L b)).toNat : Int) = _
  rw [L_ofInt, L_ofInt, L_wrap]
theorem orL (a b : W64) : bits .or .u64 (L a) (L b) = L (a ||| b) := by
  show IntKind.u64.wrap ((BitVec.ofInt 64 (L a) ||| BitVec.ofInt 64 (L b)).toNat : Int) = _
  rw [L_ofInt, L_ofInt, L_wrap]
theorem andNotL (a b : W64) : bits .andNot .u64 (L a) (L b) = L (a &&& ~~~ b) := by
  show IntKind.u64.wrap ((BitVec.ofInt 64 (L a) &&& ~~~ BitVec.ofInt 64 (L b)).toNat : Int) = _
  rw [L_ofInt, L_ofInt, L_wrap]
theorem notL (a : W64) : bits .xor .u64 (if IntKind.u64.signed then -1 else IntKind.u64.max) (L a) = L (~~~ a) := by
  show IntKind.u64.wrap ((BitVec.ofInt 64 18446744073709551615 ^^^ BitVec.ofInt 64 (L a)).toNat : Int) = _
  rw [L_ofInt, show BitVec.ofInt 64 18446744073709551615 = BitVec.allOnes 64 by decide, BitVec.allOnes_xor, L_wrap]

theorem shlL (a : W64) (n : Nat) : IntKind.u64.wrap (L a * 2 ^ min ((n : Int)).toNat IntKind.u64.bits) = L (a <<< n) := by
  have ha := a.isLt
  have hb : IntKind.u64.bits = 64 := rfl
  rw [IntKind.wrap_u64, hb, Int.toNat_natCast]
  unfold L
  rw [BitVec.toNat_shiftLeft, Nat.shiftLeft_eq]
  have e : (18446744073709551616 : Int) = ((2 ^ 64 : Nat) : Int) := by decide
  rw [e]
  have e2 : ((a.toNat : Int) * 2 ^ min n 64) = ((a.toNat * 2 ^ min n 64 : Nat) : Int) := by simp
  rw [e2, ← Int.natCast_emod]
  congr 1
  by_cases h : n ≤ 64
  · rw [Nat.min_eq_left h]
  · rw [Nat.min_eq_right (by omega)]
    have : n = 64 + (n - 64) := by omega
    rw [Nat.mul_mod_left, this, Nat.pow_add, ← Nat.mul_assoc, Nat.mul_right_comm, Nat.mul_mod_left]

theorem shrL (a : W64) (n : Nat) : (L a).fdiv (2 ^ min ((n : Int)).toNat IntKind.u64.bits) = L (a >>> n) := by
  have ha := a.isLt
  have hb : IntKind.u64.bits = 64 := rfl
  rw [hb, Int.toNat_natCast]
  unfold L
  rw [BitVec.toNat_ushiftRight, Nat.shiftRight_eq_div_pow]
  have e2 : ((2 : Int) ^ min n 64) = ((2 ^ min n 64 : Nat) : Int) := by simp
  rw [e2, Int.fdiv_eq_ediv_of_nonneg _ (Int.natCast_nonneg _), ← Int.natCast_ediv]
  congr 1
  by_cases h : n ≤ 64
  · rw [Nat.min_eq_left h]
  · rw [Nat.min_eq_right (by omega), Nat.div_eq_of_lt ha, Nat.div_eq_of_lt]
    exact Nat.lt_of_lt_of_le ha (Nat.pow_le_pow_right (by decide) (by omega))

theorem up8 (x : BitVec 8) : IntKind.u64.wrap (Bt x) = L (x.setWidth 64) := by
  have hx := x.isLt
  rw [IntKind.wrap_u64]
  unfold L Bt
  rw [BitVec.toNat_setWidth]
  omega
theorem down8 (x : W64) : IntKind.u8.wrap (L x) = Bt (x.setWidth 8) := by
  have e : IntKind.u8.wrap (L x) = L x % 256 := by simp [IntKind.wrap, IntKind.bits, IntKind.signed]
  rw [e]
  unfold L Bt
  rw [BitVec.toNat_setWidth]
  omega

theorem Bt_wrap (x : BitVec 8) : IntKind.u8.wrap (x.toNat : Int) = Bt x := by
  have e : ∀ n : Int, IntKind.u8.wrap n = n % 256 := fun n => by simp [IntKind.wrap, IntKind.bits, IntKind.signed]
  have := x.isLt
  rw [e]
  unfold Bt
  omega
theorem Bt_ofInt (x : BitVec 8) : BitVec.ofInt 8 (Bt x) = x := by
  unfold Bt
  rw [BitVec.ofInt_natCast, BitVec.ofNat_toNat, BitVec.setWidth_eq]
theorem xorB (a b : BitVec 8) : bits .xor .u8 (Bt a) (Bt b) = Bt (a ^^^ b) := by
  show IntKind.u8.wrap ((BitVec.ofInt 8 (Bt a) ^^^ BitVec.ofInt 8 (Bt b)).toNat : Int) = _
  rw [Bt_ofInt, Bt_ofInt, Bt_wrap]

theorem w64 {x y : Int} (h : x = y ∧ -9223372036854775808 ≤ x ∧ x ≤ 9223372036854775807) : IntKind.i64.wrap x = y := by
  rw [IntWalk.i64_in x ⟨h.2.1, h.2.2⟩]; exact h.1
theorem tmodl (a m : Nat) (z : Int) (h : z = (m : Int)) : Int.tmod (a : Int) z = ((a % m : Nat) : Int) := by
  rw [h, Int.natCast_emod]; exact Int.tmod_eq_emod_of_nonneg (by omega)
theorem tdivl (a m : Nat) (z : Int) (h : z = (m : Int)) (hb : a ≤ 9223372036854775807) : IntKind.i64.wrap (Int.tdiv (a : Int) z) = ((a / m : Nat) : Int) := by
  have e : Int.tdiv (a : Int) z = ((a / m : Nat) : Int) := by
    rw [h, Int.natCast_ediv]; exact Int.tdiv_eq_ediv_of_nonneg (by omega)
  rw [e]
  have := Nat.div_le_self a m
  generalize a / m = q at this
  exact w64 (by omega)

theorem deT {p : Prop} [Decidable p] (h : p) : decide p = true := decide_eq_true h
theorem deF {p : Prop} [Decidable p] (h : ¬ p) : decide p = false := decide_eq_false h
theorem eqT {a b : Int} (h : a = b) : (a == b) = true := by simp [h]
theorem eqF {a b : Int} (h : a ≠ b) : (a == b) = false := by simp [h]
theorem neT {a b : Int} (h : a ≠ b) : (a != b) = true := by simp [h]
theorem neF {a b : Int} (h : a = b) : (a != b) = false := by simp [h]

/-! ### Rows of cells -/

def lu (f : Nat → W64) : Nat → Value := fun j => .int .u64 (L (f j))
def li (f : Nat → Nat) : Nat → Value := fun j => .int .i64 ((f j : Nat) : Int)

def Row (w : World) (b off n : Nat) (f : Nat → Value) : Prop := ∀ j, j < n → w.cell? ⟨b, off + j, none⟩ = some (f j)
/-- No cell of the block is frozen. -/
def Free (w : World) (b : Nat) : Prop := ∀ o, w.frozen? ⟨b, o, none⟩ = false
/-- What was there is as it was, but for some blocks. -/
structure Ext (S : Nat → Prop) (w w' : World) : Prop where
  os : w'.os = w.os
  tape : w'.tape = w.tape
  output : w'.output = w.output
  size : w.heap.size ≤ w'.heap.size
  block : ∀ k, k < w.heap.size → ¬ S k → w'.heap[k]? = w.heap[k]?
  froz : ∀ a, w'.frozen? a = w.frozen? a

/-- A block none of whose cells is frozen. -/
def frz (o : Obj) : Bool := match o with
  | .cells _ _ (0, 0) => true
  | .cells .. => false
  | _ => true

section
variable {w w' : World} {b off n : Nat} {f g : Nat → Value} {S S' : Nat → Prop}

theorem cell_blk {b' : Nat} (h : w'.heap[b']? = w.heap[b']?) (o : Nat) : w'.cell? ⟨b', o, none⟩ = w.cell? ⟨b', o, none⟩ := by
  simp only [World.cell?, h]
theorem frozen_blk {b' : Nat} (h : w'.heap[b']? = w.heap[b']?) (o : Nat) : w'.frozen? ⟨b', o, none⟩ = w.frozen? ⟨b', o, none⟩ := by
  simp only [World.frozen?, h]

theorem Ext.refl (S : Nat → Prop) (w : World) : Ext S w w := ⟨rfl, rfl, rfl, Nat.le_refl _, fun _ _ _ => rfl, fun _ => rfl⟩
theorem Ext.trans {w'' : World} (h : Ext S w w') (h' : Ext S w' w'') : Ext S w w'' :=
  ⟨h'.os.trans h.os, h'.tape.trans h.tape, h'.output.trans h.output, Nat.le_trans h.size h'.size, fun k hk hs => (h'.block k (Nat.lt_of_lt_of_le hk h.size) hs).trans (h.block k hk hs), fun a => (h'.froz a).trans (h.froz a)⟩
/-- The blocks that a callee turns, among them some of our own new ones. -/
theorem Ext.trans' {w'' : World} (h : Ext S w w') (h' : Ext S' w' w'') (hs : ∀ k, k < w.heap.size → S' k → S k) : Ext S w w'' :=
  ⟨h'.os.trans h.os, h'.tape.trans h.tape, h'.output.trans h.output, Nat.le_trans h.size h'.size,
   fun k hk hn => (h'.block k (Nat.lt_of_lt_of_le hk h.size) (fun h0 => hn (hs k hk h0))).trans (h.block k hk hn), fun a => (h'.froz a).trans (h.froz a)⟩
theorem Ext.mono (h : Ext S w w') (hs : ∀ k, S k → S' k) : Ext S' w w' := ⟨h.os, h.tape, h.output, h.size, fun k hk hn => h.block k hk fun h0 => hn (hs k h0), h.froz⟩
theorem Ext.drew (h : Ext S w w') : Ext S w w'.drew := ⟨h.os, h.tape, h.output, h.size, h.block, h.froz⟩
theorem frozen_alloc (w : World) (o : Obj) (ho : frz o = true) (a : Addr) : (w.alloc o).frozen? a = w.frozen? a := by
  simp only [World.frozen?]
  by_cases h : a.block < w.heap.size
  · rw [Below.heap_alloc _ _ _ h]
  · by_cases h2 : a.block = w.heap.size
    · rw [h2, heap_alloc_new]
      have hn : w.heap[w.heap.size]? = none := by simp
      rw [hn]
      unfold frz at ho
      split at ho
      · simp
      · cases ho
      · rename_i h3 h4
        cases o <;> first | rfl | exact (h4 _ _ _ rfl).elim
    · have hn : w.heap[a.block]? = none := by simp; omega
      have hn2 : (w.alloc o).heap[a.block]? = none := by
        have := World.size_alloc w o
        simp only [Array.getElem?_eq_none_iff]
        omega
      rw [hn, hn2]
theorem Ext.alloc (h : Ext S w w') (o : Obj) (ho : frz o = true := by rfl) : Ext S w (w'.alloc o) :=
  ⟨h.os, h.tape, h.output, by rw [World.size_alloc]; have := h.size; omega, fun k hk hn => by
    rw [Below.heap_alloc _ _ _ (by have := h.size; omega)]; exact h.block k hk hn, fun a => (frozen_alloc w' o ho a).trans (h.froz a)⟩
theorem Ext.set (h : Ext S w w') (a : Addr) (v : Value) (ha : a.block < w.heap.size → S a.block) : Ext S w (w'.setCell a v) :=
  ⟨h.os, h.tape, h.output, by rw [World.size_setCell]; exact h.size, fun k hk hn => by
    by_cases e : k = a.block
    · subst e; exact (hn (ha hk)).elim
    · rw [heap_setCell_other _ _ _ _ e]; exact h.block k hk hn,
   fun x => by rw [World.frozen?_setCell]; exact h.froz x⟩

/-- What the form asks of the memory that was there. -/
theorem Ext.grown (h : Ext (fun _ => False) w w') : Grown w w' :=
  ⟨(Below.frame ⟨h.os, h.tape, h.output, h.size, fun k hk => h.block k hk id⟩ _ : w.keptBut w' fun _ => False), h.froz, h.size⟩
theorem Row.ext (h : Row w b off n f) (he : Ext S w w') (hb : b < w.heap.size) (hs : ¬ S b) : Row w' b off n f := fun j hj => by rw [cell_blk (he.block b hb hs)]; exact h j hj
theorem Free.ext (h : Free w b) (he : Ext S w w') (hb : b < w.heap.size) (hs : ¬ S b) : Free w' b := fun o => by rw [frozen_blk (he.block b hb hs)]; exact h o
theorem Row.congr (h : Row w b off n f) (e : ∀ j, j < n → f j = g j) : Row w b off n g := fun j hj => by rw [h j hj, e j hj]
theorem Row.is (h : Row w b off n f) {j : Nat} (hj : j < n) : (w.cell? ⟨b, off + j, none⟩).isSome = true := by rw [h j hj]; rfl
theorem Row.set (h : Row w b off n f) {j : Nat} (hj : j < n) (v : Value) : Row (w.setCell ⟨b, off + j, none⟩ v) b off n (upd f j v) := fun i hi => by
  unfold upd
  split
  · rename_i e
    subst e
    exact World.cell?_setCell_same w _ v (h i hi)
  · rename_i e
    rw [World.cell?_setCell_other _ _ _ _ (by intro e2; injection e2; omega)]
    exact h i hi
theorem Row.other (h : Row w b off n f) (a : Addr) (v : Value) (hne : a.block ≠ b ∨ a.off < off ∨ off + n ≤ a.off) : Row (w.setCell a v) b off n f := fun i hi => by
  rw [World.cell?_setCell_other _ _ _ _ (by rintro rfl; simp at hne; omega)]
  exact h i hi
theorem Row.alloc (h : Row w b off n f) (hb : b < w.heap.size) (o : Obj) : Row (w.alloc o) b off n f := fun i hi => by
  rw [cell_blk (Below.heap_alloc _ _ _ hb)]; exact h i hi
theorem Row.drew (h : Row w b off n f) : Row w.drew b off n f := h
theorem Free.alloc (h : Free w b) (hb : b < w.heap.size) (o : Obj) : Free (w.alloc o) b := fun i => by
  rw [frozen_blk (Below.heap_alloc _ _ _ hb)]; exact h i
theorem Free.set (h : Free w b) (a : Addr) (v : Value) : Free (w.setCell a v) b := fun i => by rw [World.frozen?_setCell]; exact h i
theorem Free.drew (h : Free w b) : Free w.drew b := h
theorem Free.new (w : World) (cs : Array Value) (t : TypeId) : Free (w.alloc (.cells cs t)) w.heap.size := fun o => by
  simp only [World.frozen?, heap_alloc_new]
  simp
theorem Row.new (w : World) (cs : Array Value) (t : TypeId) (f : Nat → Value) (n : Nat) (h : ∀ j, j < n → cs[j]? = some (f j)) : Row (w.alloc (.cells cs t)) w.heap.size 0 n f := fun j hj => by
  simp only [World.cell?, heap_alloc_new, Nat.zero_add]
  simpa using h j hj
theorem Row.lt (h : Row w b off n f) (hn : 0 < n) : b < w.heap.size := block_lt_of_cell (h 0 hn)
theorem Row.sub (h : Row w b off n f) (o m : Nat) (hm : o + m ≤ n) : Row w b (off + o) m (fun j => f (o + j)) := fun j hj => by
  rw [Nat.add_assoc]; exact h (o + j) (by omega)
theorem Row.cat {m : Nat} (h : Row w b off n f) (h' : Row w b (off + n) m g) : Row w b off (n + m) (fun j => if j < n then f j else g (j - n)) := fun j hj => by
  simp only []
  split
  · rename_i e; exact h j e
  · rename_i e
    have := h' (j - n) (by omega)
    rw [show off + n + (j - n) = off + j by omega] at this
    exact this
theorem Row.arr (h : Row w b off n f) : (((List.range n).map f).toArray).size = n ∧ ∀ j, j < n → w.cell? ⟨b, off + j, none⟩ = ((List.range n).map f).toArray[j]? :=
  ⟨by simp, fun j hj => by rw [h j hj]; simp [hj]⟩
theorem stores_row : ∀ (l : List Value) (w : World) (off : Nat), (∀ j, j < l.length → (w.cell? ⟨b, off + j, none⟩).isSome = true) → Row (stores w b off l) b off l.length (fun j => l.getD j undef)
  | [], _, _, _ => fun j hj => by simp at hj
  | v :: l, w, off, h => fun j hj => by
    have ih := stores_row l (w.setCell ⟨b, off, none⟩ v) (off + 1) (fun i hi => by
      have := h (i + 1) (by simpa using hi)
      rw [show off + (i + 1) = off + 1 + i by omega] at this
      exact cell_isSome_setCell this)
    have keep : ∀ (l : List Value) (w : World) (o : Nat), off < o → (stores w b o l).cell? ⟨b, off, none⟩ = w.cell? ⟨b, off, none⟩ := by
      intro l
      induction l with
      | nil => intro w o _; rfl
      | cons u l ih => intro w o ho; simp only [stores]; rw [ih _ _ (by omega), World.cell?_setCell_other _ _ _ _ (by intro e2; injection e2; omega)]
    cases j with
    | zero =>
      simp only [stores, Nat.add_zero]
      rw [keep l _ _ (by omega)]
      have h0 := h 0 (by simp)
      rw [Nat.add_zero] at h0
      obtain ⟨u, hu⟩ := Option.isSome_iff_exists.1 h0
      rw [World.cell?_setCell_same w _ v hu]
      simp
    | succ j =>
      have := ih j (by simpa using hj)
      simp only [stores]
      rw [show off + (j + 1) = off + 1 + j by omega, this]
      simp
theorem Ext.stores (l : List Value) : ∀ {w' : World} (off : Nat), Ext S w w' → (b < w.heap.size → S b) → Ext S w (Ytdbjhhnphbnnlaa.stores w' b off l) := by
  induction l with
  | nil => intro w' off h _; exact h
  | cons v l ih => intro w' off h hb; exact ih _ (h.set _ _ hb) hb
theorem stores_free (l : List Value) (b' : Nat) : ∀ (w : World) (off : Nat), Free w b' → Free (stores w b off l) b' := by
  induction l with
  | nil => intro w off h; exact h
  | cons v l ih => intro w off h; exact ih _ _ (h.set _ _)
theorem stores_size (l : List Value) : ∀ (w : World) (off : Nat), (stores w b off l).heap.size = w.heap.size := by
  induction l with
  | nil => intro w off; rfl
  | cons v l ih => intro w off; simp only [stores]; rw [ih, World.size_setCell]
theorem stores_other (l : List Value) (k : Nat) (hk : k ≠ b) : ∀ (w : World) (off : Nat), (stores w b off l).heap[k]? = w.heap[k]? := by
  induction l with
  | nil => intro w off; rfl
  | cons v l ih => intro w off; simp only [stores]; rw [ih, heap_setCell_other _ _ _ _ hk]
theorem Row.stores (h : Row w b off n f) (l : List Value) (b' off' : Nat) (hne : b' ≠ b) : Row (Ytdbjhhnphbnnlaa.stores w b' off' l) b off n f := fun j hj => by
  rw [cell_blk (stores_other l b (fun e => hne e.symm) w off')]; exact h j hj
end
end Go.Proofs.Ytdbjhhnphbnnlaa
