/- The reference's Sum and Stream; strings of bytes; digests that are alike. -/
import Derived.Test.YtdbjhhnphbnnlaaK14
import Derived.Test.YtdbjhhnphbnnlaaKIn
import Derived.Laws.BytesArg
import Derived.Stop.BytesEq
namespace Go.Proofs.Ytdbjhhnphbnnlaa
open Go Go.RowKit

theorem Own.bytes {w : World} {B : Nat} {v : Value} {l : Bs} (h : Own w B v l) : BytesAt w w.heap.size v l := by
  rcases Nat.eq_zero_or_pos l.length with h0 | hp
  · obtain ⟨a, cap, rfl⟩ := h.is
    exact ⟨a, cap, rfl, .inl h0⟩
  · obtain ⟨g, cap, rfl, _, hg, hr, _⟩ := h.at hp
    refine ⟨_, cap, rfl, .inr ⟨g, 0, rfl, hg, fun j hj => ?_⟩⟩
    rw [hr j hj]
    unfold lb
    dsimp only
    rw [gd _ _ _ hj]

/-! ### Sum, Stream of the reference -/
section
variable (base : Option Addr) (cap : Nat) (l : Bs) (w : World)
def IS8 (g c : Nat) (tm : List Value) (wr : World) : Prop := ∃ j : Nat, j ≤ 32 ∧ Ext (fun _ => False) w wr ∧ w.heap.size + 1 < wr.heap.size ∧ w.heap.size + 1 < g ∧ Row wr w.heap.size 0 32 (fun _ => zB) ∧ Free wr w.heap.size ∧
  Row wr (w.heap.size + 1) 0 32 (fun k => if k < j then .int .u8 (Bt ((digest l).getD k 0)) else zB) ∧ Free wr (w.heap.size + 1) ∧ Row wr g 0 32 (lb fun k => (digest l).getD k 0) ∧
  ∃ u : Nat → Value, tm = [.slice base l.length cap, u 1, .pointer (some ⟨w.heap.size, 0, none⟩), .pointer (some ⟨w.heap.size + 1, 0, none⟩), .slice (some ⟨g, 0, none⟩) 32 c, .int .i64 (j : Int), u 6, u 7, u 8, u 9, u 10, u 11, u 12, u 13, u 14, u 15, u 16, u 17, u 18]
end

set_option maxRecDepth 100000 in
theorem refSum_any (v : Value) (l : Bs) (w : World) (hv : BytesAt w w.heap.size v l) (hl : l.length ≤ 17592186044416) :
    Calls Try.prog 8 #[v] w fun e w' => e = .returned (.agg (rowA 32 (lb fun j => (digest l).getD j 0))) ∧ Ext (fun _ => False) w w' := by
  obtain ⟨base, cap, rfl, hv'⟩ := hv
  have hv : BytesAt w w.heap.size (.slice base l.length cap) l := ⟨base, cap, rfl, hv'⟩
  refine calls_run (args := [_]) agrees od0 200 Try.func8 rfl ?_
  refine ok_new rfl ?_
  refine ok_newAt rfl (w.heap.size + 1) (by rw [World.size_alloc]) ?_
  have e0 : Ext (fun _ => False) w ((w.alloc (.cells (Array.replicate 32 zB) 23)).alloc (.cells (Array.replicate 32 zB) 23)) := ((Ext.refl _ w).alloc _).alloc _
  have z0 : ((w.alloc (.cells (Array.replicate 32 zB) 23)).alloc (.cells (Array.replicate 32 zB) 23)).heap.size = w.heap.size + 2 := by rw [World.size_alloc, World.size_alloc]
  have ra : Row ((w.alloc (.cells (Array.replicate 32 zB) 23)).alloc (.cells (Array.replicate 32 zB) 23)) w.heap.size 0 32 (fun _ => zB) := (Row.new w _ _ (fun _ => zB) 32 (fun j hj => by simp [hj])).alloc (by rw [World.size_alloc]; omega) _
  have qa : Free ((w.alloc (.cells (Array.replicate 32 zB) 23)).alloc (.cells (Array.replicate 32 zB) 23)) w.heap.size := (Free.new w _ _).alloc (by rw [World.size_alloc]; omega) _
  have rb : Row ((w.alloc (.cells (Array.replicate 32 zB) 23)).alloc (.cells (Array.replicate 32 zB) 23)) (w.heap.size + 1) 0 32 (fun _ => zB) := by
    have := Row.new (w.alloc (.cells (Array.replicate 32 zB) 23)) (Array.replicate 32 zB) 23 (fun _ => zB) 32 (fun j hj => by simp [hj])
    rw [World.size_alloc] at this; exact this
  have qb : Free ((w.alloc (.cells (Array.replicate 32 zB) 23)).alloc (.cells (Array.replicate 32 zB) 23)) (w.heap.size + 1) := by
    have := Free.new (w.alloc (.cells (Array.replicate 32 zB) 23)) (Array.replicate 32 zB) 23
    rw [World.size_alloc] at this; exact this
  generalize (w.alloc (.cells (Array.replicate 32 zB) 23)).alloc (.cells (Array.replicate 32 zB) 23) = w0 at *
  have hv0 : BytesAt w0 w0.heap.size (.slice base l.length cap) l := by
    obtain ⟨b', c', h1, h2⟩ := hv.ext e0 (Nat.le_refl _) (fun _ h => h.elim)
    exact ⟨b', c', h1, h2.imp id fun ⟨b, off, h3, h4, h5⟩ => ⟨b, off, h3, by omega, h5⟩⟩
  refine ok_call rfl (by kernel_rfl) (out_any 32 136 6 base cap l w0 hv0 (by decide) (by decide) (by decide) hl) ?_
  rintro e w1 ⟨v1, rfl, o1, e1⟩
  refine ⟨_, rfl, ?_⟩
  have hlen : (sponge 136 6 32 l).length = 32 := drip_length _ _ _
  obtain ⟨g, c, rfl, hg, hgl, rg, qg⟩ := o1.at (by omega)
  rw [hlen] at rg ⊢
  have s1 := e1.size
  refine ok_loop rfl (IS8 base cap l w g c) (fun tm _ => 32 - (intOf (tm.getD 5 undef)).toNat) ?_ ?_
  · exact ⟨0, by omega, e0.trans e1, by omega, by omega, ra.ext e1 (by omega) id, qa.ext e1 (by omega) id, (rb.ext e1 (by omega) id).congr fun j _ => by simp, qb.ext e1 (by omega) id, rg, fr_intro rfl⟩
  clear e0 z0 ra qa rb qb hv0 o1 e1 rg qg s1
  rintro tm wr ⟨j, hj, he, hsz, hg2, ra, qa, rb, qb, rg, u, rfl⟩
  refine runK_sound (od := od0) agrees 200 _ _ (fun _ => False) _ ?_
  by_cases hlt : j < 32
  · refine ok_calcB rfl true (deT (by omega)) ?_
    refine ok_brT rfl rfl ?_
    refine ok_idx rfl j (by omega) (by omega) ?_
    refine ok_ld rfl (rg j (by omega)) ?_
    refine ok_idx rfl j (by omega) (by omega) ?_
    refine ok_st rfl rfl (rb.is (by omega)) (qb _) ?_
    refine ok_calc rfl ((j + 1 : Nat) : Int) (w64 (by omega)) ?_
    refine ok_back rfl ⟨⟨j + 1, by omega, he.set _ _ (fun h => by have : w.heap.size + 1 < w.heap.size := h; omega), by rw [World.size_setCell]; exact hsz, hg2, ra.other _ _ (.inl (by dsimp only; omega)), qa.set _ _, ?_, qb.set _ _, rg.other _ _ (.inl (by dsimp only; omega)), fr_intro rfl⟩, by show 32 - (j + 1) < 32 - j; omega⟩
    refine (rb.set hlt _).congr fun k hk => ?_
    unfold upd lb
    dsimp only
    by_cases h1 : k = j
    · subst h1; rw [if_pos rfl, if_pos (by omega)]
    · rw [if_neg h1]
      by_cases h2 : k < j
      · rw [if_pos h2, if_pos (by omega)]
      · rw [if_neg h2, if_neg (by omega)]
  obtain rfl : j = 32 := by omega
  refine ok_calcB rfl false (deF (by omega)) ?_
  refine ok_brF rfl rfl ?_
  have rb2 : Row wr (w.heap.size + 1) 0 32 (lb fun k => (digest l).getD k 0) := rb.congr fun k hk => by rw [if_pos hk]; rfl
  refine ok_ldR (cs := rowA 32 (lb fun k => (digest l).getD k 0)) rfl (rowA_size _ _) (Row.ofA rb2) ?_
  refine ok_stR rfl (rowA_size _ _) (rowA_one _ _ fun _ => rfl) (fun j hj => ⟨ra.is hj, qa _⟩) ?_
  have ra2 := rowA_stores wr w.heap.size 0 32 (lb fun k => (digest l).getD k 0) (fun j hj => ra.is hj)
  exact ok_finR rfl (finC1 rfl rfl _ (run_loadVar_arr agrees (t := 23) rfl (rowA_size _ _) ra2.ofA) ⟨rfl, he.stores _ _ (fun h => by omega)⟩)

/-- What a stream of any length gives. -/
def streamZ (n : Int) (l : Bs) : Bs := if 1 ≤ n ∧ n ≤ 65536 then sponge 168 31 n.toNat l else []

theorem refStream_any (n : Int) (v : Value) (l : Bs) (w : World) (hv : BytesAt w w.heap.size v l) (hl : l.length ≤ 17592186044416) :
    Calls Try.prog 12 #[.int .i64 n, v] w fun e w' => ∃ x, e = .returned x ∧ BytesAt w' w'.heap.size x (streamZ n l) ∧ Ext (fun _ => False) w w' := by
  obtain ⟨base, cap, rfl, hv'⟩ := hv
  have hv : BytesAt w w.heap.size (.slice base l.length cap) l := ⟨base, cap, rfl, hv'⟩
  refine calls_run (args := [_, _]) agrees od0 200 Try.func12 rfl ?_
  by_cases h1 : n < 1
  · refine ok_calcB rfl true (deT h1) ?_
    refine ok_brT rfl rfl ?_
    refine ok_brT rfl rfl ?_
    refine ok_brT rfl rfl ?_
    refine ok_brT rfl rfl ?_
    refine ok_finR rfl (fin1R rfl _ rfl ⟨_, rfl, ⟨none, 0, ?_, .inl ?_⟩, Ext.refl _ w⟩) <;> unfold streamZ <;> rw [if_neg (by omega)] <;> rfl
  · refine ok_calcB rfl false (deF h1) ?_
    refine ok_brF rfl rfl ?_
    refine ok_brF rfl rfl ?_
    by_cases h2 : 65536 < n
    · refine ok_calcB rfl true (deT (by omega)) ?_
      refine ok_brF rfl rfl ?_
      refine ok_brT rfl rfl ?_
      refine ok_finR rfl (fin1R rfl _ rfl ⟨_, rfl, ⟨none, 0, ?_, .inl ?_⟩, Ext.refl _ w⟩) <;> unfold streamZ <;> rw [if_neg (by omega)] <;> rfl
    · obtain ⟨k, rfl⟩ : ∃ k : Nat, n = (k : Int) := ⟨n.toNat, by omega⟩
      refine ok_calcB rfl false (deF (by omega)) ?_
      refine ok_brF rfl rfl ?_
      refine ok_brF rfl rfl ?_
      refine ok_call rfl (by kernel_rfl) (out_any k 168 31 base cap l w hv (by omega) (by decide) (by decide) hl) ?_
      rintro e w1 ⟨v1, rfl, o1, e1⟩
      refine ⟨_, rfl, ?_⟩
      exact ok_finR rfl (fin1R rfl _ rfl ⟨_, rfl, (by unfold streamZ; rw [if_pos (by omega)]; exact o1.bytes), e1⟩)

/-- The program's stream, of any length. -/
theorem streamK_any (n : Int) (ls : List Bs) (v : Value) (w : World) (hv : PartsAt w w.heap.size v ls) (hlen : ls.length < 2 ^ 62) (hlens : ∀ l ∈ ls, l.length < 2 ^ 62) :
    Calls Try.prog 11 #[.int .i64 n, v] w fun e w' => ∃ a, e = .returned (.slice a (streamZ n ls.flatten).length (streamZ n ls.flatten).length) ∧ BytesAt w' w'.heap.size (.slice a (streamZ n ls.flatten).length (streamZ n ls.flatten).length) (streamZ n ls.flatten) ∧ Ext (fun _ => False) w w' := by
  by_cases h : 1 ≤ n ∧ n ≤ 65536
  · obtain ⟨k, rfl⟩ : ∃ k : Nat, n = (k : Int) := ⟨n.toNat, by omega⟩
    refine (stream_any k (by omega) (by omega) ls v w hv hlen hlens).mono ?_
    rintro e w' ⟨rfl, he, hr, hs⟩
    have hz : streamZ (k : Int) ls.flatten = streamB k ls.flatten := by unfold streamZ; rw [if_pos h]; rfl
    have hk : (streamB k ls.flatten).length = k := drip_length _ _ _
    rw [hz, hk]
    refine ⟨_, rfl, ⟨_, k, by rw [hk], .inr ⟨w.heap.size, 0, rfl, hs, fun j hj => ?_⟩⟩, he⟩
    rw [hr j (by omega)]
    unfold lb
    dsimp only
    rw [gd _ _ _ hj]
  · refine (stream_no n v w (by omega)).mono ?_
    rintro e w' ⟨rfl, rfl⟩
    have hz : streamZ n ls.flatten = [] := by unfold streamZ; rw [if_neg h]
    rw [hz]
    exact ⟨none, rfl, ⟨none, 0, rfl, .inl rfl⟩, Ext.refl _ _⟩

/-! ### Digests that are alike; strings -/
theorem rowA_cells (f : Nat → BitVec 8) (n : Nat) : rowA n (lb f) = (((List.range n).map fun j => UInt8.ofBitVec (f j)).map Extern.Stop.cell).toArray := by
  unfold rowA
  rw [List.map_map]
  congr 1

theorem same23 (f : Nat → BitVec 8) (x y : Operand) (w : World) :
    (do eqGuard .eql 23 x y (.agg (rowA 32 (lb f))) (.agg (rowA 32 (lb f))); binOp .eql 23 (.agg (rowA 32 (lb f))) (.agg (rowA 32 (lb f))) : Sem Value).run Try.prog w = .ok (.bool true) w := by
  have hg : Try.prog.eqGuardType Try.prog.depth 23 = false := by kernel_rfl
  have h1 : (eqGuard .eql 23 x y (.agg (rowA 32 (lb f))) (.agg (rowA 32 (lb f)))).run Try.prog w = .ok () w := by
    simp [eqGuard, run_program, hg]
  have hu : Try.prog.underlying 23 = some (.array 32 5) := by kernel_rfl
  have hb : Try.prog.underlying 5 = some (.int .u8) := by kernel_rfl
  obtain ⟨i, hi, hz, hs, hbb⟩ := in5
  have h2 := run_eql_bytes (P := Try.prog) w 23 5 32 hu hb (fun w => by simp [sizeOf, typeInfo, hi, hs]) ((List.range 32).map fun j => UInt8.ofBitVec (f j)) ((List.range 32).map fun j => UInt8.ofBitVec (f j)) (by simp) (by simp)
  rw [← rowA_cells] at h2
  rw [Sem.run_bind, h1]
  show (binOp .eql 23 _ _).run Try.prog w = _
  rw [h2, beq_self_eq_true]

def strB (l : Bs) : ByteArray := strOfNums (l.map Bt)

theorem run_str (v : Value) (l : Bs) (B : Nat) (w : World) (hv : BytesAt w B v l) : (convert 22 9 v).run Try.prog w = .ok (.string (strB l)) w := by
  obtain ⟨base, cap, rfl, h⟩ := hv
  have hb : Try.prog.underlying 5 = some (.int .u8) := by kernel_rfl
  have hd : Try.prog.underlying 9 = some .string := by kernel_rfl
  rcases Nat.eq_zero_or_pos l.length with h0 | hp
  · have hl : l = [] := List.length_eq_zero_iff.1 h0
    subst hl
    show (convert 22 9 (.slice base 0 cap)).run Try.prog w = _
    rw [run_convert_bytes_string w 22 9 5 base 0 cap el5 hb hd]
    cases base <;> simp [Conv.bytesToString, loadCells, loadCellsFrom, strB, strOfNums, ByteArray.empty, ByteArray.emptyWithCapacity] <;> rfl
  · obtain ⟨b, off, rfl, _, hc⟩ := h.resolve_left (by omega)
    exact run_convert_bytes_arg w 22 5 el5 hb b off l.length cap (l.map Bt) (by simp) (fun i hi => by
      rw [hc i hi, gd _ _ _ (by simpa using hi)]; simp) 9 hd

theorem same9 (s : ByteArray) (x y : Operand) (w : World) : (do eqGuard .eql 9 x y (.string s) (.string s); binOp .eql 9 (.string s) (.string s) : Sem Value).run Try.prog w = .ok (.bool true) w := by
  simp [eqGuard, binOp, Op.stringOp]
theorem diff9 (s : ByteArray) (x y : Operand) (w : World) : (do eqGuard .neq 9 x y (.string s) (.string s); binOp .neq 9 (.string s) (.string s) : Sem Value).run Try.prog w = .ok (.bool false) w := by
  simp [eqGuard, binOp, Op.stringOp]

/-! ### Two parts -/
theorem buildS2 (a a' : Option Addr) (n c n' c' : Nat) (w : World) : (Instr.buildSlice 40 2 #[(0, .slice a n c), (1, .slice a' n' c')]).run Try.prog w = .ok (.slice (some ⟨w.heap.size, 0, none⟩) 2 2) (w.alloc (.cells #[.slice a n c, .slice a' n' c'] 22)) := by
  obtain ⟨i, hi, hz, hs⟩ := in22
  simp [Instr.buildSlice, run_underlying el40, sizeOf, typeInfo, zeroValue, hi, hz, hs, newRow, Instr.fill, Value.cells, show Array.range 2 = #[0, 1] by decide]
theorem two_parts (u v : Value) (l m : Bs) (B : Nat) (w : World) (hu : BytesAt w B u l) (hv : BytesAt w B v m) (hB : B ≤ w.heap.size) : PartsAt (w.alloc (.cells #[u, v] 22)) (w.alloc (.cells #[u, v] 22)).heap.size (.slice (some ⟨w.heap.size, 0, none⟩) 2 2) [l, m] := by
  have up : ∀ {x : Value} {k : Bs}, BytesAt w B x k → BytesAt (w.alloc (.cells #[u, v] 22)) (w.alloc (.cells #[u, v] 22)).heap.size x k := fun {x k} hx => by
    obtain ⟨base, cap, hv, h⟩ := hx.ext ((Ext.refl (fun _ => False) w).alloc (.cells #[u, v] 22)) hB (fun _ h => h.elim)
    refine ⟨base, cap, hv, h.imp id ?_⟩
    rintro ⟨b, off, hb, hlt, hc⟩
    exact ⟨b, off, hb, by rw [World.size_alloc]; omega, hc⟩
  refine ⟨_, 2, rfl, .inr ⟨w.heap.size, 0, rfl, by rw [World.size_alloc]; omega, fun j hj => ?_⟩⟩
  have hj : j < 2 := hj
  obtain rfl | rfl : j = 0 ∨ j = 1 := by omega
  · exact ⟨u, by simp only [World.cell?, heap_alloc_new]; rfl, up hu⟩
  · exact ⟨v, by simp only [World.cell?, heap_alloc_new]; rfl, up hv⟩

end Go.Proofs.Ytdbjhhnphbnnlaa
