/- The law KeccakPieces, walked. -/
import Derived.Test.YtdbjhhnphbnnlaaK9
namespace Go.Proofs.Ytdbjhhnphbnnlaa
open Go Go.RowKit

theorem in22 : ∃ i, Try.prog.info? 22 = some i ∧ i.zero = some (.slice none 0 0) ∧ i.size = 1 := by
  have h : (Try.prog.info? 22).map (fun i => (i.zero, i.size)) = some (some (.slice none 0 0), 1) := by kernel_rfl
  cases hq : Try.prog.info? 22 with
  | none => simp [hq] at h
  | some i => simp [hq] at h; exact ⟨i, rfl, h.1, h.2⟩
theorem el40 : Try.prog.underlying 40 = some (.slice 22) := by kernel_rfl
theorem buildS (a : Option Addr) (n c : Nat) (w : World) : (Instr.buildSlice 40 1 #[(0, .slice a n c)]).run Try.prog w = .ok (.slice (some ⟨w.heap.size, 0, none⟩) 1 1) (w.alloc (.cells #[.slice a n c] 22)) := by
  obtain ⟨i, hi, hz, hs⟩ := in22
  simp [Instr.buildSlice, run_underlying el40, sizeOf, typeInfo, zeroValue, hi, hz, hs, newRow, Instr.fill, Value.cells, show Array.range 1 = #[0] by decide]
theorem one_part (u : Value) (l : Bs) (B : Nat) (w : World) (hu : BytesAt w B u l) (hB : B ≤ w.heap.size) : PartsAt (w.alloc (.cells #[u] 22)) (w.alloc (.cells #[u] 22)).heap.size (.slice (some ⟨w.heap.size, 0, none⟩) 1 1) [l] := by
  have hx := hu.ext ((Ext.refl (fun _ => False) w).alloc (.cells #[u] 22)) hB (fun _ h => h.elim)
  refine ⟨_, 1, rfl, .inr ⟨w.heap.size, 0, rfl, by rw [World.size_alloc]; omega, fun j hj => ⟨u, ?_, ?_⟩⟩⟩
  · simp only [World.cell?, heap_alloc_new]
    obtain rfl : j = 0 := by simpa using hj
    rfl
  · obtain rfl : j = 0 := by simpa using hj
    obtain ⟨base, cap, hv, h⟩ := hx
    refine ⟨base, cap, hv, h.imp id ?_⟩
    rintro ⟨b, off, hb, hlt, hc⟩
    exact ⟨b, off, hb, by rw [World.size_alloc]; omega, hc⟩

def lenV : Value → Nat
  | .slice _ n _ => n
  | _ => 0
theorem down_out (s : St) (i : Nat) : IntKind.u8.wrap (L (s (i / 8) >>> (8 * (i % 8)))) = Bt (outB s i) := down8 _
def od6 : Nat → List Nat := fun n => match n with | 11 => List.range 18 | 19 => List.range 14 | _ => []

section
variable (l : Bs) (base : Option Addr) (cap : Nat) (w : World)
def IP1 (tm : List Value) (wr : World) : Prop := ∃ (k : Nat) (a : Option Addr) (c : Nat), l.length + 1 + k ≤ 168 ∧ Ext (fun _ => False) w wr ∧ w.heap.size < wr.heap.size ∧ Row wr w.heap.size 0 25 (fun _ => zU) ∧ Free wr w.heap.size ∧
  Own wr (w.heap.size + 1) (.slice a (padded l 31 k).length c) (padded l 31 k) ∧ ∃ u : Nat → Value, tm = [.slice base l.length cap, u 1, u 2, .pointer (some ⟨w.heap.size, 0, none⟩), .slice a (padded l 31 k).length c, u 5, u 6, u 7, u 8, u 9, u 10, u 11, u 12, u 13, u 14, u 15, u 16, u 17, u 18, u 19, u 20, u 21, u 22, u 23, u 24, u 25, u 26, u 27, u 28, u 29, u 30, u 31, u 32, u 33, u 34, u 35, u 36, u 37, u 38, u 39, u 40, u 41, u 42, u 43, u 44, u 45, u 46, u 47, u 48, u 49, u 50, u 51, u 52, u 53, u 54, u 55, u 56, u 57, u 58, u 59, u 60, u 61, u 62, u 63, u 64, u 65, u 66, u 67, u 68, u 69, u 70, u 71, u 72, u 73, u 74, u 75, u 76, u 77, u 78, u 79, u 80]
def IP2 (C : Bs) (g m c : Nat) (tm : List Value) (wr : World) : Prop := ∃ i : Nat, i ≤ 168 ∧ Ext (fun _ => False) w wr ∧ w.heap.size < g ∧ g < wr.heap.size ∧ Row wr w.heap.size 0 25 (lu (pk C i)) ∧ Free wr w.heap.size ∧
  Row wr g 0 168 (lb fun j => C.getD j 0) ∧ ∃ u : Nat → Value, tm = [.slice base l.length cap, u 1, u 2, .pointer (some ⟨w.heap.size, 0, none⟩), .slice (some ⟨g, 0, none⟩) m c, .int .i64 (i : Int), u 6, u 7, u 8, u 9, u 10, u 11, u 12, u 13, u 14, u 15, u 16, u 17, u 18, u 19, u 20, u 21, u 22, u 23, u 24, u 25, u 26, u 27, u 28, u 29, u 30, u 31, u 32, u 33, u 34, u 35, u 36, u 37, u 38, u 39, u 40, u 41, u 42, u 43, u 44, u 45, u 46, u 47, u 48, u 49, u 50, u 51, u 52, u 53, u 54, u 55, u 56, u 57, u 58, u 59, u 60, u 61, u 62, u 63, u 64, u 65, u 66, u 67, u 68, u 69, u 70, u 71, u 72, u 73, u 74, u 75, u 76, u 77, u 78, u 79, u 80]
def IP3 (T : St) (g : Nat) (tm : List Value) (wr : World) : Prop := ∃ j : Nat, j ≤ 168 ∧ Ext (fun _ => False) w wr ∧ Row wr w.heap.size 0 25 (lu T) ∧ Row wr g 0 168 (lb fun j => outB T j) ∧ ∃ u : Nat → Value, tm = [.slice base l.length cap, u 1, u 2, .pointer (some ⟨w.heap.size, 0, none⟩), u 4, u 5, .slice (some ⟨g, 0, none⟩) 168 168, .int .i64 (j : Int), u 8, u 9, u 10, u 11, u 12, u 13, u 14, u 15, u 16, u 17, u 18, u 19, u 20, u 21, u 22, u 23, u 24, u 25, u 26, u 27, u 28, u 29, u 30, u 31, u 32, u 33, u 34, u 35, u 36, u 37, u 38, u 39, u 40, u 41, u 42, u 43, u 44, u 45, u 46, u 47, u 48, u 49, u 50, u 51, u 52, u 53, u 54, u 55, u 56, u 57, u 58, u 59, u 60, u 61, u 62, u 63, u 64, u 65, u 66, u 67, u 68, u 69, u 70, u 71, u 72, u 73, u 74, u 75, u 76, u 77, u 78, u 79, u 80]
end

set_option maxRecDepth 100000 in
set_option maxHeartbeats 1000000 in
theorem pieces_any (l0 : Bs) (base : Option Addr) (cap : Nat) (w : World) (hv0 : BytesAt w w.heap.size (.slice base l0.length cap) l0) (hcap : l0.length ≤ cap) (hmax : l0.length ≤ 9223372036854775807) :
    Calls Try.prog 6 #[.slice base l0.length cap] w fun e w' => e = .returned (.bool true) ∧ Ext (fun _ => False) w w' := by
  refine calls_run (args := [_]) agrees od6 200 Try.func6 rfl ?_
  by_cases hbig : 168 ≤ l0.length
  · refine ok_calcB rfl true (deT (by omega)) ?_
    refine ok_brT rfl rfl ?_
    obtain ⟨l, hl, hln⟩ : ∃ l : Bs, l = l0.take 167 ∧ l.length = 167 := ⟨_, rfl, by simp; omega⟩
    have hv : BytesAt w w.heap.size (.slice base l.length cap) l := by
      obtain ⟨b', c', hb, h⟩ := hv0
      injection hb with hb _ hc
      subst hb; subst hc
      refine ⟨base, cap, rfl, .inr ?_⟩
      obtain ⟨b, off, hb, hlt, hc⟩ := h.resolve_left (by omega)
      exact ⟨b, off, hb, hlt, fun j hj => by subst hl; rw [hc j (by omega)]; simp⟩
    refine ok_rawS rfl (Instr.sliceAt 22 (.slice base l0.length cap) none (some (.int .i64 167)) none) rfl (run_cut l.length l0.length cap base (by omega) 167 (by omega) w) ?_
    refine ok_new rfl ?_
    have e0 : Ext (fun _ => False) w (w.alloc (.cells (Array.replicate 25 zU) 33)) := (Ext.refl _ w).alloc _
    have z0 : (w.alloc (.cells (Array.replicate 25 zU) 33)).heap.size = w.heap.size + 1 := by rw [World.size_alloc]
    have r0 : Row (w.alloc (.cells (Array.replicate 25 zU) 33)) w.heap.size 0 25 (fun _ => zU) := Row.new w _ _ (fun _ => zU) 25 (fun j hj => by simp [hj])
    have q0 : Free (w.alloc (.cells (Array.replicate 25 zU) 33)) w.heap.size := Free.new w _ _
    generalize w.alloc (.cells (Array.replicate 25 zU) 33) = w0 at *
    have hv1 : BytesAt w0 w.heap.size (.slice base l.length cap) l := hv.ext e0 (Nat.le_refl _) (fun _ h => h.elim)
    obtain ⟨v1, w1, h1, o1, e1⟩ := begin_any _ l w.heap.size 31 22 w0 hv1 (by omega) (by omega)
    refine ok_rawS rfl (Instr.buildSlice 22 0 #[]) (by simp [execOp, Act.eval, act]) (build0 w0) ?_
    refine ok_rawS rfl (Builtin.append_ #[22, 22] 22 #[_, _]) (by simp [execOp, Act.eval, act, resolve, invoke, builtin]) h1 ?_
    obtain ⟨a1, c1, rfl⟩ := o1.is
    have s1 := e1.size
    obtain ⟨v2, w2, h2, o2, e2⟩ := push_any w0.heap.size _ l 31 22 w1 o1 (by omega) (by omega)
    refine ok_rawS rfl (Instr.buildSlice 22 1 #[(0, bv 31)]) (by simp [execOp, Act.eval, act]; rfl) (build1 31 w1) ?_
    refine ok_rawS rfl (Builtin.append_ #[22, 22] 22 #[_, _]) (by simp [execOp, Act.eval, act, resolve, invoke, builtin]) h2 ?_
    have o3 : Own w2 (w.heap.size + 1) v2 (padded l 31 0) := by unfold padded; rw [List.replicate_zero, List.append_nil, ← z0]; exact o2
    obtain ⟨a2, c2, rfl⟩ := o3.is
    have s2 := e2.size
    have e3 := e1.trans e2
    refine ok_loop rfl (IP1 l base cap w) (fun tm _ => 168 - lenV (tm.getD 4 undef)) ?_ ?_
    · exact ⟨0, a2, c2, by omega, e0.trans' e3 (fun k hk h => by omega), by omega, r0.ext e3 (by omega) (by omega), q0.ext e3 (by omega) (by omega), o3, fr_intro rfl⟩
    clear o3 o2 o1 h1 h2 e1 e2 e3 s1 s2 r0 q0 e0 z0 hv1
    rintro tm wr ⟨k, a, c, hk, he, hlt, hr, hq, ho, u, rfl⟩
    refine runK_sound (od := od6) agrees 200 _ _ (fun _ => False) _ ?_
    have hp := padded_length l 31 k
    by_cases hless : l.length + 1 + k < 168
    · refine ok_calcB rfl true (deT (by omega)) ?_
      refine ok_brT rfl rfl ?_
      obtain ⟨v4, w4, h4, o4, e4⟩ := push_any (w.heap.size + 1) _ _ 0 22 wr ho (by omega) (by omega)
      refine ok_rawS rfl (Instr.buildSlice 22 1 #[(0, bv 0)]) (by simp [execOp, Act.eval, act]; rfl) (build1 0 wr) ?_
      refine ok_rawS rfl (Builtin.append_ #[22, 22] 22 #[_, _]) (by simp [execOp, Act.eval, act, resolve, invoke, builtin]) h4 ?_
      rw [padded_succ] at o4
      obtain ⟨a4, c4, rfl⟩ := o4.is
      have s4 := e4.size
      have hp4 := padded_length l 31 (k + 1)
      exact ok_back rfl ⟨⟨k + 1, a4, c4, by omega, he.trans' e4 (fun k hk h => by omega), by omega, hr.ext e4 (by omega) (by omega), hq.ext e4 (by omega) (by omega), o4, fr_intro rfl⟩, by show 168 - (padded l 31 (k + 1)).length < 168 - (padded l 31 k).length; omega⟩
    refine ok_calcB rfl false (deF (by omega)) ?_
    refine ok_brF rfl rfl ?_
    obtain ⟨g, cp, h5, hg, hgl, rg, qg⟩ := ho.at (by omega)
    injection h5 with h5 _ h6
    subst h5; subst h6
    have hp8 : (padded l 31 k).length = 168 := by omega
    have hfed := fed_block 168 31 l k (by omega)
    generalize padded l 31 k = d at *
    generalize hm : d.length = m at *
    refine ok_idx rfl 167 (by omega) (by omega) ?_
    refine ok_ld rfl (rg 167 (by omega)) ?_
    refine ok_calc rfl _ (xorB _ 128) ?_
    refine ok_idx rfl 167 (by omega) (by omega) ?_
    refine ok_st rfl rfl (rg.is (by omega)) (qg _) ?_
    have he5 : Ext (fun _ => False) w (wr.setCell ⟨g, 0 + 167, none⟩ (.int .u8 (Bt (d.getD 167 0 ^^^ 128)))) := he.set _ _ (fun h => by have : g < w.heap.size := h; omega)
    have rg5 : Row (wr.setCell ⟨g, 0 + 167, none⟩ (.int .u8 (Bt (d.getD 167 0 ^^^ 128)))) g 0 168 (lb fun j => (last 168 d).getD j 0) := by
      have h := (rg.set (j := 167) (by omega) (.int .u8 (Bt (d.getD 167 0 ^^^ 128))))
      rw [hp8] at h
      refine h.congr fun j hj => ?_
      unfold upd lb
      show _ = Value.int .u8 (Bt ((last 168 d).getD j 0))
      rw [last_getD _ _ _ (by omega)]
      by_cases hj7 : j = 167
      · subst hj7; rfl
      · rw [if_neg hj7, if_neg (by omega)]
    have hr5 := hr.other ⟨g, 0 + 167, none⟩ (.int .u8 (Bt (d.getD 167 0 ^^^ 128))) (.inl (by dsimp only; omega))
    have hq5 := hq.set ⟨g, 0 + 167, none⟩ (.int .u8 (Bt (d.getD 167 0 ^^^ 128)))
    have hgl5 : g < (wr.setCell ⟨g, 0 + 167, none⟩ (.int .u8 (Bt (d.getD 167 0 ^^^ 128)))).heap.size := by rw [World.size_setCell]; exact hgl
    refine ok_loop rfl (IP2 l base cap w (last 168 d) g m c) (fun tm _ => 168 - (intOf (tm.getD 5 undef)).toNat) ?_ ?_
    · exact ⟨0, by omega, he5, by omega, hgl5, hr5, hq5, rg5, fr_intro rfl⟩
    generalize last 168 d = C at *
    clear rg rg5 hr5 hq5 he5 hgl5 qg ho hr hq he hgl hlt hg hp
    rintro tm wr ⟨i, hi, he, hg, hgl, hr, hq, rg, u, rfl⟩
    refine runK_sound (od := od6) agrees 200 _ _ (fun _ => False) _ ?_
    by_cases hlt : i < 168
    · refine ok_calcB rfl true (deT (by omega)) ?_
      refine ok_brT rfl rfl ?_
      refine ok_test rfl (by kernel_rfl) ?_
      refine ok_draw rfl (SameHeap wr) (SameHeap.refl _) ?_
      refine ok_test rfl (by decide) ?_
      refine ok_calc rfl _ (tdivl i 8 _ rfl (by omega)) ?_
      refine ok_test rfl (by decide) ?_
      refine ok_calc rfl _ (tdivl i 8 _ rfl (by omega)) ?_
      refine ok_idx rfl (i / 8) (by omega) (by omega) ?_
      refine ok_ldC rfl (fun w' hw' => (SameHeap.cell hw' _).trans (hr (i / 8) (by omega))) ?_
      refine ok_idx rfl i (by omega) (by omega) ?_
      refine ok_ldC rfl (fun w' hw' => (SameHeap.cell hw' _).trans (rg i (by omega))) ?_
      refine ok_calc rfl _ (up8 _) ?_
      refine ok_test rfl (by decide) ?_
      refine ok_calc rfl _ (tmodl i 8 _ rfl) ?_
      refine ok_calc rfl (((8 * (i % 8)) : Nat) : Int) (w64 (by omega)) ?_
      refine ok_test rfl (by omega) ?_
      refine ok_calc rfl _ (shlL _ _) ?_
      refine ok_calc rfl _ (xorL _ _) ?_
      refine ok_idx rfl (i / 8) (by omega) (by omega) ?_
      refine ok_st rfl rfl (hr.is (by omega)) (hq _) ?_
      refine ok_calc rfl (((i + 1) : Nat) : Int) (w64 (by omega)) ?_
      refine ok_back rfl ⟨⟨i + 1, by omega, he.drew.set _ _ (fun h => by have : w.heap.size < w.heap.size := h; omega), hg, by rw [World.size_setCell]; exact hgl, ?_, hq.drew.set _ _, rg.drew.other _ _ (.inl (by dsimp only; omega)), fr_intro rfl⟩, by show 168 - (i + 1) < 168 - i; omega⟩
      exact (hr.drew.set (j := i / 8) (by omega) _).congr fun j _ => upd_lu _ _ _ _
    obtain rfl : i = 168 := by omega
    refine ok_calcB rfl false (deF (by omega)) ?_
    refine ok_brF rfl rfl ?_
    refine ok_ldR (cs := rowA 25 (lu (pk C 168))) rfl (rowA_size _ _) (Row.ofA hr) ?_
    refine ok_call rfl (by kernel_rfl) (rounds_any (pk C 168) _) ?_
    rintro e w6 ⟨rfl, he6⟩
    refine ⟨_, rfl, ?_⟩
    rw [hfed]
    have s6 := he6.size
    have hr6 := hr.ext he6 (by omega) id
    have hq6 := hq.ext he6 (by omega) id
    refine ok_stR rfl (rowA_size _ _) (rowA_one _ _ fun _ => rfl) (fun j hj => ⟨hr6.is hj, hq6 _⟩) ?_
    have hr7 := rowA_stores w6 w.heap.size 0 25 (lu (fed 168 31 l)) (fun j hj => hr6.is hj)
    have he7 : Ext (fun _ => False) w (stores w6 w.heap.size 0 (rowA 25 (lu (fed 168 31 l))).toList) := (he.trans he6).stores _ _ (fun h => by omega)
    have z7 : (stores w6 w.heap.size 0 (rowA 25 (lu (fed 168 31 l))).toList).heap.size = w6.heap.size := stores_size _ _ _
    generalize stores w6 w.heap.size 0 (rowA 25 (lu (fed 168 31 l))).toList = w7 at *
    have hv7 := hv.ext he7 (Nat.le_refl _) (fun _ h => h.elim)
    have hpt := one_part _ l w.heap.size w7 hv7 (by omega)
    refine ok_rawS rfl (Instr.buildSlice 40 1 #[(0, .slice base l.length cap)]) (by simp [execOp, Act.eval, act]) (buildS _ _ _ w7) ?_
    have he8 := he7.alloc (.cells #[.slice base l.length cap] 22)
    have hr8 := hr7.alloc (by omega) (.cells #[.slice base l.length cap] 22)
    have z8 : (w7.alloc (.cells #[.slice base l.length cap] 22)).heap.size = w7.heap.size + 1 := by rw [World.size_alloc]
    generalize hw7 : w7.heap.size = n7 at *
    generalize w7.alloc (.cells #[.slice base l.length cap] 22) = w8 at *
    refine ok_call rfl (by kernel_rfl) (stream_any 168 (by decide) (by decide) [l] _ w8 hpt (by simp) (fun x hx => by
      have hxl : x = l := by simpa using hx
      rw [hxl]; omega)) ?_
    rintro e w9 ⟨rfl, he9, hrow, hz9⟩
    refine ⟨_, rfl, ?_⟩
    rw [List.flatten_cons, List.flatten_nil, List.append_nil] at hrow
    have s9 := he9.size
    have hr9 := hr8.ext he9 (by omega) id
    have hrow9 : Row w9 w8.heap.size 0 168 (lb fun j => outB (fed 168 31 l) j) := hrow.congr fun j hj => by
      unfold lb
      show Value.int .u8 (Bt ((streamB 168 l).getD j 0)) = _
      rw [show streamB 168 l = drip 168 168 (fed 168 31 l, 0) from rfl, drip_first _ _ _ _ hj hj]
    have heA := he8.trans he9
    refine ok_call rfl (by kernel_rfl) (lives_any w9) ?_
    rintro e wA ⟨rfl, hee⟩
    refine ⟨_, rfl, ?_⟩
    have hrA := hr9.ext hee (by omega) id
    have hrowA := hrow9.ext hee (by omega) id
    have heB := heA.trans hee
    refine ok_calcB rfl false rfl ?_
    refine ok_brF rfl rfl ?_
    refine ok_brF rfl rfl ?_
    refine ok_brF rfl rfl ?_
    refine ok_calcB rfl false (neF rfl) ?_
    refine ok_brF rfl rfl ?_
    refine ok_brF rfl rfl ?_
    refine ok_loop rfl (IP3 l base cap w (fed 168 31 l) w8.heap.size) (fun tm _ => 168 - (intOf (tm.getD 7 undef)).toNat) ?_ ?_
    · exact ⟨0, by omega, heB, hrA, hrowA, fr_intro rfl⟩
    generalize fed 168 31 l = T at *
    generalize w8.heap.size = G at *
    rintro tm wr ⟨j, hj, he, hr, hrow, u, rfl⟩
    refine runK_sound (od := od6) agrees 200 _ _ (fun _ => False) _ ?_
    by_cases hlt : j < 168
    · refine ok_calcB rfl true (deT (by omega)) ?_
      refine ok_brT rfl rfl ?_
      refine ok_test rfl (by kernel_rfl) ?_
      refine ok_draw rfl (SameHeap wr) (SameHeap.refl _) ?_
      refine ok_idx rfl j (by omega) (by omega) ?_
      refine ok_ldC rfl (fun w' hw' => (SameHeap.cell hw' _).trans (hrow j (by omega))) ?_
      refine ok_test rfl (by decide) ?_
      refine ok_calc rfl _ (tdivl j 8 _ rfl (by omega)) ?_
      refine ok_idx rfl (j / 8) (by omega) (by omega) ?_
      refine ok_ldC rfl (fun w' hw' => (SameHeap.cell hw' _).trans (hr (j / 8) (by omega))) ?_
      refine ok_test rfl (by decide) ?_
      refine ok_calc rfl _ (tmodl j 8 _ rfl) ?_
      refine ok_calc rfl (((8 * (j % 8)) : Nat) : Int) (w64 (by omega)) ?_
      refine ok_test rfl (by omega) ?_
      refine ok_calc rfl _ (shrL _ _) ?_
      refine ok_calc rfl _ (down_out _ _) ?_
      refine ok_calcB rfl false (neF rfl) ?_
      refine ok_brF rfl rfl ?_
      refine ok_calc rfl (((j + 1) : Nat) : Int) (w64 (by omega)) ?_
      exact ok_back rfl ⟨⟨j + 1, by omega, he.drew, hr.drew, hrow.drew, fr_intro rfl⟩, by show 168 - (j + 1) < 168 - j; omega⟩
    obtain rfl : j = 168 := by omega
    refine ok_calcB rfl false (deF (by omega)) ?_
    refine ok_brF rfl rfl ?_
    exact ok_finR rfl (fin1R rfl _ rfl ⟨rfl, he⟩)
  · refine ok_calcB rfl false (deF (by omega)) ?_
    refine ok_brF rfl rfl ?_
    have hv := hv0
    have hln : l0.length ≤ 167 := by omega
    revert hv hln
    generalize l0 = l
    intro hv hln
    refine ok_new rfl ?_
    have e0 : Ext (fun _ => False) w (w.alloc (.cells (Array.replicate 25 zU) 33)) := (Ext.refl _ w).alloc _
    have z0 : (w.alloc (.cells (Array.replicate 25 zU) 33)).heap.size = w.heap.size + 1 := by rw [World.size_alloc]
    have r0 : Row (w.alloc (.cells (Array.replicate 25 zU) 33)) w.heap.size 0 25 (fun _ => zU) := Row.new w _ _ (fun _ => zU) 25 (fun j hj => by simp [hj])
    have q0 : Free (w.alloc (.cells (Array.replicate 25 zU) 33)) w.heap.size := Free.new w _ _
    generalize w.alloc (.cells (Array.replicate 25 zU) 33) = w0 at *
    have hv1 : BytesAt w0 w.heap.size (.slice base l.length cap) l := hv.ext e0 (Nat.le_refl _) (fun _ h => h.elim)
    obtain ⟨v1, w1, h1, o1, e1⟩ := begin_any _ l w.heap.size 31 22 w0 hv1 (by omega) (by omega)
    refine ok_rawS rfl (Instr.buildSlice 22 0 #[]) (by simp [execOp, Act.eval, act]) (build0 w0) ?_
    refine ok_rawS rfl (Builtin.append_ #[22, 22] 22 #[_, _]) (by simp [execOp, Act.eval, act, resolve, invoke, builtin]) h1 ?_
    obtain ⟨a1, c1, rfl⟩ := o1.is
    have s1 := e1.size
    obtain ⟨v2, w2, h2, o2, e2⟩ := push_any w0.heap.size _ l 31 22 w1 o1 (by omega) (by omega)
    refine ok_rawS rfl (Instr.buildSlice 22 1 #[(0, bv 31)]) (by simp [execOp, Act.eval, act]; rfl) (build1 31 w1) ?_
    refine ok_rawS rfl (Builtin.append_ #[22, 22] 22 #[_, _]) (by simp [execOp, Act.eval, act, resolve, invoke, builtin]) h2 ?_
    have o3 : Own w2 (w.heap.size + 1) v2 (padded l 31 0) := by unfold padded; rw [List.replicate_zero, List.append_nil, ← z0]; exact o2
    obtain ⟨a2, c2, rfl⟩ := o3.is
    have s2 := e2.size
    have e3 := e1.trans e2
    refine ok_loop rfl (IP1 l base cap w) (fun tm _ => 168 - lenV (tm.getD 4 undef)) ?_ ?_
    · exact ⟨0, a2, c2, by omega, e0.trans' e3 (fun k hk h => by omega), by omega, r0.ext e3 (by omega) (by omega), q0.ext e3 (by omega) (by omega), o3, fr_intro rfl⟩
    clear o3 o2 o1 h1 h2 e1 e2 e3 s1 s2 r0 q0 e0 z0 hv1
    rintro tm wr ⟨k, a, c, hk, he, hlt, hr, hq, ho, u, rfl⟩
    refine runK_sound (od := od6) agrees 200 _ _ (fun _ => False) _ ?_
    have hp := padded_length l 31 k
    by_cases hless : l.length + 1 + k < 168
    · refine ok_calcB rfl true (deT (by omega)) ?_
      refine ok_brT rfl rfl ?_
      obtain ⟨v4, w4, h4, o4, e4⟩ := push_any (w.heap.size + 1) _ _ 0 22 wr ho (by omega) (by omega)
      refine ok_rawS rfl (Instr.buildSlice 22 1 #[(0, bv 0)]) (by simp [execOp, Act.eval, act]; rfl) (build1 0 wr) ?_
      refine ok_rawS rfl (Builtin.append_ #[22, 22] 22 #[_, _]) (by simp [execOp, Act.eval, act, resolve, invoke, builtin]) h4 ?_
      rw [padded_succ] at o4
      obtain ⟨a4, c4, rfl⟩ := o4.is
      have s4 := e4.size
      have hp4 := padded_length l 31 (k + 1)
      exact ok_back rfl ⟨⟨k + 1, a4, c4, by omega, he.trans' e4 (fun k hk h => by omega), by omega, hr.ext e4 (by omega) (by omega), hq.ext e4 (by omega) (by omega), o4, fr_intro rfl⟩, by show 168 - (padded l 31 (k + 1)).length < 168 - (padded l 31 k).length; omega⟩
    refine ok_calcB rfl false (deF (by omega)) ?_
    refine ok_brF rfl rfl ?_
    obtain ⟨g, cp, h5, hg, hgl, rg, qg⟩ := ho.at (by omega)
    injection h5 with h5 _ h6
    subst h5; subst h6
    have hp8 : (padded l 31 k).length = 168 := by omega
    have hfed := fed_block 168 31 l k (by omega)
    generalize padded l 31 k = d at *
    generalize hm : d.length = m at *
    refine ok_idx rfl 167 (by omega) (by omega) ?_
    refine ok_ld rfl (rg 167 (by omega)) ?_
    refine ok_calc rfl _ (xorB _ 128) ?_
    refine ok_idx rfl 167 (by omega) (by omega) ?_
    refine ok_st rfl rfl (rg.is (by omega)) (qg _) ?_
    have he5 : Ext (fun _ => False) w (wr.setCell ⟨g, 0 + 167, none⟩ (.int .u8 (Bt (d.getD 167 0 ^^^ 128)))) := he.set _ _ (fun h => by have : g < w.heap.size := h; omega)
    have rg5 : Row (wr.setCell ⟨g, 0 + 167, none⟩ (.int .u8 (Bt (d.getD 167 0 ^^^ 128)))) g 0 168 (lb fun j => (last 168 d).getD j 0) := by
      have h := (rg.set (j := 167) (by omega) (.int .u8 (Bt (d.getD 167 0 ^^^ 128))))
      rw [hp8] at h
      refine h.congr fun j hj => ?_
      unfold upd lb
      show _ = Value.int .u8 (Bt ((last 168 d).getD j 0))
      rw [last_getD _ _ _ (by omega)]
      by_cases hj7 : j = 167
      · subst hj7; rfl
      · rw [if_neg hj7, if_neg (by omega)]
    have hr5 := hr.other ⟨g, 0 + 167, none⟩ (.int .u8 (Bt (d.getD 167 0 ^^^ 128))) (.inl (by dsimp only; omega))
    have hq5 := hq.set ⟨g, 0 + 167, none⟩ (.int .u8 (Bt (d.getD 167 0 ^^^ 128)))
    have hgl5 : g < (wr.setCell ⟨g, 0 + 167, none⟩ (.int .u8 (Bt (d.getD 167 0 ^^^ 128)))).heap.size := by rw [World.size_setCell]; exact hgl
    refine ok_loop rfl (IP2 l base cap w (last 168 d) g m c) (fun tm _ => 168 - (intOf (tm.getD 5 undef)).toNat) ?_ ?_
    · exact ⟨0, by omega, he5, by omega, hgl5, hr5, hq5, rg5, fr_intro rfl⟩
    generalize last 168 d = C at *
    clear rg rg5 hr5 hq5 he5 hgl5 qg ho hr hq he hgl hlt hg hp
    rintro tm wr ⟨i, hi, he, hg, hgl, hr, hq, rg, u, rfl⟩
    refine runK_sound (od := od6) agrees 200 _ _ (fun _ => False) _ ?_
    by_cases hlt : i < 168
    · refine ok_calcB rfl true (deT (by omega)) ?_
      refine ok_brT rfl rfl ?_
      refine ok_test rfl (by kernel_rfl) ?_
      refine ok_draw rfl (SameHeap wr) (SameHeap.refl _) ?_
      refine ok_test rfl (by decide) ?_
      refine ok_calc rfl _ (tdivl i 8 _ rfl (by omega)) ?_
      refine ok_test rfl (by decide) ?_
      refine ok_calc rfl _ (tdivl i 8 _ rfl (by omega)) ?_
      refine ok_idx rfl (i / 8) (by omega) (by omega) ?_
      refine ok_ldC rfl (fun w' hw' => (SameHeap.cell hw' _).trans (hr (i / 8) (by omega))) ?_
      refine ok_idx rfl i (by omega) (by omega) ?_
      refine ok_ldC rfl (fun w' hw' => (SameHeap.cell hw' _).trans (rg i (by omega))) ?_
      refine ok_calc rfl _ (up8 _) ?_
      refine ok_test rfl (by decide) ?_
      refine ok_calc rfl _ (tmodl i 8 _ rfl) ?_
      refine ok_calc rfl (((8 * (i % 8)) : Nat) : Int) (w64 (by omega)) ?_
      refine ok_test rfl (by omega) ?_
      refine ok_calc rfl _ (shlL _ _) ?_
      refine ok_calc rfl _ (xorL _ _) ?_
      refine ok_idx rfl (i / 8) (by omega) (by omega) ?_
      refine ok_st rfl rfl (hr.is (by omega)) (hq _) ?_
      refine ok_calc rfl (((i + 1) : Nat) : Int) (w64 (by omega)) ?_
      refine ok_back rfl ⟨⟨i + 1, by omega, he.drew.set _ _ (fun h => by have : w.heap.size < w.heap.size := h; omega), hg, by rw [World.size_setCell]; exact hgl, ?_, hq.drew.set _ _, rg.drew.other _ _ (.inl (by dsimp only; omega)), fr_intro rfl⟩, by show 168 - (i + 1) < 168 - i; omega⟩
      exact (hr.drew.set (j := i / 8) (by omega) _).congr fun j _ => upd_lu _ _ _ _
    obtain rfl : i = 168 := by omega
    refine ok_calcB rfl false (deF (by omega)) ?_
    refine ok_brF rfl rfl ?_
    refine ok_ldR (cs := rowA 25 (lu (pk C 168))) rfl (rowA_size _ _) (Row.ofA hr) ?_
    refine ok_call rfl (by kernel_rfl) (rounds_any (pk C 168) _) ?_
    rintro e w6 ⟨rfl, he6⟩
    refine ⟨_, rfl, ?_⟩
    rw [hfed]
    have s6 := he6.size
    have hr6 := hr.ext he6 (by omega) id
    have hq6 := hq.ext he6 (by omega) id
    refine ok_stR rfl (rowA_size _ _) (rowA_one _ _ fun _ => rfl) (fun j hj => ⟨hr6.is hj, hq6 _⟩) ?_
    have hr7 := rowA_stores w6 w.heap.size 0 25 (lu (fed 168 31 l)) (fun j hj => hr6.is hj)
    have he7 : Ext (fun _ => False) w (stores w6 w.heap.size 0 (rowA 25 (lu (fed 168 31 l))).toList) := (he.trans he6).stores _ _ (fun h => by omega)
    have z7 : (stores w6 w.heap.size 0 (rowA 25 (lu (fed 168 31 l))).toList).heap.size = w6.heap.size := stores_size _ _ _
    generalize stores w6 w.heap.size 0 (rowA 25 (lu (fed 168 31 l))).toList = w7 at *
    have hv7 := hv.ext he7 (Nat.le_refl _) (fun _ h => h.elim)
    have hpt := one_part _ l w.heap.size w7 hv7 (by omega)
    refine ok_rawS rfl (Instr.buildSlice 40 1 #[(0, .slice base l.length cap)]) (by simp [execOp, Act.eval, act]) (buildS _ _ _ w7) ?_
    have he8 := he7.alloc (.cells #[.slice base l.length cap] 22)
    have hr8 := hr7.alloc (by omega) (.cells #[.slice base l.length cap] 22)
    have z8 : (w7.alloc (.cells #[.slice base l.length cap] 22)).heap.size = w7.heap.size + 1 := by rw [World.size_alloc]
    generalize hw7 : w7.heap.size = n7 at *
    generalize w7.alloc (.cells #[.slice base l.length cap] 22) = w8 at *
    refine ok_call rfl (by kernel_rfl) (stream_any 168 (by decide) (by decide) [l] _ w8 hpt (by simp) (fun x hx => by
      have hxl : x = l := by simpa using hx
      rw [hxl]; omega)) ?_
    rintro e w9 ⟨rfl, he9, hrow, hz9⟩
    refine ⟨_, rfl, ?_⟩
    rw [List.flatten_cons, List.flatten_nil, List.append_nil] at hrow
    have s9 := he9.size
    have hr9 := hr8.ext he9 (by omega) id
    have hrow9 : Row w9 w8.heap.size 0 168 (lb fun j => outB (fed 168 31 l) j) := hrow.congr fun j hj => by
      unfold lb
      show Value.int .u8 (Bt ((streamB 168 l).getD j 0)) = _
      rw [show streamB 168 l = drip 168 168 (fed 168 31 l, 0) from rfl, drip_first _ _ _ _ hj hj]
    have heA := he8.trans he9
    refine ok_call rfl (by kernel_rfl) (lives_any w9) ?_
    rintro e wA ⟨rfl, hee⟩
    refine ⟨_, rfl, ?_⟩
    have hrA := hr9.ext hee (by omega) id
    have hrowA := hrow9.ext hee (by omega) id
    have heB := heA.trans hee
    refine ok_calcB rfl false rfl ?_
    refine ok_brF rfl rfl ?_
    refine ok_brF rfl rfl ?_
    refine ok_brF rfl rfl ?_
    refine ok_calcB rfl false (neF rfl) ?_
    refine ok_brF rfl rfl ?_
    refine ok_brF rfl rfl ?_
    refine ok_loop rfl (IP3 l base cap w (fed 168 31 l) w8.heap.size) (fun tm _ => 168 - (intOf (tm.getD 7 undef)).toNat) ?_ ?_
    · exact ⟨0, by omega, heB, hrA, hrowA, fr_intro rfl⟩
    generalize fed 168 31 l = T at *
    generalize w8.heap.size = G at *
    rintro tm wr ⟨j, hj, he, hr, hrow, u, rfl⟩
    refine runK_sound (od := od6) agrees 200 _ _ (fun _ => False) _ ?_
    by_cases hlt : j < 168
    · refine ok_calcB rfl true (deT (by omega)) ?_
      refine ok_brT rfl rfl ?_
      refine ok_test rfl (by kernel_rfl) ?_
      refine ok_draw rfl (SameHeap wr) (SameHeap.refl _) ?_
      refine ok_idx rfl j (by omega) (by omega) ?_
      refine ok_ldC rfl (fun w' hw' => (SameHeap.cell hw' _).trans (hrow j (by omega))) ?_
      refine ok_test rfl (by decide) ?_
      refine ok_calc rfl _ (tdivl j 8 _ rfl (by omega)) ?_
      refine ok_idx rfl (j / 8) (by omega) (by omega) ?_
      refine ok_ldC rfl (fun w' hw' => (SameHeap.cell hw' _).trans (hr (j / 8) (by omega))) ?_
      refine ok_test rfl (by decide) ?_
      refine ok_calc rfl _ (tmodl j 8 _ rfl) ?_
      refine ok_calc rfl (((8 * (j % 8)) : Nat) : Int) (w64 (by omega)) ?_
      refine ok_test rfl (by omega) ?_
      refine ok_calc rfl _ (shrL _ _) ?_
      refine ok_calc rfl _ (down_out _ _) ?_
      refine ok_calcB rfl false (neF rfl) ?_
      refine ok_brF rfl rfl ?_
      refine ok_calc rfl (((j + 1) : Nat) : Int) (w64 (by omega)) ?_
      exact ok_back rfl ⟨⟨j + 1, by omega, he.drew, hr.drew, hrow.drew, fr_intro rfl⟩, by show 168 - (j + 1) < 168 - j; omega⟩
    obtain rfl : j = 168 := by omega
    refine ok_calcB rfl false (deF (by omega)) ?_
    refine ok_brF rfl rfl ?_
    exact ok_finR rfl (fin1R rfl _ rfl ⟨rfl, he⟩)
end Go.Proofs.Ytdbjhhnphbnnlaa
