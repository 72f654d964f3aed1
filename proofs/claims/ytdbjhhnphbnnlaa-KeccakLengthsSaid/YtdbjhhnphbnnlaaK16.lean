/- The law KeccakSums, walked. -/
import Derived.Test.YtdbjhhnphbnnlaaK15
namespace Go.Proofs.Ytdbjhhnphbnnlaa
open Go Go.RowKit

def dgV (l : Bs) : Value := .agg (rowA 32 (lb fun j => (digest l).getD j 0))

theorem sum2_any (u v : Value) (l m : Bs) (B : Nat) (w : World) (hu : BytesAt w B u l) (hv : BytesAt w B v m) (hB : B ≤ w.heap.size) (h1 : l.length < 2 ^ 62) (h2 : m.length < 2 ^ 62) :
    Calls Try.prog 10 #[.slice (some ⟨w.heap.size, 0, none⟩) 2 2] (w.alloc (.cells #[u, v] 22)) fun e w' => e = .returned (dgV (l ++ m)) ∧ Ext (fun _ => False) (w.alloc (.cells #[u, v] 22)) w' := by
  have := sum_any [l, m] _ (w.alloc (.cells #[u, v] 22)) (two_parts u v l m B w hu hv hB) (by simp) (fun x hx => by
    simp at hx
    rcases hx with rfl | rfl <;> assumption)
  simpa [dgV] using this
theorem sum1_any (u : Value) (l : Bs) (B : Nat) (w : World) (hu : BytesAt w B u l) (hB : B ≤ w.heap.size) (h1 : l.length < 2 ^ 62) :
    Calls Try.prog 10 #[.slice (some ⟨w.heap.size, 0, none⟩) 1 1] (w.alloc (.cells #[u] 22)) fun e w' => e = .returned (dgV l) ∧ Ext (fun _ => False) (w.alloc (.cells #[u] 22)) w' := by
  have := sum_any [l] _ (w.alloc (.cells #[u] 22)) (one_part u l B w hu hB) (by simp) (fun x hx => by
    simp at hx
    subst hx; exact h1)
  simpa [dgV] using this
theorem BytesAt.up {w : World} {B B' : Nat} {v : Value} {l : Bs} (h : BytesAt w B v l) (hB : B ≤ B') : BytesAt w B' v l := by
  obtain ⟨b, c, h1, h2⟩ := h
  exact ⟨b, c, h1, h2.imp id fun ⟨b, o, h3, h4, h5⟩ => ⟨b, o, h3, by omega, h5⟩⟩

def od3 : Nat → List Nat := fun n => match n with | 3 => [0, 1, 2, 3, 6, 4, 5, 7, 8, 9, 11, 13, 17, 10, 12, 14, 15, 16, 18, 19, 20, 21, 22, 23, 24, 25, 26, 27] | _ => []

set_option maxRecDepth 100000 in
set_option maxHeartbeats 1000000 in
theorem sums_any (u v : Value) (l m : Bs) (w : World) (hu : BytesAt w w.heap.size u l) (hv : BytesAt w w.heap.size v m) (hl : l.length ≤ 1048576) (hm : m.length ≤ 1048576) :
    Calls Try.prog 3 #[u, v] w fun e w' => e = .returned (.bool true) ∧ Ext (fun _ => False) w w' := by
  obtain ⟨ba, ca, rfl, hu'⟩ := hu
  obtain ⟨bb, cb, rfl, hv'⟩ := hv
  have hu : BytesAt w w.heap.size (.slice ba l.length ca) l := ⟨ba, ca, rfl, hu'⟩
  have hv : BytesAt w w.heap.size (.slice bb m.length cb) m := ⟨bb, cb, rfl, hv'⟩
  clear hu' hv'
  refine calls_run (args := [_, _]) agrees od3 200 Try.func3 rfl ?_
  obtain ⟨v1, w1, h1, o1, e1⟩ := begin_any _ l w.heap.size 0 22 w hu (by omega) (by omega)
  refine ok_rawS rfl (Instr.buildSlice 22 0 #[]) (by simp [execOp, Act.eval, act]) (build0 w) ?_
  refine ok_rawS rfl (Builtin.append_ #[22, 22] 22 #[_, _]) (by simp [execOp, Act.eval, act, resolve, invoke, builtin]) h1 ?_
  obtain ⟨a1, c1, rfl⟩ := o1.is
  have s1 := e1.size
  have u1 := hu.ext e1 (by omega) (fun k h => h)
  have v1 := hv.ext e1 (by omega) (fun k h => h)
  obtain ⟨v2, w2, h2, o2, e2⟩ := begin_any _ l w.heap.size 0 22 w1 u1 (by omega) (by omega)
  have s2 := e2.size
  refine ok_rawS rfl (Instr.buildSlice 22 0 #[]) (by simp [execOp, Act.eval, act]) (build0 w1) ?_
  refine ok_rawS rfl (Builtin.append_ #[22, 22] 22 #[_, _]) (by simp [execOp, Act.eval, act, resolve, invoke, builtin]) h2 ?_
  have u2 := u1.ext e2 (by omega) (fun k h => by omega)
  have v2' := v1.ext e2 (by omega) (fun k h => by omega)
  obtain ⟨v3, w3, h3, o3, e3⟩ := append_any w1.heap.size _ _ l m w.heap.size 22 w2 o2 v2' (by omega) (by omega)
  have s3 := e3.size
  obtain ⟨a2, c2, rfl⟩ := o2.is
  refine ok_rawS rfl (Builtin.append_ #[22, 22] 22 #[_, _]) (by simp [execOp, Act.eval, act, resolve, invoke, builtin]) h3 ?_
  have u3 := u2.ext e3 (by omega) (fun k h => by omega)
  have v3' := v2'.ext e3 (by omega) (fun k h => by omega)
  obtain ⟨a3, c3, rfl⟩ := o3.is
  refine ok_call rfl (by kernel_rfl) (refSum_any _ (l ++ m) w3 o3.bytes (by simp; omega)) ?_
  rintro e w4 ⟨rfl, e4⟩
  refine ⟨_, rfl, ?_⟩
  have s4 := e4.size
  have own4 := (((o1.bytes.ext e2 (by omega) (fun k h => h)).ext e3 (by omega) (fun k h => h)).ext e4 (by omega) (fun k h => h.elim))
  have u4 := u3.ext e4 (by omega) (fun k h => h.elim)
  have v4 := v3'.ext e4 (by omega) (fun k h => h.elim)
  have x4 : Ext (fun _ => False) w w4 := (((Ext.refl (fun _ => False) w).trans' (e1.trans' (S := fun k => w.heap.size ≤ k) (e2.trans e3) (fun k hk h => by omega)) (fun k hk h => by omega))).trans e4
  refine ok_newAt rfl w4.heap.size rfl ?_
  have e5 : Ext (fun _ => False) w4 (w4.alloc (.cells (Array.replicate 32 zB) 23)) := (Ext.refl _ w4).alloc _
  have z5 : (w4.alloc (.cells (Array.replicate 32 zB) 23)).heap.size = w4.heap.size + 1 := by rw [World.size_alloc]
  have r5 : Row (w4.alloc (.cells (Array.replicate 32 zB) 23)) w4.heap.size 0 32 (fun _ => zB) := Row.new w4 _ _ _ _ (fun j hj => by simp [hj])
  have q5 : Free (w4.alloc (.cells (Array.replicate 32 zB) 23)) w4.heap.size := Free.new w4 _ _
  generalize w4.alloc (.cells (Array.replicate 32 zB) 23) = w5 at *
  refine ok_stR rfl (rowA_size _ _) (rowA_one _ _ fun _ => rfl) (fun j hj => ⟨r5.is hj, q5 _⟩) ?_
  have r6 := rowA_stores w5 w4.heap.size 0 32 (lb fun j => (digest (l ++ m)).getD j 0) (fun j hj => r5.is hj)
  have e6 : Ext (fun _ => False) w4 (stores w5 w4.heap.size 0 (rowA 32 (lb fun j => (digest (l ++ m)).getD j 0)).toList) := e5.stores _ _ (fun h => by omega)
  have z6 : (stores w5 w4.heap.size 0 (rowA 32 (lb fun j => (digest (l ++ m)).getD j 0)).toList).heap.size = w4.heap.size + 1 := by rw [stores_size, z5]
  generalize stores w5 w4.heap.size 0 (rowA 32 (lb fun j => (digest (l ++ m)).getD j 0)).toList = w6 at *
  have own6 := (own4.ext e6 (by omega) (fun k h => h.elim)).up (B' := w6.heap.size) (by omega)
  have u6 := (u4.ext e6 (by omega) (fun k h => h.elim)).up (B' := w6.heap.size) (by omega)
  have v6 := (v4.ext e6 (by omega) (fun k h => h.elim)).up (B' := w6.heap.size) (by omega)
  have x6 := x4.trans e6
  generalize w4.heap.size = g at *
  clear e6 e5 r5 q5 z5 own4 u4 v4 x4 e4 s4 u3 v3' o3 e3 s3 h3 u2 v2' o2 e2 s2 h2 u1 v1 o1 e1 s1 h1 hu hv
  refine ok_test rfl (by kernel_rfl) ?_
  refine ok_draw rfl (Ext (fun _ => False) w6) (Ext.refl _ w6).drew ?_
  refine ok_call rfl (by kernel_rfl) (lives_any _) ?_
  rintro e w7 ⟨rfl, e7⟩
  refine ⟨_, rfl, ?_⟩
  have e7 : Ext (fun _ => False) w6 w7 := (Ext.refl _ w6).drew.trans e7
  have s7 := e7.size
  refine ok_chk rfl e7 ?_
  have rowC : ∀ w', Ext (fun _ => False) w6 w' → ∀ j, j < 32 → w'.cell? ⟨g, 0 + j, none⟩ = (rowA 32 (lb fun j => (digest (l ++ m)).getD j 0))[j]? := fun w' hw' => Row.ofA (r6.ext hw' (by omega) id)
  refine ok_brT rfl rfl ?_
  refine ok_brT rfl rfl ?_
  refine ok_brT rfl rfl ?_
  refine ok_ldRC (cs := rowA 32 (lb fun j => (digest (l ++ m)).getD j 0)) rfl (rowA_size _ _) rowC ?_
  refine ok_brT rfl rfl ?_
  refine ok_rawS rfl (Instr.buildSlice 40 2 #[(0, .slice a1 l.length c1), (1, .slice bb m.length cb)]) (by simp [execOp, Act.eval, act]) (buildS2 a1 bb l.length c1 m.length cb w7) ?_
  have e8 := e7.alloc (.cells #[.slice a1 l.length c1, .slice bb m.length cb] 22)
  have s8 : (w7.alloc (.cells #[.slice a1 l.length c1, .slice bb m.length cb] 22)).heap.size = w7.heap.size + 1 := by rw [World.size_alloc]
  refine ok_chk rfl e8 ?_
  refine ok_brT rfl rfl ?_
  refine ok_call rfl (by kernel_rfl) (sum2_any _ _ l m w6.heap.size w7 (own6.ext e7 (by omega) (fun k h => h.elim)) (v6.ext e7 (by omega) (fun k h => h.elim)) (by omega) (by omega) (by omega)) ?_
  rintro e w9 ⟨rfl, e9⟩
  refine ⟨_, rfl, ?_⟩
  have e9 := e8.trans e9
  have s9 := e9.size
  refine ok_chk rfl e9 ?_
  refine ok_brT rfl rfl ?_
  refine ok_valCS (v := .bool true) rfl _ rfl (fun w' hw' => same23 _ _ _ w') ?_
  refine ok_brT rfl rfl ?_
  refine ok_brT rfl rfl ?_
  refine ok_brT rfl rfl ?_
  refine ok_brT rfl rfl ?_
  refine ok_ldRC (cs := rowA 32 (lb fun j => (digest (l ++ m)).getD j 0)) rfl (rowA_size _ _) rowC ?_
  refine ok_brT rfl rfl ?_
  have u9 := (u6.ext e9 (by omega) (fun k h => h.elim)).up (B' := w9.heap.size) (by omega)
  have v9 := (v6.ext e9 (by omega) (fun k h => h.elim)).up (B' := w9.heap.size) (by omega)
  obtain ⟨x1, wa, ha, oa, ea⟩ := begin_any _ l w9.heap.size 0 22 w9 u9 (by omega) (by omega)
  obtain ⟨a4, c4, rfl⟩ := oa.is
  have sa := ea.size
  refine ok_rawS rfl (Instr.buildSlice 22 0 #[]) (by simp [execOp, Act.eval, act]) (build0 w9) ?_
  refine ok_chk rfl (e9.alloc _) ?_
  refine ok_brT rfl rfl ?_
  refine ok_rawS rfl (Builtin.append_ #[22, 22] 22 #[_, _]) (by simp [execOp, Act.eval, act, resolve, invoke, builtin]) ha ?_
  have xa := e9.trans' ea (fun k hk h => by omega)
  refine ok_chk rfl xa ?_
  refine ok_brT rfl rfl ?_
  obtain ⟨x2, wb, hb, ob, eb⟩ := append_any w9.heap.size _ _ l m w9.heap.size 22 wa oa (v9.ext ea (by omega) (fun k h => h)) (by omega) (by omega)
  obtain ⟨a5, c5, rfl⟩ := ob.is
  have sb := eb.size
  refine ok_rawS rfl (Builtin.append_ #[22, 22] 22 #[_, _]) (by simp [execOp, Act.eval, act, resolve, invoke, builtin]) hb ?_
  have xb := xa.trans' eb (fun k hk h => by omega)
  refine ok_chk rfl xb ?_
  refine ok_brT rfl rfl ?_
  refine ok_rawS rfl (Instr.buildSlice 40 1 #[(0, .slice a5 (l ++ m).length c5)]) (by simp [execOp, Act.eval, act]) (buildS _ _ _ wb) ?_
  have xc := xb.alloc (.cells #[.slice a5 (l ++ m).length c5] 22)
  refine ok_chk rfl xc ?_
  refine ok_brT rfl rfl ?_
  refine ok_call rfl (by kernel_rfl) (sum1_any _ (l ++ m) wb.heap.size wb ob.bytes (by omega) (by simp; omega)) ?_
  rintro e wd ⟨rfl, ed⟩
  refine ⟨_, rfl, ?_⟩
  have xd := xc.trans ed
  refine ok_chk rfl xd ?_
  refine ok_brT rfl rfl ?_
  refine ok_valCS (v := .bool true) rfl _ rfl (fun w' hw' => same23 _ _ _ w') ?_
  refine ok_brT rfl rfl ?_
  refine ok_brT rfl rfl ?_
  refine ok_brT rfl rfl ?_
  refine ok_valCS (v := .string (strB l)) rfl _ rfl (fun w' hw' => run_str _ l w6.heap.size w' (own6.ext hw' (by omega) (fun k h => h.elim))) ?_
  refine ok_brT rfl rfl ?_
  refine ok_brT rfl rfl ?_
  refine ok_valCS (v := .string (strB l)) rfl _ rfl (fun w' hw' => run_str _ l w6.heap.size w' (u6.ext hw' (by omega) (fun k h => h.elim))) ?_
  refine ok_brT rfl rfl ?_
  refine ok_valCS (v := .bool true) rfl _ rfl (fun w' hw' => same9 _ _ _ w') ?_
  refine ok_brT rfl rfl ?_
  exact ok_finR rfl (fin1R rfl _ rfl ⟨rfl, x6.trans xd⟩)

end Go.Proofs.Ytdbjhhnphbnnlaa
