/- The law KeccakStreams, walked. -/
import Derived.Test.YtdbjhhnphbnnlaaK16
namespace Go.Proofs.Ytdbjhhnphbnnlaa
open Go Go.RowKit

theorem streamK2_any (n : Int) (u v : Value) (l m : Bs) (B : Nat) (w : World) (hu : BytesAt w B u l) (hv : BytesAt w B v m) (hB : B ≤ w.heap.size) (h1 : l.length < 2 ^ 62) (h2 : m.length < 2 ^ 62) :
    Calls Try.prog 11 #[.int .i64 n, .slice (some ⟨w.heap.size, 0, none⟩) 2 2] (w.alloc (.cells #[u, v] 22)) fun e w' => ∃ a, e = .returned (.slice a (streamZ n (l ++ m)).length (streamZ n (l ++ m)).length) ∧
      BytesAt w' w'.heap.size (.slice a (streamZ n (l ++ m)).length (streamZ n (l ++ m)).length) (streamZ n (l ++ m)) ∧ Ext (fun _ => False) (w.alloc (.cells #[u, v] 22)) w' := by
  have := streamK_any n [l, m] _ (w.alloc (.cells #[u, v] 22)) (two_parts u v l m B w hu hv hB) (by simp) (fun x hx => by
    simp at hx
    rcases hx with rfl | rfl <;> assumption)
  simpa using this
theorem streamK1_any (n : Int) (u : Value) (l : Bs) (B : Nat) (w : World) (hu : BytesAt w B u l) (hB : B ≤ w.heap.size) (h1 : l.length < 2 ^ 62) :
    Calls Try.prog 11 #[.int .i64 n, .slice (some ⟨w.heap.size, 0, none⟩) 1 1] (w.alloc (.cells #[u] 22)) fun e w' => ∃ a, e = .returned (.slice a (streamZ n l).length (streamZ n l).length) ∧
      BytesAt w' w'.heap.size (.slice a (streamZ n l).length (streamZ n l).length) (streamZ n l) ∧ Ext (fun _ => False) (w.alloc (.cells #[u] 22)) w' := by
  have := streamK_any n [l] _ (w.alloc (.cells #[u] 22)) (one_part u l B w hu hB) (by simp) (fun x hx => by
    simp at hx
    subst hx; exact h1)
  simpa using this

theorem drip_take (rate : Nat) : ∀ (n k : Nat) (p : St × Nat), k ≤ n → (drip rate n p).take k = drip rate k p
  | _, 0, _, _ => rfl
  | 0, k + 1, _, h => by omega
  | n + 1, k + 1, p, h => by
    show (ob rate p :: drip rate n (dn rate p)).take (k + 1) = ob rate p :: drip rate k (dn rate p)
    rw [List.take_succ_cons, drip_take rate n k _ (by omega)]
theorem streamZ_take (n f : Int) (l : Bs) (h : (streamZ f l).length ≤ (streamZ n l).length) : (streamZ n l).take (streamZ f l).length = streamZ f l := by
  unfold streamZ at *
  by_cases h1 : 1 ≤ f ∧ f ≤ 65536
  · rw [if_pos h1] at h ⊢
    have hf : (sponge 168 31 f.toNat l).length = f.toNat := drip_length _ _ _
    by_cases h2 : 1 ≤ n ∧ n ≤ 65536
    · rw [if_pos h2] at h ⊢
      have hn : (sponge 168 31 n.toNat l).length = n.toNat := drip_length _ _ _
      rw [hf]
      exact drip_take _ _ _ _ (by omega)
    · rw [if_neg h2, hf] at h
      have : ([] : Bs).length = 0 := rfl
      omega
  · rw [if_neg h1]; rfl

theorem get_take {X Y : Bs} {k : Nat} (e : X.take k = Y) (j : Nat) (hj : j < Y.length) (hj' : j < X.length) : Y[j] = X[j] := by subst e; simp

def od4 : Nat → List Nat := fun n => match n with | 4 => List.range 20 | 6 => [0, 1, 2, 3, 4, 5, 6, 7, 8, 11, 12, 9, 10, 13, 14, 15] | _ => []

set_option maxRecDepth 100000 in
set_option maxHeartbeats 1000000 in
theorem streams_any (n f : Int) (u v : Value) (l m : Bs) (w : World) (hu : BytesAt w w.heap.size u l) (hv : BytesAt w w.heap.size v m) (hl : l.length ≤ 1048576) (hm : m.length ≤ 1048576) :
    Calls Try.prog 4 #[.int .i64 n, .int .i64 f, u, v] w fun e w' => e = .returned (.bool true) ∧ Ext (fun _ => False) w w' := by
  obtain ⟨ba, ca, rfl, hu'⟩ := hu
  obtain ⟨bb, cb, rfl, hv'⟩ := hv
  have hu : BytesAt w w.heap.size (.slice ba l.length ca) l := ⟨ba, ca, rfl, hu'⟩
  have hv : BytesAt w w.heap.size (.slice bb m.length cb) m := ⟨bb, cb, rfl, hv'⟩
  clear hu' hv'
  refine calls_run (args := [_, _, _, _]) agrees od4 200 Try.func4 rfl ?_
  refine ok_rawS rfl (Instr.buildSlice 40 2 #[(0, .slice ba l.length ca), (1, .slice bb m.length cb)]) (by simp [execOp, Act.eval, act]) (buildS2 ba bb l.length ca m.length cb w) ?_
  refine ok_call rfl (by kernel_rfl) (streamK2_any n _ _ l m w.heap.size w hu hv (by omega) (by omega) (by omega)) ?_
  rintro e w1 ⟨ax, rfl, hx, e1⟩
  refine ⟨_, rfl, ?_⟩
  have e1 : Ext (fun _ => False) w w1 := ((Ext.refl _ w).alloc _).trans e1
  have s1 := e1.size
  have u1 := (hu.ext e1 (by omega) (fun k h => h.elim)).up (B' := w1.heap.size) (by omega)
  have v1 := (hv.ext e1 (by omega) (fun k h => h.elim)).up (B' := w1.heap.size) (by omega)
  obtain ⟨y1, w2, h2, o2, e2⟩ := begin_any _ l w1.heap.size 0 22 w1 u1 (by omega) (by omega)
  obtain ⟨a2, c2, rfl⟩ := o2.is
  have s2 := e2.size
  refine ok_rawS rfl (Instr.buildSlice 22 0 #[]) (by simp [execOp, Act.eval, act]) (build0 w1) ?_
  refine ok_rawS rfl (Builtin.append_ #[22, 22] 22 #[_, _]) (by simp [execOp, Act.eval, act, resolve, invoke, builtin]) h2 ?_
  obtain ⟨y2, w3, h3, o3, e3⟩ := append_any w1.heap.size _ _ l m w1.heap.size 22 w2 o2 (v1.ext e2 (by omega) (fun k h => h)) (by omega) (by omega)
  obtain ⟨a3, c3, rfl⟩ := o3.is
  have s3 := e3.size
  refine ok_rawS rfl (Builtin.append_ #[22, 22] 22 #[_, _]) (by simp [execOp, Act.eval, act, resolve, invoke, builtin]) h3 ?_
  have x3 : Ext (fun _ => False) w1 w3 := (Ext.refl _ w1).trans' (e2.trans e3) (fun k hk h => by omega)
  refine ok_rawS rfl (Instr.buildSlice 40 1 #[(0, .slice a3 (l ++ m).length c3)]) (by simp [execOp, Act.eval, act]) (buildS _ _ _ w3) ?_
  have lm : (l ++ m).length ≤ 2097152 := by simp; omega
  refine ok_call rfl (by kernel_rfl) (streamK1_any f _ (l ++ m) w3.heap.size w3 o3.bytes (by omega) (by omega)) ?_
  rintro e w4 ⟨ay, rfl, hy, e4⟩
  refine ⟨_, rfl, ?_⟩
  have x4 := (x3.alloc _).trans e4
  have s4 := x4.size
  have u4 := (u1.ext x4 (by omega) (fun k h => h.elim)).up (B' := w4.heap.size) (by omega)
  have v4 := (v1.ext x4 (by omega) (fun k h => h.elim)).up (B' := w4.heap.size) (by omega)
  have hx4 := (hx.ext x4 (by omega) (fun k h => h.elim)).up (B' := w4.heap.size) (by omega)
  obtain ⟨y5, w5, h5, o5, e5⟩ := begin_any _ l w4.heap.size 0 22 w4 u4 (by omega) (by omega)
  obtain ⟨a5, c5, rfl⟩ := o5.is
  have s5 := e5.size
  refine ok_rawS rfl (Instr.buildSlice 22 0 #[]) (by simp [execOp, Act.eval, act]) (build0 w4) ?_
  refine ok_rawS rfl (Builtin.append_ #[22, 22] 22 #[_, _]) (by simp [execOp, Act.eval, act, resolve, invoke, builtin]) h5 ?_
  obtain ⟨y6, w6, h6, o6, e6⟩ := append_any w4.heap.size _ _ l m w4.heap.size 22 w5 o5 (v4.ext e5 (by omega) (fun k h => h)) (by omega) (by omega)
  obtain ⟨a6, c6, rfl⟩ := o6.is
  have s6 := e6.size
  refine ok_rawS rfl (Builtin.append_ #[22, 22] 22 #[_, _]) (by simp [execOp, Act.eval, act, resolve, invoke, builtin]) h6 ?_
  have x6 : Ext (fun _ => False) w4 w6 := (Ext.refl _ w4).trans' (e5.trans e6) (fun k hk h => by omega)
  have hx6 := (hx4.ext x6 (by omega) (fun k h => h.elim)).up (B' := w6.heap.size) (by omega)
  have hy6 := (hy.ext x6 (by omega) (fun k h => h.elim)).up (B' := w6.heap.size) (by omega)
  have ha6 := o6.bytes
  have xx6 := (e1.trans x4).trans x6
  have hcut := streamZ_take n f (l ++ m)
  clear o6 e6 h6 o5 e5 h5 o3 e3 h3 o2 e2 h2 u1 v1 u4 v4 hu hv hx hy hx4 e4 x3 x4 x6 e1
  generalize hX : streamZ n (l ++ m) = X at *
  generalize hY : streamZ f (l ++ m) = Y at *
  refine ok_test rfl (by kernel_rfl) ?_
  refine ok_draw rfl (Ext (fun _ => False) w6) (Ext.refl _ w6).drew ?_
  refine ok_call rfl (by kernel_rfl) (lives_any _) ?_
  rintro e w7 ⟨rfl, e7⟩
  refine ⟨_, rfl, ?_⟩
  have e7 : Ext (fun _ => False) w6 w7 := (Ext.refl _ w6).drew.trans e7
  have s7 := e7.size
  refine ok_chk rfl e7 ?_
  refine ok_calcB rfl false rfl ?_
  refine ok_brF rfl rfl ?_
  refine ok_brF rfl rfl ?_
  refine ok_valCS (v := .string (strB X)) rfl _ rfl (fun w' hw' => run_str _ X w6.heap.size w' (hx6.ext hw' (by omega) (fun k h => h.elim))) ?_
  refine ok_brF rfl rfl ?_
  refine ok_brF rfl rfl ?_
  refine ok_brF rfl rfl ?_
  refine ok_call rfl (by kernel_rfl) (refStream_any n _ (l ++ m) w7 ((ha6.ext e7 (by omega) (fun k h => h.elim)).up (by omega)) (by omega)) ?_
  rintro e w8 ⟨z8, rfl, hz8, e8⟩
  rw [hX] at hz8
  obtain ⟨bz8, cz8, rfl, hz8'⟩ := hz8
  have hz8 : BytesAt w8 w8.heap.size (.slice bz8 X.length cz8) X := ⟨_, _, rfl, hz8'⟩
  clear hz8'
  refine ⟨_, rfl, ?_⟩
  have x8 := e7.trans e8
  have s8 := e8.size
  refine ok_chkC rfl (Ext (fun _ => False) w8) (fun _ h => x8.trans h) (Ext.refl _ w8) ?_
  refine ok_brF rfl rfl ?_
  refine ok_valCS (v := .string (strB X)) rfl _ rfl (fun w' hw' => run_str _ X w8.heap.size w' (hz8.ext hw' (by omega) (fun k h => h.elim))) ?_
  refine ok_brF rfl rfl ?_
  refine ok_valCS (v := .bool false) rfl _ rfl (fun w' hw' => diff9 _ _ _ w') ?_
  refine ok_brF rfl rfl ?_
  refine ok_brF rfl rfl ?_
  refine ok_brF rfl rfl ?_
  refine ok_valCS (v := .string (strB Y)) rfl _ rfl (fun w' hw' => run_str _ Y w6.heap.size w' (hy6.ext (x8.trans hw') (by omega) (fun k h => h.elim))) ?_
  refine ok_brF rfl rfl ?_
  refine ok_brF rfl rfl ?_
  refine ok_brF rfl rfl ?_
  refine ok_call rfl (by kernel_rfl) (refStream_any f _ (l ++ m) w8 ((ha6.ext x8 (by omega) (fun k h => h.elim)).up (by omega)) (by omega)) ?_
  rintro e w9 ⟨z9, rfl, hz9, e9⟩
  rw [hY] at hz9
  obtain ⟨bz9, cz9, rfl, hz9'⟩ := hz9
  have hz9 : BytesAt w9 w9.heap.size (.slice bz9 Y.length cz9) Y := ⟨_, _, rfl, hz9'⟩
  clear hz9'
  refine ⟨_, rfl, ?_⟩
  refine ok_chkC rfl (Ext (fun _ => False) w9) (fun _ h => e9.trans h) (Ext.refl _ w9) ?_
  refine ok_brF rfl rfl ?_
  refine ok_valCS (v := .string (strB Y)) rfl _ rfl (fun w' hw' => run_str _ Y w9.heap.size w' (hz9.ext hw' (by omega) (fun k h => h.elim))) ?_
  refine ok_brF rfl rfl ?_
  refine ok_valCS (v := .bool false) rfl _ rfl (fun w' hw' => diff9 _ _ _ w') ?_
  refine ok_brF rfl rfl ?_
  refine ok_brF rfl rfl ?_
  have x9 := x8.trans e9
  have s9 := x9.size
  have hx9 := (hx6.ext x9 (by omega) (fun k h => h.elim)).up (B' := w9.heap.size) (by omega)
  have hy9 := (hy6.ext x9 (by omega) (fun k h => h.elim)).up (B' := w9.heap.size) (by omega)
  have xx9 := xx6.trans x9
  clear hz9 hz8 e9 e8 x8 e7 hx6 hy6 xx6 ha6
  refine ok_test rfl (by kernel_rfl) ?_
  refine ok_draw rfl (Ext (fun _ => False) w9) (Ext.refl _ w9).drew ?_
  have xd := xx9.drew
  by_cases hlt : X.length < Y.length
  · refine ok_calcB rfl true (deT (by omega)) ?_
    refine ok_brT rfl rfl ?_
    refine ok_brT rfl rfl ?_
    refine ok_brT rfl rfl ?_
    refine ok_brT rfl rfl ?_
    refine ok_brT rfl rfl ?_
    refine ok_brT rfl rfl ?_
    refine ok_chk rfl (Ext.refl _ w9).drew ?_
    refine ok_brT rfl rfl ?_
    refine ok_brT rfl rfl ?_
    refine ok_brT rfl rfl ?_
    exact ok_finR rfl (fin1R rfl _ rfl ⟨rfl, xd⟩)
  · refine ok_calcB rfl false (deF (by omega)) ?_
    refine ok_brF rfl rfl ?_
    refine ok_brF rfl rfl ?_
    refine ok_brF rfl rfl ?_
    refine ok_brF rfl rfl ?_
    refine ok_brF rfl rfl ?_
    refine ok_valCS (v := .string (strB Y)) rfl _ rfl (fun w' hw' => run_str _ Y w9.heap.size w' (hy9.ext hw' (by omega) (fun k h => h.elim))) ?_
    refine ok_brF rfl rfl ?_
    refine ok_rawS rfl (Instr.sliceAt 22 (.slice ax X.length X.length) none (some (.int .i64 (Y.length : Int))) none) rfl (run_cut Y.length X.length X.length ax (by omega) _ rfl _) ?_
    refine ok_chk rfl (Ext.refl _ w9).drew ?_
    refine ok_brF rfl rfl ?_
    have hcx : BytesAt w9 w9.heap.size (.slice ax Y.length X.length) Y := by
      obtain ⟨b', c', hb, h⟩ := hx9
      injection hb with hb _ hc
      subst hb; subst hc
      refine ⟨ax, X.length, rfl, ?_⟩
      rcases Nat.eq_zero_or_pos Y.length with h0 | hp
      · exact .inl h0
      · obtain ⟨b, off, hb, hlt', hc⟩ := h.resolve_left (by omega)
        refine .inr ⟨b, off, hb, hlt', fun j hj => ?_⟩
        rw [hc j (by omega)]
        have e := hcut (by omega)
        rw [get_take e j hj (by omega)]
    refine ok_valCS (v := .string (strB Y)) rfl _ rfl (fun w' hw' => run_str _ Y w9.heap.size w' (hcx.ext hw' (by omega) (fun k h => h.elim))) ?_
    refine ok_brF rfl rfl ?_
    refine ok_valCS (v := .bool true) rfl _ rfl (fun w' hw' => same9 _ _ _ w') ?_
    refine ok_brF rfl rfl ?_
    exact ok_finR rfl (fin1R rfl _ rfl ⟨rfl, xd⟩)

end Go.Proofs.Ytdbjhhnphbnnlaa
