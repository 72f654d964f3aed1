/- The reference's Out, walked. -/
import Derived.Test.YtdbjhhnphbnnlaaK13
import Derived.Test.YtdbjhhnphbnnlaaK10
namespace Go.Proofs.Ytdbjhhnphbnnlaa
open Go Go.RowKit

theorem Own.mono {w : World} {B B' : Nat} {v : Value} {l : Bs} (h : Own w B v l) (hB : B' ≤ B) : Own w B' v l := by
  rcases h with h | ⟨g, cap, cur, h1, h2, h3⟩
  · exact .inl h
  · exact .inr ⟨g, cap, cur, h1, by omega, h3⟩
def od18 : Nat → List Nat := fun n => match n with | 13 => List.range 20 | _ => []

section
variable (n rate : Nat) (e : BitVec 8) (base : Option Addr) (cap : Nat) (l : Bs) (w : World)
def IU1 (m : Nat) (tm : List Value) (wr : World) : Prop := ∃ (k : Nat) (a : Option Addr) (c : Nat), k ≤ m ∧ Ext (fun _ => False) w wr ∧ Own wr w.heap.size (.slice a (padded l e k).length c) (padded l e k) ∧ ∃ u : Nat → Value, tm = [.int .i64 (n : Int), .int .i64 (rate : Int), .int .u8 (Bt e), .slice base l.length cap, u 4, u 5, u 6, u 7, u 8, .slice a (padded l e k).length c, u 10, u 11, u 12, u 13, u 14, u 15, u 16, u 17, u 18, u 19, u 20, u 21, u 22, u 23, u 24, u 25, u 26, u 27, u 28, u 29, u 30, u 31, u 32, u 33, u 34, u 35, u 36, u 37, u 38, u 39, u 40, u 41, u 42, u 43, u 44, u 45, u 46, u 47, u 48, u 49, u 50, u 51, u 52, u 53, u 54, u 55, u 56, u 57, u 58, u 59, u 60, u 61, u 62, u 63, u 64, u 65, u 66, u 67, u 68, u 69, u 70, u 71, u 72, u 73, u 74, u 75, u 76, u 77, u 78, u 79, u 80, u 81, u 82, u 83, u 84, u 85, u 86, u 87, u 88, u 89, u 90, u 91, u 92, u 93, u 94, u 95, u 96, u 97, u 98, u 99, u 100, u 101, u 102, u 103, u 104, u 105, u 106, u 107, u 108]
variable (g D c tb sb : Nat) (C : Bs)
def IU2 (q : Nat) (tm : List Value) (wr : World) : Prop := ∃ i : Nat, i ≤ q + 1 ∧ Ext (fun _ => False) w wr ∧ w.heap.size ≤ sb ∧ sb < wr.heap.size ∧ tb < wr.heap.size ∧ g < wr.heap.size ∧ sb ≠ g ∧ sb ≠ tb ∧ Row wr tb 0 49 tabF ∧ Row wr g 0 D (lb fun j => C.getD j 0) ∧ Row wr sb 0 25 (lu (blk rate C i)) ∧ Free wr sb ∧ ∃ u : Nat → Value, tm = [.int .i64 (n : Int), .int .i64 (rate : Int), .int .u8 (Bt e), .slice base l.length cap, u 4, u 5, u 6, u 7, u 8, .slice (some ⟨g, 0, none⟩) D c, .pointer (some ⟨tb, 0, none⟩), .pointer (some ⟨sb, 0, none⟩), .int .i64 ((i * rate : Nat) : Int), u 13, u 14, u 15, u 16, u 17, u 18, u 19, u 20, u 21, u 22, u 23, u 24, u 25, u 26, u 27, u 28, u 29, u 30, u 31, u 32, u 33, u 34, u 35, u 36, u 37, u 38, u 39, u 40, u 41, u 42, u 43, u 44, u 45, u 46, u 47, u 48, u 49, u 50, u 51, u 52, u 53, u 54, u 55, u 56, u 57, u 58, u 59, u 60, u 61, u 62, u 63, u 64, u 65, u 66, u 67, u 68, u 69, u 70, u 71, u 72, u 73, u 74, u 75, u 76, u 77, u 78, u 79, u 80, u 81, u 82, u 83, u 84, u 85, u 86, u 87, u 88, u 89, u 90, u 91, u 92, u 93, u 94, u 95, u 96, u 97, u 98, u 99, u 100, u 101, u 102, u 103, u 104, u 105, u 106, u 107, u 108]
def IU3 (i : Nat) (tm : List Value) (wr : World) : Prop := ∃ j : Nat, j ≤ rate ∧ Ext (fun _ => False) w wr ∧ w.heap.size ≤ sb ∧ sb < wr.heap.size ∧ tb < wr.heap.size ∧ g < wr.heap.size ∧ sb ≠ g ∧ sb ≠ tb ∧ Row wr tb 0 49 tabF ∧ Row wr g 0 D (lb fun j => C.getD j 0) ∧ Row wr sb 0 25 (lu (pkO (blk rate C i) C (i * rate) j)) ∧ Free wr sb ∧ ∃ u : Nat → Value, tm = [.int .i64 (n : Int), .int .i64 (rate : Int), .int .u8 (Bt e), .slice base l.length cap, u 4, u 5, u 6, u 7, u 8, .slice (some ⟨g, 0, none⟩) D c, .pointer (some ⟨tb, 0, none⟩), .pointer (some ⟨sb, 0, none⟩), .int .i64 ((i * rate : Nat) : Int), .int .i64 (j : Int), u 14, u 15, u 16, u 17, u 18, u 19, u 20, u 21, u 22, u 23, u 24, u 25, u 26, u 27, u 28, u 29, u 30, u 31, u 32, u 33, u 34, u 35, u 36, u 37, u 38, u 39, u 40, u 41, u 42, u 43, u 44, u 45, u 46, u 47, u 48, u 49, u 50, u 51, u 52, u 53, u 54, u 55, u 56, u 57, u 58, u 59, u 60, u 61, u 62, u 63, u 64, u 65, u 66, u 67, u 68, u 69, u 70, u 71, u 72, u 73, u 74, u 75, u 76, u 77, u 78, u 79, u 80, u 81, u 82, u 83, u 84, u 85, u 86, u 87, u 88, u 89, u 90, u 91, u 92, u 93, u 94, u 95, u 96, u 97, u 98, u 99, u 100, u 101, u 102, u 103, u 104, u 105, u 106, u 107, u 108]
variable (T : St)
def IU4 (tm : List Value) (wr : World) : Prop := ∃ (k : Nat) (s : St) (a : Option Addr) (c : Nat), k ≤ n ∧ Ext (fun _ => False) w wr ∧ w.heap.size ≤ sb ∧ sb < wr.heap.size ∧ tb < sb ∧ tb + 1 = sb ∧ Row wr tb 0 49 tabF ∧ Row wr sb 0 25 (lu s) ∧ Free wr sb ∧ Own wr (sb + 1) (.slice a k c) (drip rate k (T, 0)) ∧ (k = 0 → s = T) ∧ (0 < k → k < n → dst rate k (T, 0) = (s, rate)) ∧ ∃ u : Nat → Value, tm = [.int .i64 (n : Int), .int .i64 (rate : Int), .int .u8 (Bt e), .slice base l.length cap, u 4, u 5, u 6, u 7, u 8, u 9, .pointer (some ⟨tb, 0, none⟩), .pointer (some ⟨sb, 0, none⟩), u 12, u 13, .slice a k c, u 15, u 16, u 17, u 18, u 19, u 20, u 21, u 22, u 23, u 24, u 25, u 26, u 27, u 28, u 29, u 30, u 31, u 32, u 33, u 34, u 35, u 36, u 37, u 38, u 39, u 40, u 41, u 42, u 43, u 44, u 45, u 46, u 47, u 48, u 49, u 50, u 51, u 52, u 53, u 54, u 55, u 56, u 57, u 58, u 59, u 60, u 61, u 62, u 63, u 64, u 65, u 66, u 67, u 68, u 69, u 70, u 71, u 72, u 73, u 74, u 75, u 76, u 77, u 78, u 79, u 80, u 81, u 82, u 83, u 84, u 85, u 86, u 87, u 88, u 89, u 90, u 91, u 92, u 93, u 94, u 95, u 96, u 97, u 98, u 99, u 100, u 101, u 102, u 103, u 104, u 105, u 106, u 107, u 108]
def IU5 (k : Nat) (tm : List Value) (wr : World) : Prop := ∃ (i : Nat) (s : St) (a : Option Addr) (c : Nat), i ≤ rate ∧ k + i ≤ n ∧ Ext (fun _ => False) w wr ∧ w.heap.size ≤ sb ∧ sb < wr.heap.size ∧ tb < sb ∧ tb + 1 = sb ∧ Row wr tb 0 49 tabF ∧ Row wr sb 0 25 (lu s) ∧ Free wr sb ∧ Own wr (sb + 1) (.slice a (k + i) c) (drip rate (k + i) (T, 0)) ∧ (i < rate → dq rate (dst rate (k + i) (T, 0)) = (s, i)) ∧ (i = rate → dst rate (k + i) (T, 0) = (s, rate)) ∧ ∃ u : Nat → Value, tm = [.int .i64 (n : Int), .int .i64 (rate : Int), .int .u8 (Bt e), .slice base l.length cap, u 4, u 5, u 6, u 7, u 8, u 9, .pointer (some ⟨tb, 0, none⟩), .pointer (some ⟨sb, 0, none⟩), u 12, u 13, .slice a (k + i) c, .int .i64 (i : Int), u 16, u 17, u 18, u 19, u 20, u 21, u 22, u 23, u 24, u 25, u 26, u 27, u 28, u 29, u 30, u 31, u 32, u 33, u 34, u 35, u 36, u 37, u 38, u 39, u 40, u 41, u 42, u 43, u 44, u 45, u 46, u 47, u 48, u 49, u 50, u 51, u 52, u 53, u 54, u 55, u 56, u 57, u 58, u 59, u 60, u 61, u 62, u 63, u 64, u 65, u 66, u 67, u 68, u 69, u 70, u 71, u 72, u 73, u 74, u 75, u 76, u 77, u 78, u 79, u 80, u 81, u 82, u 83, u 84, u 85, u 86, u 87, u 88, u 89, u 90, u 91, u 92, u 93, u 94, u 95, u 96, u 97, u 98, u 99, u 100, u 101, u 102, u 103, u 104, u 105, u 106, u 107, u 108]
end
theorem mod_q (q rate x : Nat) (h : x < rate) : (q * rate + x) % rate = x := by rw [Nat.mul_comm, Nat.mul_add_mod]; exact Nat.mod_eq_of_lt h
theorem mod_q0 (q rate : Nat) : (q * rate + rate) % rate = 0 := by rw [← Nat.succ_mul]; exact Nat.mul_mod_left _ _

set_option maxRecDepth 100000 in
set_option maxHeartbeats 1000000 in
theorem out_any (n rate : Nat) (e : BitVec 8) (base : Option Addr) (cap : Nat) (l : Bs) (w : World) (hv : BytesAt w w.heap.size (.slice base l.length cap) l) (hn : n ≤ 65536) (hr0 : 0 < rate) (hr : rate ≤ 200) (hl : l.length ≤ 17592186044416) :
    Calls Try.prog 18 #[.int .i64 (n : Int), .int .i64 (rate : Int), .int .u8 (Bt e), .slice base l.length cap] w fun x w' => ∃ v, x = .returned v ∧ Own w' w.heap.size v (sponge rate e n l) ∧ Ext (fun _ => False) w w' := by
  obtain ⟨q, r, hlq, hrr⟩ : ∃ q r, l.length = q * rate + r ∧ r < rate := ⟨l.length / rate, l.length % rate, by rw [Nat.mul_comm]; exact (Nat.div_add_mod _ _).symm, Nat.mod_lt _ hr0⟩
  obtain ⟨m, hm⟩ : ∃ m, r + 1 + m = rate := ⟨rate - r - 1, by omega⟩
  have hqs : (q + 1) * rate = q * rate + rate := Nat.succ_mul q rate
  refine calls_run (args := [_, _, _, _]) agrees od18 200 Try.func18 rfl ?_
  obtain ⟨v1, w1, h1, o1, e1⟩ := begin_any _ l w.heap.size e 22 w hv (by omega) (by omega)
  refine ok_rawS rfl (Instr.buildSlice 22 0 #[]) (by simp [execOp, Act.eval, act]) (build0 w) ?_
  refine ok_rawS rfl (Builtin.append_ #[22, 22] 22 #[_, _]) (by simp [execOp, Act.eval, act, resolve, invoke, builtin]) h1 ?_
  obtain ⟨a1, c1, rfl⟩ := o1.is
  have s1 := e1.size
  obtain ⟨v2, w2, h2, o2, e2⟩ := push_any w.heap.size _ l e 22 w1 o1 (by omega) (by omega)
  refine ok_rawS rfl (Instr.buildSlice 22 1 #[(0, bv e)]) (by simp [execOp, Act.eval, act]; rfl) (build1 e w1) ?_
  refine ok_rawS rfl (Builtin.append_ #[22, 22] 22 #[_, _]) (by simp [execOp, Act.eval, act, resolve, invoke, builtin]) h2 ?_
  have o3 : Own w2 w.heap.size v2 (padded l e 0) := by unfold padded; rw [List.replicate_zero, List.append_nil]; exact o2
  obtain ⟨a2, c2, rfl⟩ := o3.is
  refine ok_loop rfl (IU1 n rate e base cap l w m) (fun tm _ => 18000000000000 - lenV (tm.getD 9 undef)) ?_ ?_
  · exact ⟨0, a2, c2, by omega, (Ext.refl (fun _ => False) w).trans' (e1.trans e2) (fun k hk h => by omega), o3, fr_intro rfl⟩
  clear o3 o2 o1 h1 h2 e1 e2 s1
  rintro tm wr ⟨k, a, c, hk, he, ho, u, rfl⟩
  refine runK_sound (od := od18) agrees 200 _ _ (fun _ => False) _ ?_
  have hp := padded_length l e k
  have hsz := he.size
  refine ok_test rfl (by omega) ?_
  refine ok_calc rfl _ (tmodl (padded l e k).length rate _ rfl) ?_
  by_cases hkm : k < m
  · refine ok_calcB rfl true (neT (by rw [hp, show l.length + 1 + k = q * rate + (r + 1 + k) by omega, mod_q _ _ _ (by omega)]; omega)) ?_
    refine ok_brT rfl rfl ?_
    obtain ⟨v4, w4, h4, o4, e4⟩ := push_any w.heap.size _ _ 0 22 wr ho (by omega) (by omega)
    refine ok_rawS rfl (Instr.buildSlice 22 1 #[(0, bv 0)]) (by simp [execOp, Act.eval, act]; rfl) (build1 0 wr) ?_
    refine ok_rawS rfl (Builtin.append_ #[22, 22] 22 #[_, _]) (by simp [execOp, Act.eval, act, resolve, invoke, builtin]) h4 ?_
    rw [padded_succ] at o4
    obtain ⟨a4, c4, rfl⟩ := o4.is
    have hp4 := padded_length l e (k + 1)
    exact ok_back rfl ⟨⟨k + 1, a4, c4, by omega, he.trans' e4 (fun k hk h => by omega), o4, fr_intro rfl⟩, by show 18000000000000 - (padded l e (k + 1)).length < 18000000000000 - (padded l e k).length; omega⟩
  obtain rfl : k = m := by omega
  refine ok_calcB rfl false (neF (by rw [hp, show l.length + 1 + k = q * rate + rate by omega, mod_q0]; rfl)) ?_
  refine ok_brF rfl rfl ?_
  obtain ⟨g, cp, h5, hg, hgl, rg, qg⟩ := ho.at (by omega)
  injection h5 with h5 _ h6
  subst h5; subst h6
  have hfed := fed_blocks rate e l q r k hlq hrr hm
  have hD : (padded l e k).length = (q + 1) * rate := by omega
  generalize padded l e k = d at *
  generalize hDD : d.length = D at *
  refine ok_calc rfl ((D - 1 : Nat) : Int) (w64 (by omega)) ?_
  refine ok_calc rfl ((D - 1 : Nat) : Int) (w64 (by omega)) ?_
  refine ok_idx rfl (D - 1) (by omega) (by omega) ?_
  refine ok_ld rfl (rg (D - 1) (by omega)) ?_
  refine ok_calc rfl _ (xorB _ 128) ?_
  refine ok_idx rfl (D - 1) (by omega) (by omega) ?_
  refine ok_st rfl rfl (rg.is (by omega)) (qg _) ?_
  have he5 : Ext (fun _ => False) w (wr.setCell ⟨g, 0 + (D - 1), none⟩ (.int .u8 (Bt (d.getD (D - 1) 0 ^^^ 128)))) := he.set _ _ (fun h => by have : g < w.heap.size := h; omega)
  have rg5 : Row (wr.setCell ⟨g, 0 + (D - 1), none⟩ (.int .u8 (Bt (d.getD (D - 1) 0 ^^^ 128)))) g 0 D (lb fun j => (last D d).getD j 0) := by
    refine (rg.set (j := D - 1) (by omega) _).congr fun j hj => ?_
    unfold upd lb
    show _ = Value.int .u8 (Bt ((last D d).getD j 0))
    rw [last_getD _ _ _ (by omega)]
    by_cases hj7 : j = D - 1
    · rw [if_pos hj7, if_pos hj7]
    · rw [if_neg hj7, if_neg hj7]
  have hgl5 : g < (wr.setCell ⟨g, 0 + (D - 1), none⟩ (.int .u8 (Bt (d.getD (D - 1) 0 ^^^ 128)))).heap.size := by rw [World.size_setCell]; exact hgl
  rw [← hD] at hfed
  generalize last D d = C at *
  generalize wr.setCell ⟨g, 0 + (D - 1), none⟩ (.int .u8 (Bt (d.getD (D - 1) 0 ^^^ 128))) = w5 at *
  refine ok_call rfl (by kernel_rfl) (refAll_any w5) ?_
  rintro x w6 ⟨rfl, he6⟩
  refine ⟨_, rfl, ?_⟩
  have s5 := he5.size
  have s6 := he6.size
  have rg6 := rg5.ext he6 hgl5 id
  have e06 := he5.trans he6
  obtain ⟨tb, htb⟩ : ∃ tb, w6.heap.size = tb := ⟨_, rfl⟩
  refine ok_newAt rfl tb htb ?_
  have e7 := e06.alloc (.cells (Array.replicate 25 zI ++ Array.replicate 24 zU) 53)
  have z7 : (w6.alloc (.cells (Array.replicate 25 zI ++ Array.replicate 24 zU) 53)).heap.size = tb + 1 := by rw [World.size_alloc, htb]
  have rg7 := rg6.alloc (by omega) (.cells (Array.replicate 25 zI ++ Array.replicate 24 zU) 53)
  have t7 : Row (w6.alloc (.cells (Array.replicate 25 zI ++ Array.replicate 24 zU) 53)) tb 0 49 zF := by
    rw [← htb]; exact Row.new w6 _ _ zF 49 (fun j hj => by have := zeros_get j hj; rwa [Nat.zero_add] at this)
  have f7 : Free (w6.alloc (.cells (Array.replicate 25 zI ++ Array.replicate 24 zU) 53)) tb := by rw [← htb]; exact Free.new w6 _ _
  generalize w6.alloc (.cells (Array.replicate 25 zI ++ Array.replicate 24 zU) 53) = w7 at *
  refine ok_stR rfl (rowA_size _ _) (rowA_one _ _ fun j => tabT_one _ _ _) (fun j hj => ⟨t7.is hj, f7 _⟩) ?_
  have t8 := rowA_stores w7 tb 0 49 tabF (fun j hj => t7.is hj)
  have rg8 := rg7.stores (rowA 49 tabF).toList tb 0 (by omega)
  have e8 : Ext (fun _ => False) w (stores w7 tb 0 (rowA 49 tabF).toList) := e7.stores _ _ (fun h => by omega)
  have z8 : (stores w7 tb 0 (rowA 49 tabF).toList).heap.size = tb + 1 := by rw [stores_size, z7]
  generalize stores w7 tb 0 (rowA 49 tabF).toList = w8 at *
  refine ok_newAt rfl (tb + 1) z8 ?_
  have e9 := e8.alloc (.cells (Array.replicate 25 zU) 33)
  have z9 : (w8.alloc (.cells (Array.replicate 25 zU) 33)).heap.size = tb + 2 := by rw [World.size_alloc, z8]
  have rg9 := rg8.alloc (by omega) (.cells (Array.replicate 25 zU) 33)
  have t9 := t8.alloc (by omega) (.cells (Array.replicate 25 zU) 33)
  have r9 : Row (w8.alloc (.cells (Array.replicate 25 zU) 33)) (tb + 1) 0 25 (fun _ => zU) := by rw [← z8]; exact Row.new w8 _ _ _ _ fun j hj => by simp [hj]
  have f9 : Free (w8.alloc (.cells (Array.replicate 25 zU) 33)) (tb + 1) := by rw [← z8]; exact Free.new w8 _ _
  generalize w8.alloc (.cells (Array.replicate 25 zU) 33) = w9 at *
  obtain ⟨sb, hsb⟩ : ∃ sb, tb + 1 = sb := ⟨_, rfl⟩
  rw [hsb] at r9 f9 ⊢
  refine ok_loop rfl (IU2 n rate e base cap l w g D c tb sb C q) (fun tm _ => D - (intOf (tm.getD 12 undef)).toNat) ?_ ?_
  · exact ⟨0, by omega, e9, by omega, by omega, by omega, by omega, by omega, by omega, t9, rg9, r9, f9, fr_intro (by rw [Nat.zero_mul]; rfl)⟩
  clear he ho hgl qg rg he5 rg5 hgl5 s5 s6 he6 rg6 e06 htb e7 z7 rg7 t7 f7 t8 rg8 e8 z8 e9 z9 rg9 t9 r9 f9
  rintro tm wr ⟨i, hi, he, hsl, hsw, htw, hgw, hsg, hst, ht, rg, rs, qs, u, rfl⟩
  refine runK_sound (od := od18) agrees 200 _ _ (fun _ => False) _ ?_
  by_cases hlt : i < q + 1
  · have him : i * rate + rate ≤ D := by rw [hD, ← Nat.succ_mul]; exact Nat.mul_le_mul_right _ hlt
    refine ok_calcB rfl true (deT (by omega)) ?_
    refine ok_brT rfl rfl ?_
    refine ok_loop rfl (IU3 n rate e base cap l w g D c tb sb C i) (fun tm _ => rate - (intOf (tm.getD 13 undef)).toNat) ?_ ?_
    · exact ⟨0, by omega, he, hsl, hsw, htw, hgw, hsg, hst, ht, rg, rs, qs, fr_intro rfl⟩
    clear he hsl hsw htw hgw hsg hst ht rg rs qs
    rintro tm wr ⟨j, hj, he, hsl, hsw, htw, hgw, hsg, hst, ht, rg, rs, qs, u, rfl⟩
    refine runK_sound (od := od18) agrees 200 _ _ (fun _ => False) _ ?_
    by_cases hjl : j < rate
    · refine ok_calcB rfl true (deT (by omega)) ?_
      refine ok_brT rfl rfl ?_
      refine ok_test rfl (by kernel_rfl) ?_
      refine ok_draw rfl (SameHeap wr) (SameHeap.refl _) ?_
      refine ok_test rfl (by decide) ?_
      refine ok_calc rfl _ (tdivl j 8 _ rfl (by omega)) ?_
      refine ok_test rfl (by decide) ?_
      refine ok_calc rfl _ (tdivl j 8 _ rfl (by omega)) ?_
      refine ok_idx rfl (j / 8) (by omega) (by omega) ?_
      refine ok_ldC rfl (fun w' hw' => (SameHeap.cell hw' _).trans (rs (j / 8) (by omega))) ?_
      refine ok_calc rfl ((((i * rate) + j) : Nat) : Int) (w64 (by omega)) ?_
      refine ok_idx rfl ((i * rate) + j) (by omega) (by omega) ?_
      refine ok_ldC rfl (fun w' hw' => (SameHeap.cell hw' _).trans (rg (i * rate + j) (by omega))) ?_
      refine ok_calc rfl _ (up8 _) ?_
      refine ok_test rfl (by decide) ?_
      refine ok_calc rfl _ (tmodl j 8 _ rfl) ?_
      refine ok_calc rfl (((8 * (j % 8)) : Nat) : Int) (w64 (by omega)) ?_
      refine ok_test rfl (by omega) ?_
      refine ok_calc rfl _ (shlL _ _) ?_
      refine ok_calc rfl _ (xorL _ _) ?_
      refine ok_idx rfl (j / 8) (by omega) (by omega) ?_
      refine ok_st rfl rfl (rs.is (by omega)) (qs _) ?_
      refine ok_calc rfl (((j + 1) : Nat) : Int) (w64 (by omega)) ?_
      refine ok_back rfl ⟨⟨j + 1, by omega, he.drew.set _ _ (fun h => by have : sb < w.heap.size := h; omega), hsl, by rw [World.size_setCell]; exact hsw, by rw [World.size_setCell]; exact htw, by rw [World.size_setCell]; exact hgw, hsg, hst, ht.drew.other _ _ (.inl (by dsimp only; omega)), rg.drew.other _ _ (.inl (by dsimp only; omega)), ?_, qs.drew.set _ _, fr_intro rfl⟩, by show rate - (j + 1) < rate - j; omega⟩
      exact (rs.drew.set (j := j / 8) (by omega) _).congr fun j _ => upd_lu _ _ _ _
    obtain rfl : j = rate := by omega
    refine ok_calcB rfl false (deF (by omega)) ?_
    refine ok_brF rfl rfl ?_
    refine ok_ldR (cs := rowA 25 (lu (pkO (blk j C i) C (i * j) j))) rfl (rowA_size _ _) (Row.ofA rs) ?_
    refine ok_call rfl (by kernel_rfl) (refRounds_any tb _ _ ht) ?_
    rintro x w3 ⟨rfl, he3⟩
    refine ⟨_, rfl, ?_⟩
    have s3 := he3.size
    have rs3 := rs.ext he3 (by omega) id
    have qs3 := qs.ext he3 (by omega) id
    refine ok_stR rfl (rowA_size _ _) (rowA_one _ _ fun _ => rfl) (fun k hk => ⟨rs3.is hk, qs3 _⟩) ?_
    have rs4 := rowA_stores w3 sb 0 25 (lu (blk j C (i + 1))) (fun k hk => rs3.is hk)
    have z4 : (stores w3 sb 0 (rowA 25 (lu (blk j C (i + 1)))).toList).heap.size = w3.heap.size := stores_size _ _ _
    have ij : (i + 1) * j = i * j + j := Nat.succ_mul i j
    refine ok_calc rfl (((i + 1) * j : Nat) : Int) (w64 (by omega)) ?_
    exact ok_back rfl ⟨⟨i + 1, by omega, (he.trans he3).stores _ _ (fun h => by omega), hsl, by show _ < (stores w3 sb 0 (rowA 25 (lu (blk j C (i + 1)))).toList).heap.size; omega, by show _ < (stores w3 sb 0 (rowA 25 (lu (blk j C (i + 1)))).toList).heap.size; omega, by show _ < (stores w3 sb 0 (rowA 25 (lu (blk j C (i + 1)))).toList).heap.size; omega, hsg, hst, (ht.ext he3 (by omega) id).stores _ _ _ (by omega), (rg.ext he3 (by omega) id).stores _ _ _ (by omega), rs4, stores_free _ _ _ _ qs3, fr_intro rfl⟩, by show D - (i + 1) * j < D - i * j; omega⟩
  obtain rfl : i = q + 1 := by omega
  refine ok_calcB rfl false (deF (by omega)) ?_
  refine ok_brF rfl rfl ?_
  rw [hfed] at rs
  obtain ⟨T, hT⟩ : ∃ T, fed rate e l = T := ⟨_, rfl⟩
  rw [hT] at rs
  refine ok_loop rfl (IU4 n rate e base cap l w tb sb T) (fun tm _ => n - lenV (tm.getD 14 undef)) ?_ ?_
  · exact ⟨0, T, none, 0, by omega, he, hsl, hsw, by omega, hsb, ht, rs, qs, .inl ⟨rfl, rfl⟩, fun _ => rfl, fun h => by omega, fr_intro rfl⟩
  clear he hsl hsw htw hgw hsg hst ht rg rs qs hfed
  rintro tm wr ⟨k, s, a, c, hk, he, hsl, hsw, htw, hst, ht, rs, qs, ho, hz, hd, u, rfl⟩
  refine runK_sound (od := od18) agrees 200 _ _ (fun _ => False) _ ?_
  by_cases hlt : k < n
  · refine ok_calcB rfl true (deT (by omega)) ?_
    refine ok_brT rfl rfl ?_
    by_cases h0 : 0 < k
    · refine ok_calcB rfl true (deT (by omega)) ?_
      refine ok_brT rfl rfl ?_
      refine ok_ldR (cs := rowA 25 (lu s)) rfl (rowA_size _ _) (Row.ofA rs) ?_
      refine ok_call rfl (by kernel_rfl) (refRounds_any tb _ _ ht) ?_
      rintro x w3 ⟨rfl, he3⟩
      refine ⟨_, rfl, ?_⟩
      have s3 := he3.size
      have rs3 := rs.ext he3 (by omega) id
      have qs3 := qs.ext he3 (by omega) id
      refine ok_stR rfl (rowA_size _ _) (rowA_one _ _ fun _ => rfl) (fun k hk => ⟨rs3.is hk, qs3 _⟩) ?_
      have rs4 := rowA_stores w3 sb 0 25 (lu (full s)) (fun k hk => rs3.is hk)
      have z4 : (stores w3 sb 0 (rowA 25 (lu (full s))).toList).heap.size = w3.heap.size := stores_size _ _ _
      have he4 : Ext (fun k => k = sb) wr (stores w3 sb 0 (rowA 25 (lu (full s))).toList) := (he3.mono fun _ h => h.elim).stores _ _ (fun h => rfl)
      refine ok_loop rfl (IU5 n rate e base cap l w tb sb T k) (fun tm _ => rate - (intOf (tm.getD 15 undef)).toNat) ?_ ?_
      · exact ⟨0, full s, a, c, by omega, by omega, he.trans' he4 (fun k hk h => by omega), hsl, by omega, by omega, hst, (ht.ext he3 (by omega) id).stores _ _ _ (by omega), rs4, stores_free _ _ _ _ qs3, ho.ext he4 (fun k hk _ h => by omega), fun _ => (by rw [Nat.add_zero, hd h0 hlt]; unfold dq; rw [if_pos rfl]), fun h => by omega, fr_intro rfl⟩
      clear he hsl hsw htw ht rs qs ho hz hd s3 rs3 qs3 rs4 z4 he4 he3
      rintro tm wr ⟨i, s, a, c, hi, hkn, he, hsl, hsw, htw, hst, ht, rs, qs, ho, hd, hd2, u, rfl⟩
      refine runK_sound (od := od18) agrees 200 _ _ (fun _ => False) _ ?_
      by_cases hir : i < rate
      · refine ok_calcB rfl true (deT (by omega)) ?_
        refine ok_brT rfl rfl ?_
        refine ok_brT rfl rfl ?_
        refine ok_brT rfl rfl ?_
        refine ok_brT rfl rfl ?_
        by_cases hin : k + i < n
        · refine ok_calcB rfl true (deT (by omega)) ?_
          refine ok_brT rfl rfl ?_
          refine ok_brT rfl rfl ?_
          refine ok_test rfl (by decide) ?_
          refine ok_calc rfl _ (tdivl i 8 _ rfl (by omega)) ?_
          refine ok_idx rfl (i / 8) (by omega) (by omega) ?_
          refine ok_ld rfl (rs (i / 8) (by omega)) ?_
          refine ok_test rfl (by decide) ?_
          refine ok_calc rfl _ (tmodl i 8 _ rfl) ?_
          refine ok_calc rfl ((8 * (i % 8) : Nat) : Int) (w64 (by omega)) ?_
          refine ok_test rfl (by omega) ?_
          refine ok_calc rfl _ (shrL _ _) ?_
          refine ok_calc rfl _ (down_out _ _) ?_
          obtain ⟨v4, w4, h4, o4, e4⟩ := push_any (sb + 1) _ _ (outB s i) 22 wr ho (by rw [drip_length]; omega) (by omega)
          refine ok_rawS rfl (Instr.buildSlice 22 1 #[(0, bv (outB s i))]) (by simp [execOp, Act.eval, act]; rfl) (build1 (outB s i) wr) ?_
          refine ok_rawS rfl (Builtin.append_ #[22, 22] 22 #[_, _]) (by simp [execOp, Act.eval, act, resolve, invoke, builtin]) h4 ?_
          have hob : outB s i = ob rate (dst rate (k + i) (T, 0)) := by unfold ob; rw [hd hir]
          rw [hob, ← drip_snoc] at o4
          obtain ⟨a4, c4, rfl⟩ := o4.is
          rw [drip_length] at o4 ⊢
          have s4 := e4.size
          have hn4 : dst rate (k + i + 1) (T, 0) = (s, i + 1) := by
            show dn rate (dst rate (k + i) (T, 0)) = _
            unfold dn; rw [hd hir]
          refine ok_calc rfl ((i + 1 : Nat) : Int) (w64 (by omega)) ?_
          exact ok_back rfl ⟨⟨i + 1, s, a4, c4, by omega, by omega, he.trans' e4 (fun k hk h => by omega), hsl, by omega, by omega, hst, ht.ext e4 (by omega) (by omega), rs.ext e4 (by omega) (by omega), qs.ext e4 (by omega) (by omega), o4, fun h => (by rw [← Nat.add_assoc, hn4]; unfold dq; rw [if_neg (by show ¬ i + 1 = rate; omega)]), fun h => (by rw [← Nat.add_assoc, hn4, h]), fr_intro rfl⟩, by show rate - (i + 1) < rate - i; omega⟩
        · refine ok_calcB rfl false (deF (by omega)) ?_
          refine ok_brT rfl rfl ?_
          refine ok_brF rfl rfl ?_
          exact ok_back rfl ⟨⟨k + i, s, a, c, by omega, he, hsl, hsw, htw, hst, ht, rs, qs, ho, fun h => by omega, fun h h' => by omega, fr_intro rfl⟩, by show n - (k + i) < n - k; omega⟩
      obtain rfl : i = rate := by omega
      refine ok_calcB rfl false (deF (by omega)) ?_
      refine ok_brF rfl rfl ?_
      refine ok_brF rfl rfl ?_
      refine ok_brF rfl rfl ?_
      refine ok_brF rfl rfl ?_
      refine ok_brF rfl rfl ?_
      refine ok_brF rfl rfl ?_
      exact ok_back rfl ⟨⟨k + i, s, a, c, by omega, he, hsl, hsw, htw, hst, ht, rs, qs, ho, fun h => by omega, fun h h' => hd2 rfl, fr_intro rfl⟩, by show n - (k + i) < n - k; omega⟩
    · have hk0 : k = 0 := by omega
      rw [hz hk0] at rs
      refine ok_calcB rfl false (deF (by omega)) ?_
      refine ok_brF rfl rfl ?_
      refine ok_loop rfl (IU5 n rate e base cap l w tb sb T k) (fun tm _ => rate - (intOf (tm.getD 15 undef)).toNat) ?_ ?_
      · exact ⟨0, T, a, c, by omega, by omega, he, hsl, hsw, htw, hst, ht, rs, qs, ho, fun _ => (by rw [hk0]; show dq rate (T, 0) = _; unfold dq; rw [if_neg (by show ¬ 0 = rate; omega)]), fun h => by omega, fr_intro rfl⟩
      clear he hsl hsw htw ht rs qs ho hz hd
      rintro tm wr ⟨i, s, a, c, hi, hkn, he, hsl, hsw, htw, hst, ht, rs, qs, ho, hd, hd2, u, rfl⟩
      refine runK_sound (od := od18) agrees 200 _ _ (fun _ => False) _ ?_
      by_cases hir : i < rate
      · refine ok_calcB rfl true (deT (by omega)) ?_
        refine ok_brT rfl rfl ?_
        refine ok_brT rfl rfl ?_
        refine ok_brT rfl rfl ?_
        refine ok_brT rfl rfl ?_
        by_cases hin : k + i < n
        · refine ok_calcB rfl true (deT (by omega)) ?_
          refine ok_brT rfl rfl ?_
          refine ok_brT rfl rfl ?_
          refine ok_test rfl (by decide) ?_
          refine ok_calc rfl _ (tdivl i 8 _ rfl (by omega)) ?_
          refine ok_idx rfl (i / 8) (by omega) (by omega) ?_
          refine ok_ld rfl (rs (i / 8) (by omega)) ?_
          refine ok_test rfl (by decide) ?_
          refine ok_calc rfl _ (tmodl i 8 _ rfl) ?_
          refine ok_calc rfl ((8 * (i % 8) : Nat) : Int) (w64 (by omega)) ?_
          refine ok_test rfl (by omega) ?_
          refine ok_calc rfl _ (shrL _ _) ?_
          refine ok_calc rfl _ (down_out _ _) ?_
          obtain ⟨v4, w4, h4, o4, e4⟩ := push_any (sb + 1) _ _ (outB s i) 22 wr ho (by rw [drip_length]; omega) (by omega)
          refine ok_rawS rfl (Instr.buildSlice 22 1 #[(0, bv (outB s i))]) (by simp [execOp, Act.eval, act]; rfl) (build1 (outB s i) wr) ?_
          refine ok_rawS rfl (Builtin.append_ #[22, 22] 22 #[_, _]) (by simp [execOp, Act.eval, act, resolve, invoke, builtin]) h4 ?_
          have hob : outB s i = ob rate (dst rate (k + i) (T, 0)) := by unfold ob; rw [hd hir]
          rw [hob, ← drip_snoc] at o4
          obtain ⟨a4, c4, rfl⟩ := o4.is
          rw [drip_length] at o4 ⊢
          have s4 := e4.size
          have hn4 : dst rate (k + i + 1) (T, 0) = (s, i + 1) := by
            show dn rate (dst rate (k + i) (T, 0)) = _
            unfold dn; rw [hd hir]
          refine ok_calc rfl ((i + 1 : Nat) : Int) (w64 (by omega)) ?_
          exact ok_back rfl ⟨⟨i + 1, s, a4, c4, by omega, by omega, he.trans' e4 (fun k hk h => by omega), hsl, by omega, by omega, hst, ht.ext e4 (by omega) (by omega), rs.ext e4 (by omega) (by omega), qs.ext e4 (by omega) (by omega), o4, fun h => (by rw [← Nat.add_assoc, hn4]; unfold dq; rw [if_neg (by show ¬ i + 1 = rate; omega)]), fun h => (by rw [← Nat.add_assoc, hn4, h]), fr_intro rfl⟩, by show rate - (i + 1) < rate - i; omega⟩
        · refine ok_calcB rfl false (deF (by omega)) ?_
          refine ok_brT rfl rfl ?_
          refine ok_brF rfl rfl ?_
          exact ok_back rfl ⟨⟨k + i, s, a, c, by omega, he, hsl, hsw, htw, hst, ht, rs, qs, ho, fun h => by omega, fun h h' => by omega, fr_intro rfl⟩, by show n - (k + i) < n - k; omega⟩
      obtain rfl : i = rate := by omega
      refine ok_calcB rfl false (deF (by omega)) ?_
      refine ok_brF rfl rfl ?_
      refine ok_brF rfl rfl ?_
      refine ok_brF rfl rfl ?_
      refine ok_brF rfl rfl ?_
      refine ok_brF rfl rfl ?_
      refine ok_brF rfl rfl ?_
      exact ok_back rfl ⟨⟨k + i, s, a, c, by omega, he, hsl, hsw, htw, hst, ht, rs, qs, ho, fun h => by omega, fun h h' => hd2 rfl, fr_intro rfl⟩, by show n - (k + i) < n - k; omega⟩
  obtain rfl : k = n := by omega
  refine ok_calcB rfl false (deF (by omega)) ?_
  refine ok_brF rfl rfl ?_
  exact ok_finR rfl (fin1R rfl _ rfl ⟨_, rfl, (by show Own _ _ _ (drip rate k (fed rate e l, 0)); rw [hT]; exact ho.mono (by omega)), he⟩)
end Go.Proofs.Ytdbjhhnphbnnlaa
