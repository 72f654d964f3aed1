/- The program's sponge: bytes taken in, bytes let out; digests and streams. -/
import Derived.Test.YtdbjhhnphbnnlaaK3
namespace Go.Proofs.Ytdbjhhnphbnnlaa
open Go Go.RowKit

abbrev Bs := List (BitVec 8)
/-- A slice of bytes, in blocks below B. -/
def BytesAt (w : World) (B : Nat) (v : Value) (l : Bs) : Prop :=
  ∃ base cap, v = .slice base l.length cap ∧ (l.length = 0 ∨ ∃ b off, base = some ⟨b, off, none⟩ ∧ b < B ∧ ∀ j (h : j < l.length), w.cell? ⟨b, off + j, none⟩ = some (.int .u8 (Bt l[j])))
/-- A slice of slices of bytes. -/
def PartsAt (w : World) (B : Nat) (v : Value) (ls : List Bs) : Prop :=
  ∃ base cap, v = .slice base ls.length cap ∧ (ls.length = 0 ∨ ∃ b off, base = some ⟨b, off, none⟩ ∧ b < B ∧ ∀ j (h : j < ls.length), ∃ u, w.cell? ⟨b, off + j, none⟩ = some u ∧ BytesAt w B u ls[j])
theorem BytesAt.ext {S : Nat → Prop} {w w' : World} {B : Nat} {v : Value} {l : Bs} (h : BytesAt w B v l) (he : Ext S w w') (hB : B ≤ w.heap.size) (hs : ∀ k, S k → B ≤ k) : BytesAt w' B v l := by
  obtain ⟨base, cap, hv, h⟩ := h
  refine ⟨base, cap, hv, h.imp id ?_⟩
  rintro ⟨b, off, hb, hlt, hc⟩
  exact ⟨b, off, hb, hlt, fun j hj => by rw [cell_blk (he.block b (by omega) (fun h => by have := hs b h; omega))]; exact hc j hj⟩
theorem PartsAt.ext {S : Nat → Prop} {w w' : World} {B : Nat} {v : Value} {ls : List Bs} (h : PartsAt w B v ls) (he : Ext S w w') (hB : B ≤ w.heap.size) (hs : ∀ k, S k → B ≤ k) : PartsAt w' B v ls := by
  obtain ⟨base, cap, hv, h⟩ := h
  refine ⟨base, cap, hv, h.imp id ?_⟩
  rintro ⟨b, off, hb, hlt, hc⟩
  exact ⟨b, off, hb, hlt, fun j hj => by
    obtain ⟨u, hu, hu2⟩ := hc j hj
    exact ⟨u, by rw [cell_blk (he.block b (by omega) (fun h => by have := hs b h; omega))]; exact hu, hu2.ext he hB hs⟩⟩

theorem eat_lt {rate : Nat} {p : St × Nat} (b : BitVec 8) (h : p.2 < rate) : (eat rate p b).2 < rate := by
  unfold eat; split <;> simp <;> omega
theorem eats_lt {rate : Nat} : ∀ (l : Bs) (p : St × Nat), p.2 < rate → (eats rate p l).2 < rate
  | [], _, h => h
  | b :: l, p, h => eats_lt l _ (eat_lt b h)
theorem eats_snoc (rate : Nat) (p : St × Nat) (l : Bs) (b : BitVec 8) : eats rate p (l ++ [b]) = eat rate (eats rate p l) b := by simp [eats]

def od20 : Nat → List Nat := fun _ => List.range 9

section
variable (w : World) (g : Nat) (s : St) (rate : Nat) (e : BitVec 8) (ls : List Bs) (base : Option Addr) (cap : Nat)
def IK (tm : List Value) (wr : World) : Prop := ∃ i : Nat, i ≤ ls.length ∧ Ext (· = g) w wr ∧ Spg wr g (eats rate (s, 0) (ls.take i).flatten).1 rate (eats rate (s, 0) (ls.take i).flatten).2 ∧ ∃ u : Nat → Value, tm = [.pointer (some ⟨g, 0, none⟩), u 1, .int .u8 (Bt e), u 3, u 4, u 5, u 6, u 7, u 8, u 9, .slice base ls.length cap, .int .i64 (ls.length : Int), .int .i64 (i : Int), u 13, u 14, u 15, u 16, u 17, u 18, u 19, u 20, u 21, u 22, u 23, u 24, u 25, u 26, u 27, u 28, u 29, u 30, u 31, u 32, u 33, u 34, u 35, u 36, u 37, u 38, u 39, u 40, u 41, u 42, u 43, u 44, u 45, u 46, u 47, u 48, u 49, u 50, u 51, u 52, u 53, u 54, u 55, u 56, u 57, u 58, u 59, u 60, u 61, u 62, u 63, u 64]
def IL (i : Nat) (l : Bs) (lb : Option Addr) (lc : Nat) (tm : List Value) (wr : World) : Prop := ∃ j : Nat, j ≤ l.length ∧ Ext (· = g) w wr ∧
  Spg wr g (eats rate (s, 0) ((ls.take i).flatten ++ l.take j)).1 rate (eats rate (s, 0) ((ls.take i).flatten ++ l.take j)).2 ∧ ∃ u : Nat → Value, tm = [.pointer (some ⟨g, 0, none⟩), u 1, .int .u8 (Bt e), u 3, u 4, u 5, u 6, u 7, u 8, u 9, .slice base ls.length cap, .int .i64 (ls.length : Int), .int .i64 (i : Int), u 13, u 14, u 15, .slice lb l.length lc, .int .i64 (l.length : Int), .int .i64 (j : Int), u 19, u 20, u 21, u 22, u 23, u 24, u 25, u 26, u 27, u 28, u 29, u 30, u 31, u 32, u 33, u 34, u 35, u 36, u 37, u 38, u 39, u 40, u 41, u 42, u 43, u 44, u 45, u 46, u 47, u 48, u 49, u 50, u 51, u 52, u 53, u 54, u 55, u 56, u 57, u 58, u 59, u 60, u 61, u 62, u 63, u 64]
end

set_option maxRecDepth 100000 in
theorem take_any (g : Nat) (s : St) (rate : Nat) (e : BitVec 8) (ls : List Bs) (v : Value) (B : Nat) (w : World) (hg : Spg w g s rate 0) (hr : 0 < rate) (hr2 : rate ≤ 200) (hv : PartsAt w B v ls) (hB : B ≤ w.heap.size) (hgB : B ≤ g) (hlen : ls.length < 2 ^ 62) (hlens : ∀ l ∈ ls, l.length < 2 ^ 62) :
    Calls Try.prog 20 #[.pointer (some ⟨g, 0, none⟩), v, .int .u8 (Bt e)] w fun e' w' => e' = .returned (.tuple #[]) ∧ Ext (· = g) w w' ∧
      Spg w' g (full (addB (addB (eats rate (s, 0) ls.flatten).1 (eats rate (s, 0) ls.flatten).2 e) (rate - 1) 128)) rate 0 := by
  obtain ⟨base, cap, rfl, hc⟩ := hv
  refine calls_run (args := [_, _, _]) agrees od20 300 Try.func20 rfl ?_
  refine ok_loop rfl (IK w g s rate e ls base cap) (fun tm _ => ls.length - (intOf (tm.getD 12 undef)).toNat) ?_ ?_
  · exact ⟨0, by omega, Ext.refl _ w, hg, fr_intro rfl⟩
  rintro tm wr ⟨i, hi, he, hg, u, rfl⟩
  refine runK_sound (od := od20) agrees 300 _ _ (fun _ => False) _ ?_
  have hp := eats_lt (rate := rate) (ls.take i).flatten (s, 0) hr
  by_cases hlt : i < ls.length
  · refine ok_calcB rfl true (deT (by omega)) ?_
    refine ok_brT rfl rfl ?_
    obtain ⟨b, off, rfl, hbB, hcs⟩ := hc.resolve_left (by omega)
    obtain ⟨u', hu', hb⟩ := hcs i hlt
    have hl2 := hlens ls[i] (List.getElem_mem hlt)
    have hfl : (ls.take (i + 1)).flatten = (ls.take i).flatten ++ ls[i] := by rw [List.take_succ_eq_append_getElem hlt, List.flatten_append, List.flatten_singleton]
    generalize ls[i] = l at hb hl2 hfl
    obtain ⟨lb, lc, rfl, hl⟩ := hb
    refine ok_idx rfl i (by omega) (by omega) ?_
    refine ok_ld rfl (by rw [cell_blk (he.block b (by omega) (by omega))]; exact hu') ?_
    refine ok_loop rfl (IL w g s rate e ls (some ⟨b, off, none⟩) cap i l lb lc) (fun tm _ => l.length - (intOf (tm.getD 18 undef)).toNat) ?_ ?_
    · exact ⟨0, by omega, he, by rw [List.take_zero, List.append_nil]; exact hg, fr_intro rfl⟩
    clear he hg hp hu'
    rintro tm wr' ⟨j, hj, he, hg, u, rfl⟩
    refine runK_sound (od := od20) agrees 300 _ _ (fun _ => False) _ ?_
    have hp := eats_lt (rate := rate) ((ls.take i).flatten ++ l.take j) (s, 0) hr
    by_cases hlj : j < l.length
    · refine ok_calcB rfl true (deT (by omega)) ?_
      refine ok_brT rfl rfl ?_
      obtain ⟨bb', boff, rfl, hbB', hbs⟩ := hl.resolve_left (by omega)
      have hsn : eats rate (s, 0) ((ls.take i).flatten ++ l.take (j + 1)) = eat rate (eats rate (s, 0) ((ls.take i).flatten ++ l.take j)) l[j] := by
        rw [List.take_succ_eq_append_getElem hlj, ← List.append_assoc, eats_snoc]
      have hcell : wr'.cell? ⟨bb', boff + j, none⟩ = some (.int .u8 (Bt l[j])) := by
        rw [cell_blk (he.block bb' (by omega) (by omega))]
        exact hbs j hlj
      generalize eats rate (s, 0) ((ls.take i).flatten ++ l.take j) = p at hg hp hsn
      refine ok_idx rfl j (by omega) (by omega) ?_
      refine ok_ld rfl (hcell) ?_
      refine ok_ld rfl (hg.at_) ?_
      refine ok_call rfl (by kernel_rfl) (add_any g p.1 rate p.2 p.2 l[j] _ hg (by omega)) ?_
      rintro e' w1 ⟨rfl, he1, hg1⟩
      refine ⟨_, rfl, ?_⟩
      refine ok_ld rfl (hg1.at_) ?_
      refine ok_calc rfl (((p.2 + 1) : Nat) : Int) (w64 (by omega)) ?_
      refine ok_st rfl rfl (hg1.atS) (hg1.free _) ?_
      have hg2 := hg1.place (p.2 + 1)
      have he2 := (he.trans he1).set ⟨g, 100, none⟩ (.int .i64 ((p.2 + 1 : Nat) : Int)) (fun _ => rfl)
      by_cases heq : p.2 + 1 = rate
      · refine ok_test rfl (by kernel_rfl) ?_
        refine ok_draw rfl (SameHeap (w1.setCell ⟨g, 100, none⟩ (.int .i64 ((p.2 + 1 : Nat) : Int)))) (SameHeap.refl _) ?_
        refine ok_ldC rfl (fun w' hw' => (SameHeap.cell hw' _).trans (hg2.drew.at_)) ?_
        refine ok_ldC rfl (fun w' hw' => (SameHeap.cell hw' _).trans (hg2.drew.rate)) ?_
        refine ok_calcB rfl true (eqT (by omega)) ?_
        refine ok_brT rfl rfl ?_
        refine ok_call rfl (by kernel_rfl) (all_any g _ rate _ _ hg2.drew) ?_
        rintro e' w2 ⟨rfl, he3, hg3⟩
        refine ⟨_, rfl, ?_⟩
        refine ok_calc rfl (((j + 1) : Nat) : Int) (w64 (by omega)) ?_
        exact ok_back rfl ⟨⟨j + 1, by omega, he2.drew.trans he3, by rw [hsn]; unfold eat; rw [if_pos heq]; exact hg3, fr_intro rfl⟩, by show l.length - (j + 1) < l.length - j; omega⟩
      refine ok_test rfl (by kernel_rfl) ?_
      refine ok_draw rfl (SameHeap (w1.setCell ⟨g, 100, none⟩ (.int .i64 ((p.2 + 1 : Nat) : Int)))) (SameHeap.refl _) ?_
      refine ok_ldC rfl (fun w' hw' => (SameHeap.cell hw' _).trans (hg2.drew.at_)) ?_
      refine ok_ldC rfl (fun w' hw' => (SameHeap.cell hw' _).trans (hg2.drew.rate)) ?_
      refine ok_calcB rfl false (eqF (by omega)) ?_
      refine ok_brF rfl rfl ?_
      refine ok_calc rfl (((j + 1) : Nat) : Int) (w64 (by omega)) ?_
      exact ok_back rfl ⟨⟨j + 1, by omega, he2.drew, by rw [hsn]; unfold eat; rw [if_neg heq]; exact hg2.drew, fr_intro rfl⟩, by show l.length - (j + 1) < l.length - j; omega⟩
    have ej : j = l.length := by omega
    subst ej
    rw [List.take_length, ← hfl] at hg
    refine ok_calcB rfl false (deF (by omega)) ?_
    refine ok_brF rfl rfl ?_
    refine ok_calc rfl (((i + 1) : Nat) : Int) (w64 (by omega)) ?_
    exact ok_back rfl ⟨⟨i + 1, by omega, he, hg, fr_intro rfl⟩, by show ls.length - (i + 1) < ls.length - i; omega⟩
  have ei : i = ls.length := by omega
  subst ei
  rw [List.take_length] at hg hp
  generalize eats rate (s, 0) ls.flatten = p at hg hp ⊢
  refine ok_calcB rfl false (deF (by omega)) ?_
  refine ok_brF rfl rfl ?_
  refine ok_ld rfl (hg.at_) ?_
  refine ok_call rfl (by kernel_rfl) (add_any g p.1 rate p.2 p.2 e _ hg (by omega)) ?_
  rintro e' w1 ⟨rfl, he1, hg1⟩
  refine ⟨_, rfl, ?_⟩
  refine ok_ld rfl (hg1.rate) ?_
  refine ok_calc rfl (((rate - 1) : Nat) : Int) (w64 (by omega)) ?_
  refine ok_call rfl (by kernel_rfl) (add_any g _ rate _ (rate - 1) 128 _ hg1 (by omega)) ?_
  rintro e' w2 ⟨rfl, he2, hg2⟩
  refine ⟨_, rfl, ?_⟩
  refine ok_call rfl (by kernel_rfl) (all_any g _ rate _ _ hg2) ?_
  rintro e' w3 ⟨rfl, he3, hg3⟩
  refine ⟨_, rfl, ?_⟩
  exact ok_finN rfl (fin0N rfl ⟨rfl, ((he.trans he1).trans he2).trans he3, hg3⟩)

/-- One step of what is let out. -/
def dq (rate : Nat) (p : St × Nat) : St × Nat := if p.2 = rate then (full p.1, 0) else p
def dn (rate : Nat) (p : St × Nat) : St × Nat := ((dq rate p).1, (dq rate p).2 + 1)
def dst (rate : Nat) : Nat → St × Nat → St × Nat
  | 0, p => p
  | n + 1, p => dn rate (dst rate n p)
def ob (rate : Nat) (p : St × Nat) : BitVec 8 := outB (dq rate p).1 (dq rate p).2
theorem dst_dn (rate : Nat) : ∀ (n : Nat) (p : St × Nat), dst rate n (dn rate p) = dst rate (n + 1) p
  | 0, _ => rfl
  | n + 1, p => by show dn rate (dst rate n (dn rate p)) = _; rw [dst_dn rate n p]; rfl
theorem drip_getD (rate : Nat) : ∀ (n i : Nat) (p : St × Nat), i < n → (drip rate n p).getD i 0 = ob rate (dst rate i p)
  | 0, _, _, h => by omega
  | n + 1, i, p, h => by
    show (ob rate p :: drip rate n (dn rate p)).getD i 0 = _
    cases i with
    | zero => rfl
    | succ i => rw [List.getD_cons_succ, drip_getD rate n i _ (by omega), dst_dn]
theorem dst_le {rate : Nat} (hr : 0 < rate) : ∀ (n : Nat) (p : St × Nat), p.2 ≤ rate → (dst rate n p).2 ≤ rate
  | 0, _, h => h
  | n + 1, p, h => by
    have := dst_le hr n p h
    show (dq rate (dst rate n p)).2 + 1 ≤ rate
    unfold dq
    split
    · exact hr
    · omega

def od21 : Nat → List Nat := fun n => match n with | 3 => List.range 9 | _ => List.range 22

def ILet (w : World) (g o : Nat) (s : St) (rate n cap : Nat) (f0 : Nat → Value) (tm : List Value) (wr : World) : Prop := ∃ i : Nat, i ≤ n ∧ Ext (fun k => k = g ∨ k = o) w wr ∧ Spg wr g (dst rate i (s, 0)).1 rate (dst rate i (s, 0)).2 ∧
  Row wr o 0 n (fun j => if j < i then .int .u8 (Bt (ob rate (dst rate j (s, 0)))) else f0 j) ∧ Free wr o ∧ ∃ u : Nat → Value, tm = [.pointer (some ⟨g, 0, none⟩), .slice (some ⟨o, 0, none⟩) n cap, u 2, u 3, u 4, .slice (some ⟨o, 0, none⟩) n cap, .int .i64 (n : Int), .int .i64 (i : Int), u 8, u 9, u 10, u 11, u 12, u 13, u 14, u 15, u 16, u 17, u 18, u 19, u 20, u 21, u 22, u 23, u 24, u 25, u 26, u 27, u 28, u 29, u 30, u 31, u 32, u 33, u 34, u 35, u 36, u 37, u 38, u 39, u 40, u 41, u 42, u 43, u 44, u 45, u 46, u 47, u 48, u 49]

set_option maxRecDepth 100000 in
theorem let_any (g o : Nat) (s : St) (rate n cap : Nat) (f0 : Nat → Value) (w : World) (hg : Spg w g s rate 0) (hr : 0 < rate) (hr2 : rate ≤ 200) (hn : n < 2 ^ 62) (ho : o < w.heap.size) (hne : o ≠ g) (hrow : Row w o 0 n f0) (hfr : Free w o) :
    Calls Try.prog 21 #[.pointer (some ⟨g, 0, none⟩), .slice (some ⟨o, 0, none⟩) n cap] w fun e w' => e = .returned (.tuple #[]) ∧ Ext (fun k => k = g ∨ k = o) w w' ∧ Row w' o 0 n (fun j => .int .u8 (Bt ((drip rate n (s, 0)).getD j 0))) := by
  refine calls_run (args := [_, _]) agrees od21 300 Try.func21 rfl ?_
  refine ok_loop rfl (ILet w g o s rate n cap f0) (fun tm _ => n - (intOf (tm.getD 7 undef)).toNat) ?_ ?_
  · exact ⟨0, by omega, Ext.refl _ w, hg, hrow.congr (fun j _ => by rw [if_neg (by omega)]), hfr, fr_intro rfl⟩
  rintro tm wr ⟨i, hi, he, hg, hrow, hfr, u, rfl⟩
  refine runK_sound (od := od21) agrees 300 _ _ (fun _ => False) _ ?_
  have hp := dst_le hr i (s, 0) (Nat.zero_le _)
  by_cases hlt : i < n
  · refine ok_calcB rfl true (deT (by omega)) ?_
    refine ok_brT rfl rfl ?_
    have hnx : dst rate (i + 1) (s, 0) = dn rate (dst rate i (s, 0)) := rfl
    have hob : ∀ j, (if j < i + 1 then Value.int .u8 (Bt (ob rate (dst rate j (s, 0)))) else f0 j) = upd (fun j => if j < i then Value.int .u8 (Bt (ob rate (dst rate j (s, 0)))) else f0 j) i (.int .u8 (Bt (ob rate (dst rate i (s, 0))))) j := fun j => by
      unfold upd
      dsimp only
      by_cases e : j = i
      · subst e; rw [if_pos rfl, if_pos (by omega)]
      · rw [if_neg e]
        by_cases e2 : j < i
        · rw [if_pos e2, if_pos (by omega)]
        · rw [if_neg e2, if_neg (by omega)]
    generalize dst rate i (s, 0) = p at hg hp hnx hob
    by_cases heq : p.2 = rate
    · refine ok_test rfl (by kernel_rfl) ?_
      refine ok_draw rfl (SameHeap wr) (SameHeap.refl _) ?_
      refine ok_ldC rfl (fun w' hw' => (SameHeap.cell hw' _).trans (hg.drew.at_)) ?_
      refine ok_ldC rfl (fun w' hw' => (SameHeap.cell hw' _).trans (hg.drew.rate)) ?_
      refine ok_calcB rfl true (eqT (by omega)) ?_
      refine ok_brT rfl rfl ?_
      refine ok_call rfl (by kernel_rfl) (all_any g _ rate _ _ hg.drew) ?_
      rintro e' w2 ⟨rfl, he3, hg3⟩
      refine ⟨_, rfl, ?_⟩
      have hq : dq rate p = (full p.1, 0) := by unfold dq; rw [if_pos heq]
      have hg4 : Spg w2 g (dq rate p).1 rate (dq rate p).2 := by rw [hq]; exact hg3
      have hlq : (dq rate p).2 < 200 := by rw [hq]; dsimp only; omega
      have hr4 := hrow.drew.ext he3 (by have := he.size; show o < wr.heap.size; omega) hne
      have hf4 := hfr.drew.ext he3 (by have := he.size; show o < wr.heap.size; omega) hne
      have he4 : Ext (fun k => k = g ∨ k = o) w w2 := he.drew.trans (he3.mono fun _ h => .inl h)
      refine ok_test rfl (by kernel_rfl) ?_
      refine ok_draw rfl (SameHeap (w2)) (SameHeap.refl _) ?_
      refine ok_ldC rfl (fun w' hw' => (SameHeap.cell hw' _).trans (hg4.drew.at_)) ?_
      refine ok_test rfl (by decide) ?_
      refine ok_calc rfl _ (tdivl (dq rate p).2 8 _ rfl (by omega)) ?_
      refine ok_idx rfl ((dq rate p).2 / 8) (by omega) (by omega) ?_
      refine ok_ldC rfl (fun w' hw' => (SameHeap.cell hw' _).trans (hg4.drew.st _ (by omega))) ?_
      refine ok_ldC rfl (fun w' hw' => (SameHeap.cell hw' _).trans (hg4.drew.at_)) ?_
      refine ok_test rfl (by decide) ?_
      refine ok_calc rfl _ (tmodl (dq rate p).2 8 _ rfl) ?_
      refine ok_calc rfl (((8 * ((dq rate p).2 % 8)) : Nat) : Int) (w64 (by omega)) ?_
      refine ok_test rfl (by omega) ?_
      refine ok_calc rfl _ (shrL _ _) ?_
      refine ok_calc rfl _ (down8 _) ?_
      refine ok_idx rfl i (by omega) (by omega) ?_
      refine ok_st rfl rfl (hr4.drew.is (by omega)) (hf4.drew _) ?_
      have hg5 := hg4.drew.other ⟨o, 0 + i, none⟩ (.int .u8 (Bt (outB (dq rate p).1 (dq rate p).2))) hne
      refine ok_ld rfl (hg5.at_) ?_
      refine ok_calc rfl ((((dq rate p).2 + 1) : Nat) : Int) (w64 (by omega)) ?_
      refine ok_st rfl rfl (hg5.atS) (hg5.free _) ?_
      refine ok_calc rfl (((i + 1) : Nat) : Int) (w64 (by omega)) ?_
      exact ok_back rfl ⟨⟨i + 1, by omega, (he4.drew.set _ _ (fun _ => .inr rfl)).set _ _ (fun _ => .inl rfl), by rw [hnx]; exact hg5.place _, ((hr4.drew.set hlt _).other _ _ (by dsimp only; omega)).congr (fun j _ => (hob j).symm), (hf4.drew.set _ _).set _ _, fr_intro rfl⟩, by show n - (i + 1) < n - i; omega⟩
    refine ok_test rfl (by kernel_rfl) ?_
    refine ok_draw rfl (SameHeap wr) (SameHeap.refl _) ?_
    refine ok_ldC rfl (fun w' hw' => (SameHeap.cell hw' _).trans (hg.drew.at_)) ?_
    refine ok_ldC rfl (fun w' hw' => (SameHeap.cell hw' _).trans (hg.drew.rate)) ?_
    refine ok_calcB rfl false (eqF (by omega)) ?_
    refine ok_brF rfl rfl ?_
    have hq : dq rate p = p := by unfold dq; rw [if_neg heq]
    have hg4 : Spg wr.drew g (dq rate p).1 rate (dq rate p).2 := by rw [hq]; exact hg.drew
    have hlq : (dq rate p).2 < 200 := by rw [hq]; omega
    have hr4 := hrow.drew
    have hf4 := hfr.drew
    have he4 := he.drew
    refine ok_test rfl (by kernel_rfl) ?_
    refine ok_draw rfl (SameHeap (wr.drew)) (SameHeap.refl _) ?_
    refine ok_ldC rfl (fun w' hw' => (SameHeap.cell hw' _).trans (hg4.drew.at_)) ?_
    refine ok_test rfl (by decide) ?_
    refine ok_calc rfl _ (tdivl (dq rate p).2 8 _ rfl (by omega)) ?_
    refine ok_idx rfl ((dq rate p).2 / 8) (by omega) (by omega) ?_
    refine ok_ldC rfl (fun w' hw' => (SameHeap.cell hw' _).trans (hg4.drew.st _ (by omega))) ?_
    refine ok_ldC rfl (fun w' hw' => (SameHeap.cell hw' _).trans (hg4.drew.at_)) ?_
    refine ok_test rfl (by decide) ?_
    refine ok_calc rfl _ (tmodl (dq rate p).2 8 _ rfl) ?_
    refine ok_calc rfl (((8 * ((dq rate p).2 % 8)) : Nat) : Int) (w64 (by omega)) ?_
    refine ok_test rfl (by omega) ?_
    refine ok_calc rfl _ (shrL _ _) ?_
    refine ok_calc rfl _ (down8 _) ?_
    refine ok_idx rfl i (by omega) (by omega) ?_
    refine ok_st rfl rfl (hr4.drew.is (by omega)) (hf4.drew _) ?_
    have hg5 := hg4.drew.other ⟨o, 0 + i, none⟩ (.int .u8 (Bt (outB (dq rate p).1 (dq rate p).2))) hne
    refine ok_ld rfl (hg5.at_) ?_
    refine ok_calc rfl ((((dq rate p).2 + 1) : Nat) : Int) (w64 (by omega)) ?_
    refine ok_st rfl rfl (hg5.atS) (hg5.free _) ?_
    refine ok_calc rfl (((i + 1) : Nat) : Int) (w64 (by omega)) ?_
    exact ok_back rfl ⟨⟨i + 1, by omega, (he4.drew.set _ _ (fun _ => .inr rfl)).set _ _ (fun _ => .inl rfl), by rw [hnx]; exact hg5.place _, ((hr4.drew.set hlt _).other _ _ (by dsimp only; omega)).congr (fun j _ => (hob j).symm), (hf4.drew.set _ _).set _ _, fr_intro rfl⟩, by show n - (i + 1) < n - i; omega⟩
  obtain rfl : i = n := by omega
  refine ok_calcB rfl false (deF (by omega)) ?_
  refine ok_brF rfl rfl ?_
  exact ok_finN rfl (fin0N rfl ⟨rfl, he, hrow.congr fun j hj => by rw [if_pos hj, drip_getD _ _ _ _ hj]⟩)

def lb (f : Nat → BitVec 8) : Nat → Value := fun j => .int .u8 (Bt (f j))

theorem digest_def (l : Bs) : digest l = drip 136 32 (full (addB (addB (eats 136 (zero, 0) l).1 (eats 136 (zero, 0) l).2 6) (136 - 1) 128), 0) := rfl
/-- The whole of an array, as a slice. -/
theorem run_sliceWhole {P : Program} (hA : Agrees P ty zr) {t : TypeId} {n : Nat} {one : Bool} (ht : ty t = .arr n 1 one) (g : Nat) (hn : 0 < n) (w : World) :
    (Instr.sliceAt t (.pointer (some ⟨g, 0, none⟩)) none none none).run P w = .ok (.slice (some ⟨g, 0, none⟩) n n) w := by
  obtain ⟨el, hu, hsz, _, _⟩ := tyOf_arr ((hA.td t (by simp [ht])).trans ht)
  simp [Instr.sliceAt, underlying, hu, Instr.sureAddr, Instr.sliceBounds, sizeIs_spec hsz, Addr.add_lit, show ¬ n = 0 by omega]

set_option maxRecDepth 100000 in
theorem sum_any (ls : List Bs) (v : Value) (w : World) (hv : PartsAt w w.heap.size v ls) (hlen : ls.length < 2 ^ 62) (hlens : ∀ l ∈ ls, l.length < 2 ^ 62) :
    Calls Try.prog 10 #[v] w fun e w' => e = .returned (.agg (rowA 32 (lb fun j => (digest ls.flatten).getD j 0))) ∧ Ext (fun _ => False) w w' := by
  refine calls_run (args := [_]) agrees od0 200 Try.func10 rfl ?_
  refine ok_new rfl ?_
  refine ok_newAt rfl (w.heap.size + 1) (by rw [World.size_alloc]) ?_
  have e0 : Ext (fun _ => False) w ((w.alloc (.cells (Array.replicate 32 zB) 23)).alloc (.cells (Array.replicate 32 zB) 23)) := ((Ext.refl _ w).alloc _).alloc _
  have z0 : ((w.alloc (.cells (Array.replicate 32 zB) 23)).alloc (.cells (Array.replicate 32 zB) 23)).heap.size = w.heap.size + 2 := by rw [World.size_alloc, World.size_alloc]
  have r0 : Row ((w.alloc (.cells (Array.replicate 32 zB) 23)).alloc (.cells (Array.replicate 32 zB) 23)) w.heap.size 0 32 (fun _ => zB) := (Row.new w _ _ (fun _ => zB) 32 (fun j hj => by simp [hj])).alloc (by rw [World.size_alloc]; omega) _
  have q0 : Free ((w.alloc (.cells (Array.replicate 32 zB) 23)).alloc (.cells (Array.replicate 32 zB) 23)) w.heap.size := (Free.new w _ _).alloc (by rw [World.size_alloc]; omega) _
  have r1 : Row ((w.alloc (.cells (Array.replicate 32 zB) 23)).alloc (.cells (Array.replicate 32 zB) 23)) (w.heap.size + 1) 0 32 (fun _ => zB) := by
    have := Row.new (w.alloc (.cells (Array.replicate 32 zB) 23)) (Array.replicate 32 zB) 23 (fun _ => zB) 32 (fun j hj => by simp [hj])
    rw [World.size_alloc] at this; exact this
  have q1 : Free ((w.alloc (.cells (Array.replicate 32 zB) 23)).alloc (.cells (Array.replicate 32 zB) 23)) (w.heap.size + 1) := by
    have := Free.new (w.alloc (.cells (Array.replicate 32 zB) 23)) (Array.replicate 32 zB) 23
    rw [World.size_alloc] at this; exact this
  generalize (w.alloc (.cells (Array.replicate 32 zB) 23)).alloc (.cells (Array.replicate 32 zB) 23) = w0 at *
  refine ok_call rfl (by kernel_rfl) (start_any 136 _) ?_
  rintro e w1 ⟨g, rfl, hgz, he1, hg⟩
  refine ⟨_, rfl, ?_⟩
  have hv1 : PartsAt w1 w.heap.size v ls := (hv.ext e0 (Nat.le_refl _) (fun _ h => h.elim)).ext he1 (by omega) (fun _ h => h.elim)
  refine ok_call rfl (by kernel_rfl) (take_any g zero 136 6 ls v w.heap.size _ hg (by decide) (by decide) hv1 (by have := he1.size; omega) (by omega) hlen hlens) ?_
  rintro e w2 ⟨rfl, he2, hg2⟩
  refine ⟨_, rfl, ?_⟩
  refine ok_rawS rfl (Instr.sliceAt 23 (.pointer (some ⟨w.heap.size + 1, 0, none⟩)) none none none) rfl (run_sliceWhole agrees (t := 23) rfl _ (by decide) _) ?_
  have s1 := he1.size
  have s2 := he2.size
  refine ok_call rfl (by kernel_rfl) (let_any g (w.heap.size + 1) _ 136 32 32 (fun _ => zB) _ hg2 (by decide) (by decide) (by decide) (by omega) (by omega) ((r1.ext he1 (by omega) id).ext he2 (by omega) (by omega)) ((q1.ext he1 (by omega) id).ext he2 (by omega) (by omega))) ?_
  rintro e w3 ⟨rfl, he3, hrow⟩
  refine ⟨_, rfl, ?_⟩
  have r3 := ((r0.ext he1 (by omega) id).ext he2 (by omega) (by omega)).ext he3 (by omega) (by omega)
  have q3 := ((q0.ext he1 (by omega) id).ext he2 (by omega) (by omega)).ext he3 (by omega) (by omega)
  rw [← digest_def] at hrow
  generalize digest ls.flatten = d at hrow ⊢
  have hrow' : Row w3 (w.heap.size + 1) 0 32 (lb fun j => d.getD j 0) := hrow
  refine ok_ldR (cs := rowA 32 (lb fun j => d.getD j 0)) rfl (rowA_size _ _) (Row.ofA hrow') ?_
  refine ok_stR rfl (rowA_size _ _) (rowA_one _ _ fun _ => rfl) (fun j hj => ⟨r3.is hj, q3 _⟩) ?_
  have r4 := rowA_stores w3 w.heap.size 0 32 (lb fun j => d.getD j 0) (fun j hj => r3.is hj)
  refine ok_finR rfl (finC1 rfl rfl _ (run_loadVar_arr agrees (t := 23) rfl (rowA_size _ _) r4.ofA) ⟨rfl, ?_⟩)
  have e2 : Ext (fun k => w.heap.size ≤ k) w0 w3 := ((he1.mono fun _ h => h.elim).trans (he2.mono fun k h => by omega)).trans (he3.mono fun k h => by omega)
  exact (e0.trans' e2 (fun k hk h => by omega)).stores _ _ (fun h => by omega)

/-- A slice of bytes, all zero. -/
theorem run_makeBytes (n : Nat) (hn : n ≤ 65536) (w : World) : (Instr.makeSlice 22 (.int .i64 (n : Int)) (.int .i64 (n : Int))).run Try.prog w = .ok (.slice (some ⟨w.heap.size, 0, none⟩) n n) (w.alloc (.cells (rowA n fun _ => zB) 5)) := by
  have hu : Try.prog.underlying 22 = some (.slice 5) := by kernel_rfl
  have hi : (Try.prog.info? 5).map (fun i => (i.bytes, i.size, i.zero)) = some (1, 1, some zB) := by kernel_rfl
  cases hq : Try.prog.info? 5 with
  | none => simp [hq] at hi
  | some i =>
    simp [hq] at hi
    obtain ⟨h1, h2, h3⟩ := hi
    have hw : IntKind.i64.wrap (n : Int) = (n : Int) := w64 (by omega)
    have a1 : ¬ ((n : Int) < 0) := by omega
    have a3 : (2 : Int) ^ 48 = 281474976710656 := by decide
    have a2 : ¬ ((281474976710656 : Int) < (n : Int)) := by omega
    have e : ((Array.range n).map fun _ => Value.int IntKind.u8 0) = rowA n fun _ => zB := by
      apply Array.ext'
      simp [rowA, zB]
    by_cases h0 : n = 0
    · subst h0
      have hw0 : IntKind.i64.wrap 0 = 0 := by decide
      have e0 : ∀ d : Value, ((Array.range 0).map fun _ => d) = rowA 0 fun _ => zB := fun d => by apply Array.ext'; simp [rowA]
      simp [Instr.makeSlice, underlying, hu, typeInfo, hq, asInt, asIntOf, hw0, h1, sizeOf, h2, newRow, e0]
    · simp [Instr.makeSlice, underlying, hu, typeInfo, hq, asInt, asIntOf, hw, h1, a1, a2, sizeOf, h2, h0, zeroValue, h3, newRow, Value.cells, zB, Nat.mod_one]
      rw [e]; rfl

def streamB (n : Nat) (l : Bs) : Bs := sponge 168 31 n l
theorem stream_def (n : Nat) (l : Bs) : streamB n l = drip 168 n (full (addB (addB (eats 168 (zero, 0) l).1 (eats 168 (zero, 0) l).2 31) (168 - 1) 128), 0) := rfl

set_option maxRecDepth 100000 in
theorem stream_any (n : Nat) (h1 : 1 ≤ n) (hn : n ≤ 65536) (ls : List Bs) (v : Value) (w : World) (hv : PartsAt w w.heap.size v ls) (hlen : ls.length < 2 ^ 62) (hlens : ∀ l ∈ ls, l.length < 2 ^ 62) :
    Calls Try.prog 11 #[.int .i64 (n : Int), v] w fun e w' => e = .returned (.slice (some ⟨w.heap.size, 0, none⟩) n n) ∧ Ext (fun _ => False) w w' ∧ Row w' w.heap.size 0 n (lb fun j => (streamB n ls.flatten).getD j 0) ∧ w.heap.size < w'.heap.size := by
  refine calls_run (args := [_, _]) agrees od0 200 Try.func11 rfl ?_
  refine ok_calcB rfl false (deF (by omega)) ?_
  refine ok_brF rfl rfl ?_
  refine ok_brF rfl rfl ?_
  refine ok_calcB rfl false (deF (by omega)) ?_
  refine ok_brF rfl rfl ?_
  refine ok_brF rfl rfl ?_
  refine ok_rawS rfl (Instr.makeSlice 22 (.int .i64 (n : Int)) (.int .i64 (n : Int))) rfl (run_makeBytes n hn w) ?_
  have r0 : Row (w.alloc (.cells (rowA n fun _ => zB) 5)) w.heap.size 0 n (fun _ => zB) := Row.new w _ _ (fun _ => zB) n (fun j hj => rowA_get _ _ _ hj)
  have q0 : Free (w.alloc (.cells (rowA n fun _ => zB) 5)) w.heap.size := Free.new w _ _
  have e0 : Ext (fun _ => False) w (w.alloc (.cells (rowA n fun _ => zB) 5)) := (Ext.refl _ w).alloc _
  have z0 : (w.alloc (.cells (rowA n fun _ => zB) 5)).heap.size = w.heap.size + 1 := by rw [World.size_alloc]
  generalize w.alloc (.cells (rowA n fun _ => zB) 5) = w0 at *
  refine ok_call rfl (by kernel_rfl) (start_any 168 _) ?_
  rintro e w1 ⟨g, rfl, hgz, he1, hg⟩
  refine ⟨_, rfl, ?_⟩
  have hv1 : PartsAt w1 w.heap.size v ls := (hv.ext e0 (Nat.le_refl _) (fun _ h => h.elim)).ext he1 (by omega) (fun _ h => h.elim)
  refine ok_call rfl (by kernel_rfl) (take_any g zero 168 31 ls v w.heap.size _ hg (by decide) (by decide) hv1 (by have := he1.size; omega) (by omega) hlen hlens) ?_
  rintro e w2 ⟨rfl, he2, hg2⟩
  refine ⟨_, rfl, ?_⟩
  have s1 := he1.size
  have s2 := he2.size
  refine ok_call rfl (by kernel_rfl) (let_any g w.heap.size _ 168 n n (fun _ => zB) _ hg2 (by decide) (by decide) (by omega) (by omega) (by omega) ((r0.ext he1 (by omega) id).ext he2 (by omega) (by omega)) ((q0.ext he1 (by omega) id).ext he2 (by omega) (by omega))) ?_
  rintro e w3 ⟨rfl, he3, hrow⟩
  refine ⟨_, rfl, ?_⟩
  rw [← stream_def] at hrow
  have s3 := he3.size
  have e2 : Ext (fun k => w.heap.size ≤ k) w0 w3 := ((he1.mono fun _ h => h.elim).trans (he2.mono fun k h => by omega)).trans (he3.mono fun k h => by omega)
  exact ok_finR rfl (fin1R rfl _ rfl ⟨rfl, e0.trans' e2 (fun k hk h => by omega), hrow, by omega⟩)

/-- Of no length, or too long a one: nothing. -/
theorem stream_no (n : Int) (v : Value) (w : World) (h : n < 1 ∨ 65536 < n) : Calls Try.prog 11 #[.int .i64 n, v] w fun e w' => e = .returned (.slice none 0 0) ∧ w' = w := by
  refine calls_run (args := [_, _]) agrees od0 200 Try.func11 rfl ?_
  by_cases h1 : n < 1
  · refine ok_calcB rfl true (deT h1) ?_
    refine ok_brT rfl rfl ?_
    refine ok_brT rfl rfl ?_
    refine ok_brT rfl rfl ?_
    refine ok_brT rfl rfl ?_
    exact ok_finR rfl (fin1R rfl _ rfl ⟨rfl, rfl⟩)
  · refine ok_calcB rfl false (deF h1) ?_
    refine ok_brF rfl rfl ?_
    refine ok_brF rfl rfl ?_
    refine ok_calcB rfl true (deT (by omega)) ?_
    refine ok_brF rfl rfl ?_
    refine ok_brT rfl rfl ?_
    exact ok_finR rfl (fin1R rfl _ rfl ⟨rfl, rfl⟩)

end Go.Proofs.Ytdbjhhnphbnnlaa
