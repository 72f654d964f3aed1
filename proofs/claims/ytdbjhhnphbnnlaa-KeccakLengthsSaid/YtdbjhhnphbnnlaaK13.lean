/- The sponge in blocks: what the reference's Out reckons. -/
import Derived.Test.YtdbjhhnphbnnlaaK12
namespace Go.Proofs.Ytdbjhhnphbnnlaa
open Go Go.RowKit

/-- The first j bytes of c from place o on, put into s. -/
def pkO (s : St) (c : Bs) (o : Nat) : Nat → St
  | 0 => s
  | j + 1 => addB (pkO s c o j) j (c.getD (o + j) 0)
/-- After so many blocks. -/
def blk (rate : Nat) (c : Bs) : Nat → St
  | 0 => zero
  | i + 1 => full (pkO (blk rate c i) c (i * rate) rate)

theorem pkO_congr (s : St) {c c' : Bs} (o : Nat) : ∀ k, (∀ j, j < k → c.getD (o + j) 0 = c'.getD (o + j) 0) → pkO s c o k = pkO s c' o k
  | 0, _ => rfl
  | k + 1, h => by
    show addB (pkO s c o k) k _ = addB (pkO s c' o k) k _
    rw [pkO_congr s o k (fun j hj => h j (by omega)), h k (by omega)]
theorem blk_congr (rate : Nat) {c c' : Bs} : ∀ i, (∀ j, j < i * rate → c.getD j 0 = c'.getD j 0) → blk rate c i = blk rate c' i
  | 0, _ => rfl
  | i + 1, h => by
    have hm : (i + 1) * rate = i * rate + rate := Nat.succ_mul i rate
    show full (pkO (blk rate c i) c (i * rate) rate) = full (pkO (blk rate c' i) c' (i * rate) rate)
    rw [blk_congr rate i (fun j hj => h j (by omega)), pkO_congr _ _ rate (fun j hj => h _ (by omega))]

theorem eats_app (rate : Nat) (p : St × Nat) (l m : Bs) : eats rate p (l ++ m) = eats rate (eats rate p l) m := by simp [eats]

/-- Within a block. -/
theorem eats_in (rate : Nat) (l : Bs) (s : St) (o : Nat) : ∀ k, k < rate → o + k ≤ l.length → eats rate (s, 0) ((l.drop o).take k) = (pkO s l o k, k)
  | 0, _, _ => rfl
  | k + 1, hk, ho => by
    have h := eats_in rate l s o k (by omega) (by omega)
    rw [List.take_succ_eq_append_getElem (by simp; omega), eats_snoc, h]
    unfold eat
    rw [if_neg (by show ¬ k + 1 = rate; omega)]
    show (addB (pkO s l o k) k _, k + 1) = (addB (pkO s l o k) k (l.getD (o + k) 0), k + 1)
    rw [gd _ _ _ (by omega), List.getElem_drop]
/-- A whole block. -/
theorem eats_one (rate : Nat) (l : Bs) (s : St) (o : Nat) (hr : 0 < rate) (ho : o + rate ≤ l.length) : eats rate (s, 0) ((l.drop o).take rate) = (full (pkO s l o rate), 0) := by
  obtain ⟨k, rfl⟩ : ∃ k, rate = k + 1 := ⟨rate - 1, by omega⟩
  rw [List.take_succ_eq_append_getElem (by simp; omega), eats_snoc, eats_in (k + 1) l s o k (by omega) (by omega)]
  unfold eat
  rw [if_pos rfl]
  show (full (addB (pkO s l o k) k _), 0) = (full (addB (pkO s l o k) k (l.getD (o + k) 0)), 0)
  rw [gd _ _ _ (by omega), List.getElem_drop]
theorem eats_blocks (rate : Nat) (l : Bs) (hr : 0 < rate) : ∀ i, i * rate ≤ l.length → eats rate (zero, 0) (l.take (i * rate)) = (blk rate l i, 0)
  | 0, _ => by simp [eats, blk]
  | i + 1, h => by
    have hm : (i + 1) * rate = i * rate + rate := Nat.succ_mul i rate
    rw [hm, List.take_add, eats_app, eats_blocks rate l hr i (by omega), eats_one rate l _ _ hr (by omega)]
    rfl

/-- The end. -/
theorem fed_blocks (rate : Nat) (e : BitVec 8) (l : Bs) (q r m : Nat) (hl : l.length = q * rate + r) (hr : r < rate) (hm : r + 1 + m = rate) :
    blk rate (last ((q + 1) * rate) (padded l e m)) (q + 1) = fed rate e l := by
  have hq : (q + 1) * rate = q * rate + rate := Nat.succ_mul q rate
  have hp := padded_length l e m
  have hpl : (padded l e m).length = (q + 1) * rate := by omega
  have he : eats rate (zero, 0) l = (pkO (blk rate l q) l (q * rate) r, r) := by
    conv => lhs; rw [← List.take_append_drop (q * rate) l]
    rw [eats_app, eats_blocks rate l (by omega) q (by omega)]
    have := eats_in rate l (blk rate l q) (q * rate) r hr (by omega)
    rwa [List.take_of_length_le (by simp; omega)] at this
  have hlo : ∀ j, j < l.length → (last ((q + 1) * rate) (padded l e m)).getD j 0 = l.getD j 0 ∨ j = (q + 1) * rate - 1 := fun j hj => by
    by_cases h : j = (q + 1) * rate - 1
    · exact .inr h
    · left; rw [last_getD _ _ _ (by omega), if_neg h, padded_lo _ _ _ _ hj]
  have hb : blk rate (last ((q + 1) * rate) (padded l e m)) q = blk rate l q := blk_congr rate q fun j hj => (hlo j (by omega)).resolve_right (by omega)
  show full (pkO (blk rate _ q) _ (q * rate) rate) = fed rate e l
  rw [hb]
  unfold fed
  rw [he]
  show full _ = full (addB (addB (pkO (blk rate l q) l (q * rate) r) r e) (rate - 1) 128)
  congr 1
  generalize blk rate l q = s at *
  have step : ∀ k, pkO s (padded l e m) (q * rate) (r + 1 + k) = addB (pkO s l (q * rate) r) r e := by
    intro k
    induction k with
    | zero =>
      show addB (pkO s (padded l e m) (q * rate) r) r ((padded l e m).getD (q * rate + r) 0) = _
      rw [← hl, padded_at, pkO_congr s (c' := l) (q * rate) r (fun j hj => padded_lo l e m _ (by omega))]
    | succ k ih =>
      show addB (pkO s (padded l e m) (q * rate) (r + 1 + k)) (r + 1 + k) ((padded l e m).getD (q * rate + (r + 1 + k)) 0) = _
      rw [padded_hi _ _ _ _ (by omega), addB_zero, ih]
  have h0 := step m
  rw [hm] at h0
  rw [← h0]
  obtain ⟨k, rfl⟩ : ∃ k, rate = k + 1 := ⟨rate - 1, by omega⟩
  show addB (pkO s _ (q * (k + 1)) k) k ((last ((q + 1) * (k + 1)) (padded l e m)).getD (q * (k + 1) + k) 0) = addB (addB (pkO s (padded l e m) (q * (k + 1)) k) k ((padded l e m).getD (q * (k + 1) + k) 0)) k 128
  rw [addB_xor, last_getD _ _ _ (by omega), if_pos (by omega), pkO_congr s (c := last ((q + 1) * (k + 1)) (padded l e m)) (c' := padded l e m) (q * (k + 1)) k (fun j hj => by rw [last_getD _ _ _ (by omega), if_neg (by omega)])]
  rw [show (q + 1) * (k + 1) - 1 = q * (k + 1) + k by omega]

/-! ### What comes out -/
theorem drip_snoc (rate : Nat) : ∀ (n : Nat) (p : St × Nat), drip rate (n + 1) p = drip rate n p ++ [ob rate (dst rate n p)]
  | 0, p => rfl
  | n + 1, p => by
    show ob rate p :: drip rate (n + 1) (dn rate p) = (ob rate p :: drip rate n (dn rate p)) ++ [ob rate (dst rate (n + 1) p)]
    rw [drip_snoc rate n (dn rate p), dst_dn]
    rfl
theorem drip_length (rate : Nat) : ∀ (n : Nat) (p : St × Nat), (drip rate n p).length = n
  | 0, _ => rfl
  | n + 1, p => by
    show (drip rate n (dn rate p)).length + 1 = n + 1
    rw [drip_length rate n]

end Go.Proofs.Ytdbjhhnphbnnlaa
