/- The digest of nothing: its first bytes, by reckoning. -/
import Derived.Test.YtdbjhhnphbnnlaaK0
namespace Go.Proofs.Ytdbjhhnphbnnlaa

/-- The numbers of a state. -/
def Nums (l : List Nat) (s : St) : Prop := l.length = 25 ∧ ∀ j, j < 25 → l.getD j 0 = (s j).toNat

theorem rot_nat (x : W64) (n : Nat) (h : n < 64) : (x.rotateLeft n).toNat = rotN x.toNat n := by
  have e : x.rotateLeft n = x <<< n ||| x >>> (64 - n) := by
    rw [BitVec.rotateLeft_def, Nat.mod_eq_of_lt h]
  have hx := x.isLt
  rw [e, BitVec.toNat_or, BitVec.toNat_shiftLeft, BitVec.toNat_ushiftRight]
  unfold rotN
  have e2 : (18446744073709551616 : Nat) = 2 ^ 64 := by decide
  rw [e2, Nat.or_mod_two_pow]
  congr 1
  exact (Nat.mod_eq_of_lt (Nat.lt_of_le_of_lt (Nat.shiftRight_le _ _) hx)).symm

theorem andn_nat (a b : W64) : (a &&& ~~~ b).toNat = (18446744073709551615 - b.toNat) &&& a.toNat := by
  rw [BitVec.toNat_and, BitVec.toNat_not, Nat.and_comm]

theorem getD_map_range (f : Nat → Nat) (n j : Nat) (h : j < n) : ((List.range n).map f).getD j 0 = f j := by
  simp [List.getD, h]

theorem round_nums {α : Type} {l : List Nat} {s : St} {c : W64} (k : List Nat → α) (h : Nums l s) : ∃ l', roundN l c.toNat k = k l' ∧ Nums l' (round s c) := by
  unfold roundN
  simp only [nows_eq]
  refine ⟨_, rfl, by simp, fun j hj => ?_⟩
  obtain ⟨hl, hs⟩ := h
  have hcol : ∀ x, x < 5 → ((List.range 5).map (colN l)).getD x 0 = (col s x).toNat := fun x hx => by
    rw [getD_map_range _ _ _ hx]
    simp only [colN, col, BitVec.toNat_xor, hs x (by omega), hs (x + 5) (by omega), hs (x + 10) (by omega), hs (x + 15) (by omega), hs (x + 20) (by omega)]
  have hth : ∀ x, x < 5 → ((List.range 5).map fun x => ((List.range 5).map (colN l)).getD ((x + 4) % 5) 0 ^^^ rotN (((List.range 5).map (colN l)).getD ((x + 1) % 5) 0) 1).getD x 0 = (th s x).toNat := fun x hx => by
    rw [getD_map_range _ _ _ hx, hcol _ (Nat.mod_lt _ (by decide)), hcol _ (Nat.mod_lt _ (by decide)), ← rot_nat _ 1 (by decide), ← BitVec.toNat_xor]
    rfl
  generalize hds : (List.range 5).map (fun x => ((List.range 5).map (colN l)).getD ((x + 4) % 5) 0 ^^^ rotN (((List.range 5).map (colN l)).getD ((x + 1) % 5) 0) 1) = ds at hth ⊢
  have hb : ∀ i, i < 25 → ((List.range 25).map fun j => rotN (l.getD (inv j) 0 ^^^ ds.getD (inv j % 5) 0) (off (inv j))).getD i 0 = (bs s i).toNat := fun i hi => by
    have hi' := inv_lt i hi
    rw [getD_map_range _ _ _ hi, hs _ hi', hth _ (Nat.mod_lt _ (by decide)), ← BitVec.toNat_xor, ← rot_nat _ _ (off_lt _ hi')]
    rfl
  rw [getD_map_range _ _ _ hj, hb j hj, hb _ (by have := Nat.mod_lt (j % 5 + 1) (show 0 < 5 by decide); omega), hb _ (by have := Nat.mod_lt (j % 5 + 2) (show 0 < 5 by decide); omega), ← andn_nat, ← BitVec.toNat_xor]
  unfold round
  split
  · rename_i h0
    subst h0
    rw [← BitVec.toNat_xor]
    rfl
  · rw [Nat.xor_zero]
    rfl

theorem perm_nums : ∀ (cs : List Nat) (n : Nat) (l : List Nat) (s : St), Nums l (perm n s) → (∀ j, j < cs.length → cs.getD j 0 = (rc (n + j)).toNat) → ∃ l', permN cs l (id : List Nat → List Nat) = l' ∧ Nums l' (perm (n + cs.length) s)
  | [], n, l, s, h, _ => ⟨l, rfl, h⟩
  | c :: cs, n, l, s, h, hc => by
    have h0 := hc 0 (by simp)
    simp only [List.getD_cons_zero, Nat.add_zero] at h0
    unfold permN
    rw [h0]
    obtain ⟨l1, e1, h1⟩ := round_nums (c := rc n) (fun l' => permN cs l' (id : List Nat → List Nat)) h
    rw [e1]
    have := perm_nums cs (n + 1) l1 s h1 (fun j hj => by
      have h2 := hc (j + 1) (by simpa using hj)
      simp only [List.getD_cons_succ] at h2
      rw [h2, show n + (j + 1) = n + 1 + j by omega])
    have e2 : n + ((rc n).toNat :: cs).length = n + 1 + cs.length := by simp; omega
    rw [e2]
    exact this

theorem first_full : Nums first (fed 136 6 []) := by
  have h0 : Nums ((List.range 25).map fun j => if j = 0 then 6 else if j = 16 then 9223372036854775808 else 0) (perm 0 (addB (addB zero 0 6) 135 128)) := ⟨by simp, by decide +kernel⟩
  obtain ⟨l', e, h⟩ := perm_nums rcL 0 _ _ h0 (fun j hj => by rw [Nat.zero_add]; exact (rc_list j (by simpa [rcL] using hj)).symm)
  have : first = l' := by unfold first; exact e
  rw [this]
  have e3 : fed 136 6 [] = perm 24 (addB (addB zero 0 6) 135 128) := by
    simp only [fed, full, eats, List.foldl_nil]
  have e4 : 0 + rcL.length = 24 := rfl
  rw [e3]
  rw [e4] at h
  exact h

theorem drip_len (rate : Nat) : ∀ (n : Nat) (p : St × Nat), (drip rate n p).length = n
  | 0, _ => rfl
  | n + 1, p => by simp [drip, drip_len rate n]

theorem drip_lt (rate : Nat) (s : St) : ∀ (n at_ i : Nat), at_ + n ≤ rate → i < n → (drip rate n (s, at_)).getD i 0 = outB s (at_ + i)
  | 0, _, i, _, h => by omega
  | n + 1, at_, i, h, hi => by
    have hne : at_ ≠ rate := by omega
    simp only [drip, if_neg hne]
    cases i with
    | zero => rfl
    | succ i =>
      rw [List.getD_cons_succ, drip_lt rate s n (at_ + 1) i (by omega) (by omega), show at_ + 1 + i = at_ + (i + 1) by omega]

theorem digest_get (i : Nat) (h : i < 32) : (digest []).getD i 0 = outB (fed 136 6 []) i := by
  unfold digest sponge
  rw [drip_lt 136 _ 32 0 i (by decide) h, Nat.zero_add]

theorem digest_nil : (digest []).getD 0 0 = 0xa7 ∧ (digest []).getD 1 0 = 0xff ∧ (digest []).getD 31 0 = 0x4a := by
  obtain ⟨_, h⟩ := first_full
  obtain ⟨h1, h2⟩ := first_eq
  rw [h 0 (by decide)] at h1
  rw [h 3 (by decide)] at h2
  rw [digest_get 0 (by decide), digest_get 1 (by decide), digest_get 31 (by decide)]
  generalize fed 136 6 [] = s at h1 h2 ⊢
  clear h
  have b0 : ∀ (x : W64) (i : Nat) (v : BitVec 8), x.toNat / 2 ^ i % 256 = v.toNat → ((x >>> i).setWidth 8 : BitVec 8) = v := fun x i v h => by
    refine BitVec.eq_of_toNat_eq ?_
    rw [BitVec.toNat_setWidth, BitVec.toNat_ushiftRight, Nat.shiftRight_eq_div_pow]
    exact h
  have n0 : (0xa7 : BitVec 8).toNat = 0xa7 := by decide
  have n1 : (0xff : BitVec 8).toNat = 0xff := by decide
  have n2 : (0x4a : BitVec 8).toNat = 0x4a := by decide
  refine ⟨b0 _ _ _ ?_, b0 _ _ _ ?_, b0 _ _ _ ?_⟩
  · rw [n0]; have : (2 : Nat) ^ (8 * (0 % 8)) = 1 := by decide
    rw [this, show 0 / 8 = 0 by decide]; omega
  · rw [n1]; have : (2 : Nat) ^ (8 * (1 % 8)) = 256 := by decide
    rw [this, show 1 / 8 = 0 by decide]; omega
  · rw [n2]; have : (2 : Nat) ^ (8 * (31 % 8)) = 2 ^ 56 := by decide
    rw [this, show 31 / 8 = 3 by decide]; omega

end Go.Proofs.Ytdbjhhnphbnnlaa
