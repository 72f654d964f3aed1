/- A slice of bytes that came in. -/
import Derived.Test.YtdbjhhnphbnnlaaK9
import Derived.Below
namespace Go.Proofs.Ytdbjhhnphbnnlaa
open Go Go.RowKit

/-- It is nil, or it leads to a row of cells: numbers that fit their kind. -/
def IsRow (k : IntKind) (w : World) (a : Option Addr) (len cap : Nat) (zs : List Int) : Prop :=
  (a = none ∧ len = 0 ∧ cap = 0 ∧ zs = []) ∨
  ∃ x, a = some x ∧ len ≤ cap ∧ cap ≤ maxLen ∧ zs.length = cap ∧ (∀ i, i < zs.length → w.cell? (x.add i) = some (.int k (zs.getD i 0))) ∧ ∀ n ∈ zs, (Lit.int k n).wf = true

def bytesOf (len : Nat) (zs : List Int) : Bs := (zs.take len).map fun z => BitVec.ofInt 8 z

theorem u8_back (z : Int) (h : (Lit.int .u8 z).wf = true) : Bt (BitVec.ofInt 8 z) = z := by
  have h' : 0 ≤ z ∧ z ≤ 255 := by
    simp [Lit.wf, IntKind.min, IntKind.max, IntKind.bits, IntKind.signed] at h
    omega
  unfold Bt
  rw [BitVec.toNat_ofInt]
  omega

theorem IsRow.bytes {w : World} {a : Option Addr} {len cap : Nat} {zs : List Int} (h : IsRow .u8 w a len cap zs) : ∃ l : Bs, l.length = len ∧ len ≤ cap ∧ cap ≤ maxLen ∧ BytesAt w w.heap.size (.slice a len cap) l := by
  rcases h with ⟨rfl, rfl, rfl, rfl⟩ | ⟨x, rfl, hl, hm, hz, hc, hw⟩
  · exact ⟨[], rfl, Nat.le_refl _, Nat.zero_le _, none, 0, rfl, .inl rfl⟩
  · have hlen : (bytesOf len zs).length = len := by simp [bytesOf]; omega
    refine ⟨bytesOf len zs, hlen, hl, hm, some x, cap, by rw [hlen], ?_⟩
    rcases Nat.eq_zero_or_pos len with h0 | hpos
    · exact .inl (by omega)
    · right
      have cell : ∀ i, i < zs.length → w.cell? (x.add i) = some (.int .u8 (zs.getD i 0)) := hc
      have h00 := cell 0 (by omega)
      have hx0 : x.add 0 = x := by simp [Addr.add]
      rw [hx0] at h00
      obtain ⟨b, off, sp⟩ := x
      have hsp : sp = none := by
        cases sp with
        | none => rfl
        | some s =>
          simp only [World.cell?] at h00
          split at h00
          · simp at h00
          · cases h00
      subst hsp
      refine ⟨b, off, rfl, block_lt_of_cell h00, fun j hj => ?_⟩
      have hj' : j < zs.length := by omega
      have := cell j hj'
      rw [Addr.add_lit] at this
      rw [this]
      have e : (bytesOf len zs)[j] = BitVec.ofInt 8 zs[j] := by simp [bytesOf]
      rw [e, u8_back _ (hw _ (List.getElem_mem hj')), gd _ _ _ hj']

theorem Ext.below {w w' : World} (h : Ext (fun _ => False) w w') : Below w.heap.size w w' := ⟨h.os, h.tape, h.output, h.size, fun k hk => h.block k hk id⟩

end Go.Proofs.Ytdbjhhnphbnnlaa
