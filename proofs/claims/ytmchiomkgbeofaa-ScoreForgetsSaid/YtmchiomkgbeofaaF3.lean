/- The evaluator is right for operations that only read. -/
import Derived.Test.YtmchiomkgbeofaaF2
namespace Go.Proofs.Ytmchiomkgbeofaa
open Go

structure Agrees (P : Program) (ty : TypeId → TD) (zr : TypeId → Option (Array Value)) : Prop where
  td : ∀ t, ty t ≠ .other → tyOf P t = ty t
  zr : ∀ t cs, zr t = some cs → ∃ i z, P.info? t = some i ∧ i.zero = some z ∧ z.cells = cs
  mixed : P.follows .mixedOrders = true

theorem sizeIs_spec {P : Program} {t : TypeId} {n : Nat} (h : sizeIs P t n = true) (w : World) : (sizeOf t).run P w = .ok n w := by
  unfold sizeIs at h
  split at h
  · rename_i i hi
    have : i.size = n := by simpa using h
    simp [sizeOf, typeInfo, hi, this]
  · cases h

theorem tyOf_int {P : Program} {t : TypeId} {k : IntKind} (h : tyOf P t = .int k) : P.underlying t = some (.int k) ∧ sizeIs P t 1 = true := by
  unfold tyOf at h
  split at h <;> (try split at h) <;> (try split at h) <;> simp_all

theorem tyOf_slice {P : Program} {t : TypeId} {e : Nat} (h : tyOf P t = .slice e) : ∃ el, P.underlying t = some (.slice el) ∧ sizeIs P el e = true ∧ sizeIs P t 1 = true := by
  unfold tyOf at h
  split at h <;> (try split at h) <;> (try split at h) <;> simp_all
  simp [sizeIs, *]

theorem tyOf_arr {P : Program} {t : TypeId} {n e : Nat} {one : Bool} (h : tyOf P t = .arr n e one) :
    ∃ el, P.underlying t = some (.array n el) ∧ sizeIs P el e = true ∧ sizeIs P t (n * e) = true ∧ isOne P el = one := by
  unfold tyOf at h
  split at h <;> (try split at h) <;> (try split at h) <;> simp_all
  obtain ⟨rfl, rfl, rfl⟩ := h
  simp [sizeIs, *]

theorem tyOf_struct {P : Program} {t : TypeId} {offs : List Nat} {n : Nat} (h : tyOf P t = .struct offs n) :
    ∃ fs, P.underlying t = some (.struct fs) ∧ fs.toList.map (·.offset) = offs ∧ sizeIs P t n = true ∧ ∀ f ∈ fs, ∃ m, m ≠ 0 ∧ sizeIs P f.type m = true := by
  unfold tyOf at h
  split at h <;> (try split at h) <;> (try split at h) <;> simp_all
  obtain ⟨rfl, rfl⟩ := h
  rename_i fs _ _ j hj hall
  refine ⟨by simp [sizeIs, hj], fun f hf => ?_⟩
  obtain ⟨i, hi, rfl⟩ := Array.getElem_of_mem hf
  have := hall i hi
  cases hq : P.info? fs[i].type with
  | none => simp [hq] at this
  | some q =>
    have h0 : q.size ≠ 0 := by simpa [hq] using this
    exact ⟨q.size - 1, by simp [sizeIs, hq]; omega⟩

/-- A type of one cell. -/
theorem tyOf_one {P : Program} {t : TypeId} (h : tyOf P t ≠ .other) (ha : ∀ n e o, tyOf P t ≠ .arr n e o) (hs : ∀ o n, tyOf P t ≠ .struct o n) (w : World) :
    (isAgg t).run P w = .ok false w ∧ sizeIs P t 1 = true := by
  unfold tyOf at h ha hs
  split at h <;> (try split at h) <;> (try split at h) <;> simp_all [isAgg, underlying]

theorem tyOf_str {P : Program} {t : TypeId} (h : tyOf P t = .str) : P.underlying t = some .string := by
  unfold tyOf at h
  split at h <;> (try split at h) <;> (try split at h) <;> simp_all

theorem tyOf_bool {P : Program} {t : TypeId} (h : tyOf P t = .bool) : P.underlying t = some .bool := by
  unfold tyOf at h
  split at h <;> (try split at h) <;> (try split at h) <;> simp_all

section
variable {P : Program} {Q : Exit → Act → World → Prop} {ty : TypeId → TD} {zr : TypeId → Option (Array Value)} {C : World → Prop} {w : World}

/-- The worlds in which the operation is carried out. -/
def Dm (r : Bool) (C : World → Prop) (w w' : World) : Prop := if r then C w' else w' = w

/-- What the evaluator says of an operation that only reads. -/
def QR (P : Program) (Q : Exit → Act → World → Prop) (r : Bool) (C : World → Prop) (w : World) (e : Sem Value) (k : Value → Tree) : Prop :=
  ∃ v, (∀ w', Dm r C w w' → e.run P w' = .ok v w') ∧ Ok P Q (k v) C w

theorem binQ_sound {r : Bool} {op : BinOp} {t : TypeId} {x y : Operand} {vx vy : Value} {alt : Tree} {k : Value → Tree}
    (halt : Ok P Q alt C w → QR P Q r C w (do eqGuard op t x y vx vy; binOp op t vx vy) k) (h : Ok P Q (binQ op vx vy alt k) C w) :
    QR P Q r C w (do eqGuard op t x y vx vy; binOp op t vx vy) k := by
  unfold binQ at h
  split at h
  · rename_i kd a kd' b
    split at h
    · obtain ⟨h0, n, rfl, h⟩ := h
      exact ⟨_, fun w' _ => by simp [eqGuard_shl, binOp, Op.shift, show ¬ b < 0 by omega], h⟩
    · obtain ⟨h0, n, rfl, h⟩ := h
      exact ⟨_, fun w' _ => by simp [eqGuard_shr, binOp, Op.shift, show ¬ b < 0 by omega], h⟩
    · rename_i hl hr
      split at h
      · exact halt h
      · rename_i hk _
        subst hk
        split at h
        case h_16 => exact halt h
        all_goals first
          | (obtain ⟨n, rfl, h⟩ := h
             refine ⟨_, fun w' _ => ?_, h⟩
             first
              | (simp [eqGuard_at_int, binOp, Op.intArith]; done)
              | (simp [eqGuard_at_int, binOp, Op.intBits, bits]; done)
              | (simp [eqGuard_at_int, binOp, Op.intCmp]; done))
          | (obtain ⟨h0, n, rfl, h⟩ := h
             exact ⟨_, fun w' _ => by simp [eqGuard_at_int, binOp, Op.intDiv, h0], h⟩)
  · exact halt h

theorem unQ_sound {r : Bool} {op : UnOp} {v : Value} {alt : Tree} {k : Value → Tree}
    (halt : Ok P Q alt C w → QR P Q r C w (Op.unary op v) k) (h : Ok P Q (unQ op v alt k) C w) : QR P Q r C w (Op.unary op v) k := by
  unfold unQ at h
  split at h
  · obtain ⟨n, rfl, h⟩ := h
    exact ⟨_, fun w' _ => by simp [Op.unary], h⟩
  · obtain ⟨n, rfl, h⟩ := h
    exact ⟨_, fun w' _ => by simp [Op.unary, Op.intArith], h⟩
  · obtain ⟨n, rfl, h⟩ := h
    exact ⟨_, fun w' _ => by simp [Op.unary, Op.intBits, bits], h⟩
  · exact halt h

theorem QR_pure {r : Bool} {v : Value} {k : Value → Tree} (h : Ok P Q (k v) C w) : QR P Q r C w (pure v) k := ⟨v, fun _ _ => rfl, h⟩

theorem run_loadCells_arr {b off n : Nat} {cs : Array Value} (hn : cs.size = n) (h : ∀ j, j < n → w.cell? ⟨b, off + j, none⟩ = cs[j]?) :
    (loadCells ⟨b, off, none⟩ n).run P w = .ok cs w := by
  have := run_loadCells_list (P := P) w ⟨b, off, none⟩ cs.toList (fun j v hv => by
    have hj : j < n := by
      have := (List.getElem?_eq_some_iff.1 hv).1
      simpa [hn] using this
    rw [Addr.add_lit, h j hj]
    simpa using hv)
  simpa [hn] using this

theorem nth_mem {α : Type} {l : List α} {i : Nat} {x : α} (h : l[i]? = some x) : x ∈ l := List.mem_of_getElem? h

theorem opQ_sound (hA : Agrees P ty zr) {r : Bool} {o : Oper} {tm : List Value} {k : Value → Tree} (hq : isQ o = true) (h : Ok P Q (opQ ty r o tm k) C w) :
    ∃ v, (∀ w', Dm r C w w' → (execOp (act tm).eval o).run P w' = .ok (.value v) w') ∧ Ok P Q (k v) C w := by
  -- what stands behind 'v'
  have lift : ∀ e : Sem Value, execOp (act tm).eval o = (do pure (.value (← e))) → QR P Q r C w e k →
      ∃ v, (∀ w', Dm r C w w' → (execOp (act tm).eval o).run P w' = .ok (.value v) w') ∧ Ok P Q (k v) C w := fun e he ⟨v, h1, h2⟩ =>
    ⟨v, fun w' hw' => by rw [he]; simp [h1 w' hw'], h2⟩
  have back : ∀ e : Sem Value, execOp (act tm).eval o = (do pure (.value (← e))) → Ok P Q (.val r o tm k) C w → QR P Q r C w e k := fun e he ⟨v, h1, h2⟩ => by
    refine ⟨v, fun w' hw' => ?_, h2⟩
    have h3 := h1 w' hw'
    rw [he] at h3
    simp only [Sem.run_bind] at h3
    generalize e.run P w' = q at h3
    cases q with
    | ok u w'' =>
      simp at h3
      rw [h3.1, h3.2]
    | halt x w'' => simp at h3
  unfold opQ at h
  simp only [] at h
  split at h
  · -- move
    rename_i x ho
    rw [rd_eq] at h
    exact ⟨_, fun w' _ => by simp [execOp, ho], h⟩
  · rename_i x ho
    rw [rd_eq] at h
    exact ⟨_, fun w' _ => by simp [execOp, ho], h⟩
  · -- pick
    rename_i c a b ho
    rw [rd_eq] at h
    split at h
    · rename_i cb hc
      rw [rd_eq, rd_eq] at h
      cases cb with
      | true => exact ⟨_, fun w' _ => by simp [execOp, ho, hc, asBool], h.1 rfl⟩
      | false => exact ⟨_, fun w' _ => by simp [execOp, ho, hc, asBool], h.2 rfl⟩
    · exact h
  · -- binOp
    rename_i op t x y yt ho
    rw [rd_eq, rd_eq] at h
    have he : execOp (act tm).eval o = (do pure (.value (← (do eqGuard op t x y ((act tm).eval x) ((act tm).eval y); binOp op t ((act tm).eval x) ((act tm).eval y))))) := by simp only [execOp, ho]
    exact lift _ he (binQ_sound (back _ he) h)
  · -- unOp
    rename_i op t x ho
    rw [rd_eq] at h
    have he : execOp (act tm).eval o = (do pure (.value (← Op.unary op ((act tm).eval x)))) := by simp only [execOp, ho]
    exact lift _ he (unQ_sound (back _ he) h)
  · -- convert
    rename_i s d x ho
    rw [rd_eq] at h
    split at h
    · rename_i k0 n k1 kd hx hs hd
      obtain ⟨m, rfl, h⟩ := h
      have us := (tyOf_int ((hA.td s (by simp [hs])).trans hs)).1
      have ud := (tyOf_int ((hA.td d (by simp [hd])).trans hd)).1
      exact ⟨_, fun w' _ => by simp [execOp, ho, hx, convert, underlying, us, ud, Conv.intToInt], h⟩
    · exact h
  · -- nilCheck
    rename_i x ho
    rw [rd_eq] at h
    split at h
    · rename_i a hx
      exact ⟨_, fun w' _ => by simp [execOp, ho, hx], h⟩
    · exact h
  · -- fieldAddr
    rename_i t x f ho
    rw [rd_eq] at h
    split at h
    · rename_i b off offs n hx ht
      split at h
      · rename_i d hd
        obtain ⟨fs, hu, hmap, _, hsz⟩ := tyOf_struct ((hA.td t (by simp [ht])).trans ht)
        have hf : ∃ fl, fs[f]? = some fl ∧ fl.offset = d := by
          rw [← hmap, List.getElem?_map] at hd
          simp only [Array.getElem?_toList] at hd
          cases hq : fs[f]? with
          | none => simp [hq] at hd
          | some fl => exact ⟨fl, rfl, by simpa [hq] using hd⟩
        obtain ⟨fl, hfl, rfl⟩ := hf
        obtain ⟨m, hm0, hm⟩ := hsz fl (Array.mem_of_getElem? hfl)
        have hrun : ∀ w', (execOp (act tm).eval o).run P w' = .ok (.value (.pointer (some ⟨b, off + fl.offset, none⟩))) w' := fun w' => by
          simp [execOp, ho, hx, Instr.fieldAt, underlying, hu, hfl, Instr.sureAddr, fieldPlace, sizeIs_spec hm, hm0, Addr.add_lit]
        unfold offK at h
        split at h
        · rename_i h0
          rw [h0] at hrun
          exact ⟨_, fun w' _ => hrun w', h⟩
        · exact ⟨_, fun w' _ => hrun w', h⟩
      · exact h
    · exact h
  · -- indexAddr
    rename_i t x i ho
    rw [rd_eq, rd_eq] at h
    have atk : ∀ b off j e, Ok P Q (atK b off j e k) C w → Ok P Q (k (.pointer (some ⟨b, off + j * e, none⟩))) C w := fun b off j e h => by
      unfold atK at h
      split at h
      · simpa using h
      · exact h
    split at h
    · rename_i b off ki i' n e one hx hi ht
      obtain ⟨j, rfl, hj, h⟩ := h
      obtain ⟨el, hu, hsz, _, _⟩ := tyOf_arr ((hA.td t (by simp [ht])).trans ht)
      refine ⟨_, fun w' _ => ?_, atk _ _ _ _ h⟩
      have h1 : (j : Int) < (n : Int) := by omega
      have h2 : (0 : Int) ≤ (j : Int) := by omega
      simp [execOp, ho, hx, hi, Instr.indexAt, asIntOf, underlying, hu, Instr.sureAddr, hj, sizeIs_spec hsz, Addr.add_lit]
    · rename_i b off len cp ki i' e hx hi ht
      obtain ⟨j, rfl, hj, h⟩ := h
      obtain ⟨el, hu, hsz, _⟩ := tyOf_slice ((hA.td t (by simp [ht])).trans ht)
      refine ⟨_, fun w' _ => ?_, atk _ _ _ _ h⟩
      simp [execOp, ho, hx, hi, Instr.indexAt, asIntOf, underlying, hu, hj, sizeIs_spec hsz, Addr.add_lit]
    · exact h
  · -- index
    rename_i t x i ho
    rw [rd_eq, rd_eq] at h
    split at h
    · rename_i cs ki i' n hx hi ht
      obtain ⟨j, rfl, hj, v, hv, h⟩ := h
      obtain ⟨el, hu, hsz, _, hone⟩ := tyOf_arr ((hA.td t (by simp [ht])).trans ht)
      refine ⟨v, fun w' _ => ?_, h⟩
      have hag : (isAgg el).run P w' = .ok false w' := by
        unfold isOne at hone
        unfold isAgg
        split at hone
        · cases hone
        · cases hone
        · cases hone
        · rename_i d hd1 hd2 hd
          cases d <;> simp_all [underlying]
      simp [execOp, ho, hx, hi, Instr.index, asIntOf, underlying, hu, hj, sizeIs_spec hsz, part, hag, hv]
    · exact h
  · -- extract
    rename_i x i ho
    rw [rd_eq] at h
    split at h
    · rename_i vs hx
      split at h
      · rename_i v hv
        have hv' : vs[i]? = some v := by simpa using hv
        exact ⟨_, fun w' _ => by simp [execOp, ho, hx, Instr.extract, hv'], h⟩
      · exact h
    · exact h
  · -- load
    rename_i t x ho
    rw [rd_eq] at h
    split at h
    · rename_i b off hx
      split at h
      · exact h
      · rename_i n e one ht
        obtain ⟨cs, hn, hc, h⟩ := h
        obtain ⟨el, hu, _, hsz, _⟩ := tyOf_arr ((hA.td t (by simp [ht])).trans ht)
        exact ⟨_, fun w' hw' => by simp [execOp, ho, hx, Instr.loadAt, Instr.sureAddr, loadVar, isAgg, underlying, hu, sizeIs_spec hsz, run_loadCells_arr hn (hc w' hw')], h⟩
      · rename_i os n ht
        obtain ⟨cs, hn, hc, h⟩ := h
        obtain ⟨fs, hu, _, hsz, _⟩ := tyOf_struct ((hA.td t (by simp [ht])).trans ht)
        exact ⟨_, fun w' hw' => by simp [execOp, ho, hx, Instr.loadAt, Instr.sureAddr, loadVar, isAgg, underlying, hu, sizeIs_spec hsz, run_loadCells_arr hn (hc w' hw')], h⟩
      · rename_i h1 h2 h3
        obtain ⟨v, hv, h⟩ := h
        have ht := hA.td t h1
        have hone := fun w' => (tyOf_one (P := P) (t := t) (by rw [ht]; exact h1) (fun n e o => by rw [ht]; exact h2 n e o) (fun o n => by rw [ht]; exact h3 o n) w').1
        exact ⟨v, fun w' hw' => by simp [execOp, ho, hx, Instr.loadAt, Instr.sureAddr, loadVar, hone, hv w' hw'], h⟩
    · exact h
  · -- len
    rename_i args argTypes ho
    split at h
    · rename_i x t ha ht
      rw [rd_eq] at h
      have ha' : args = #[x] := by rw [← Array.toArray_toList (xs := args), ha]
      have ht' : argTypes = #[t] := by rw [← Array.toArray_toList (xs := argTypes), ht]
      subst ha' ht'
      split at h
      · rename_i a n c e hx htd
        obtain ⟨el, hu, _⟩ := tyOf_slice ((hA.td t (by simp [htd])).trans htd)
        exact ⟨_, fun w' _ => by simp [execOp, ho, resolve, invoke, builtin, Builtin.len_, hx, underlying, hu, goInt], h⟩
      · rename_i s hx htd
        have hu := tyOf_str ((hA.td t (by simp [htd])).trans htd)
        exact ⟨_, fun w' _ => by simp [execOp, ho, resolve, invoke, builtin, Builtin.len_, hx, underlying, hu, goInt], h⟩
      · exact h
    · exact h
  · exact h
end
end Go.Proofs.Ytmchiomkgbeofaa
