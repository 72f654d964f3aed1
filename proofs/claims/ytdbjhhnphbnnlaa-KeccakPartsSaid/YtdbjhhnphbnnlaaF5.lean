/- Steps over the evaluator's tree, and this program's types. -/
import Derived.Test.YtdbjhhnphbnnlaaF4
namespace Go.Proofs.Ytdbjhhnphbnnlaa
open Go

section
variable {P : Program} {Q : Exit → Act → World → Prop} {C : World → Prop} {w : World} {T : Tree}

theorem ok_calc {e : Int} {k : Int → Tree} (hT : T = .calc e k) (n : Int) (hn : e = n) (h : Ok P Q (k n) C w) : Ok P Q T C w := by subst hT; exact ⟨n, hn, h⟩
theorem ok_calcB {e : Bool} {k : Bool → Tree} (hT : T = .calcB e k) (n : Bool) (hn : e = n) (h : Ok P Q (k n) C w) : Ok P Q T C w := by subst hT; exact ⟨n, hn, h⟩
theorem ok_test {p : Prop} {t : Tree} (hT : T = .test p t) (hp : p) (h : Ok P Q t C w) : Ok P Q T C w := by subst hT; exact ⟨hp, h⟩
theorem ok_idx {i : Int} {len : Nat} {k : Nat → Tree} (hT : T = .idx i len k) (j : Nat) (hi : i = (j : Int)) (hj : j < len) (h : Ok P Q (k j) C w) : Ok P Q T C w := by subst hT; exact ⟨j, hi, hj, h⟩
theorem ok_br {b : Bool} {t e : Tree} (hT : T = .br b t e) (h1 : b = true → Ok P Q t C w) (h2 : b = false → Ok P Q e C w) : Ok P Q T C w := by subst hT; exact ⟨h1, h2⟩
theorem ok_brT {b : Bool} {t e : Tree} (hT : T = .br b t e) (hb : b = true) (h : Ok P Q t C w) : Ok P Q T C w := by subst hT; exact ⟨fun _ => h, fun h' => (by rw [hb] at h'; cases h')⟩
theorem ok_brF {b : Bool} {t e : Tree} (hT : T = .br b t e) (hb : b = false) (h : Ok P Q e C w) : Ok P Q T C w := by subst hT; exact ⟨fun h' => (by rw [hb] at h'; cases h'), fun _ => h⟩
theorem ok_ld {a : Addr} {k : Value → Tree} {v : Value} (hT : T = .ld false a k) (hv : w.cell? a = some v) (h : Ok P Q (k v) C w) : Ok P Q T C w := by
  subst hT; exact ⟨v, fun w' hw' => (by have e : w' = w := (by simpa using hw'); rw [e]; exact hv), h⟩
theorem ok_ldC {a : Addr} {k : Value → Tree} {v : Value} (hT : T = .ld true a k) (hv : ∀ w', C w' → w'.cell? a = some v) (h : Ok P Q (k v) C w) : Ok P Q T C w := by
  subst hT; exact ⟨v, fun w' hw' => hv w' (by simpa using hw'), h⟩
theorem ok_ldR {b off n : Nat} {k : Array Value → Tree} {cs : Array Value} (hT : T = .ldR false b off n k) (hn : cs.size = n) (hv : ∀ j, j < n → w.cell? ⟨b, off + j, none⟩ = cs[j]?) (h : Ok P Q (k cs) C w) : Ok P Q T C w := by
  subst hT; exact ⟨cs, hn, fun w' hw' => (by have e : w' = w := (by simpa using hw'); rw [e]; exact hv), h⟩
theorem ok_ldRC {b off n : Nat} {k : Array Value → Tree} {cs : Array Value} (hT : T = .ldR true b off n k) (hn : cs.size = n) (hv : ∀ w', C w' → ∀ j, j < n → w'.cell? ⟨b, off + j, none⟩ = cs[j]?) (h : Ok P Q (k cs) C w) : Ok P Q T C w := by
  subst hT; exact ⟨cs, hn, fun w' hw' => hv w' (by simpa using hw'), h⟩
theorem ok_get {cs : Array Value} {j : Nat} {k : Value → Tree} {v : Value} (hT : T = .get cs j k) (hv : cs[j]? = some v) (h : Ok P Q (k v) C w) : Ok P Q T C w := by subst hT; exact ⟨v, hv, h⟩
theorem ok_val {o : Oper} {tm : List Value} {k : Value → Tree} {v : Value} (hT : T = .val false o tm k) (hv : (execOp (act tm).eval o).run P w = .ok (.value v) w) (h : Ok P Q (k v) C w) : Ok P Q T C w := by
  subst hT; exact ⟨v, fun w' hw' => (by have e : w' = w := (by simpa using hw'); rw [e]; exact hv), h⟩
theorem ok_valC {o : Oper} {tm : List Value} {k : Value → Tree} {v : Value} (hT : T = .val true o tm k) (hv : ∀ w', C w' → (execOp (act tm).eval o).run P w' = .ok (.value v) w') (h : Ok P Q (k v) C w) : Ok P Q T C w := by
  subst hT; exact ⟨v, fun w' hw' => hv w' (by simpa using hw'), h⟩
theorem ok_st {a : Addr} {v : Value} {t : Tree} (hT : T = .st a v t) (h1 : v.oneCell' = true) (h2 : (w.cell? a).isSome = true) (h3 : w.frozen? a = false) (h : Ok P Q t C (w.setCell a v)) : Ok P Q T C w := by
  subst hT; exact ⟨h1, h2, h3, h⟩
theorem ok_stR {b off n : Nat} {cs : Array Value} {t : Tree} (hT : T = .stR b off n cs t) (hn : cs.size = n) (h1 : ∀ v, v ∈ cs.toList → v.oneCell' = true)
    (h2 : ∀ j, j < n → (w.cell? ⟨b, off + j, none⟩).isSome = true ∧ w.frozen? ⟨b, off + j, none⟩ = false) (h : Ok P Q t C (stores w b off cs.toList)) : Ok P Q T C w := by
  subst hT; exact ⟨hn, h1, h2, h⟩
theorem ok_new {o : Obj} {k : Nat → Tree} (hT : T = .new o k) (h : Ok P Q (k w.heap.size) C (w.alloc o)) : Ok P Q T C w := by subst hT; exact h
theorem ok_newAt {o : Obj} {k : Nat → Tree} (hT : T = .new o k) (r : Nat) (hr : w.heap.size = r) (h : Ok P Q (k r) C (w.alloc o)) : Ok P Q T C w := by subst hT; subst hr; exact h
theorem ok_call {f : FuncId} {args : Array Value} {k : Value → Tree} {R : Ending → World → Prop} (hT : T = .call f args k) (hb : hasBody P f = true) (hc : Calls P f args w R)
    (h : ∀ e w', R e w' → ∃ v, e = .returned v ∧ Ok P Q (k v) C w') : Ok P Q T C w := by subst hT; exact ⟨hb, hc.mono h⟩
/-- A callee that leaves the world as it was. -/
theorem ok_callS {f : FuncId} {args : Array Value} {k : Value → Tree} {v : Value} (hT : T = .call f args k) (hb : hasBody P f = true) (hc : Calls P f args w fun e w' => e = .returned v ∧ w' = w)
    (h : Ok P Q (k v) C w) : Ok P Q T C w := by subst hT; exact ⟨hb, hc.mono fun e w' ⟨he, hw⟩ => ⟨v, he, by rw [hw]; exact h⟩⟩
theorem ok_raw {o : Oper} {tm : List Value} {k : Value → Tree} (hT : T = .raw o tm k) (h : o.wp P (act tm) w (fun a' w' => ∃ v, a' = (act tm).put o.dst v ∧ Ok P Q (k v) C w') QF) : Ok P Q T C w := by
  subst hT; exact h
/-- An operation that yields a value in another world. -/
theorem ok_rawV {o : Oper} {tm : List Value} {k : Value → Tree} {v : Value} {w1 : World} (hT : T = .raw o tm k) (hv : (execOp (act tm).eval o).run P w = .ok (.value v) w1) (h : Ok P Q (k v) C w1) : Ok P Q T C w := by
  subst hT
  show o.wp P (act tm) w _ QF
  unfold Oper.wp
  rw [hv]
  exact ⟨v, rfl, h⟩
/-- The same, its operation written out. -/
theorem ok_rawS {o : Oper} {tm : List Value} {k : Value → Tree} {v : Value} {w1 : World} (hT : T = .raw o tm k) (e : Sem Value) (he : execOp (act tm).eval o = (do pure (.value (← e)))) (hv : e.run P w = .ok v w1) (h : Ok P Q (k v) C w1) : Ok P Q T C w :=
  ok_rawV hT (by rw [he, Sem.run_bind, hv]; rfl) h
theorem ok_valS {o : Oper} {tm : List Value} {k : Value → Tree} {v : Value} (hT : T = .val false o tm k) (e : Sem Value) (he : execOp (act tm).eval o = (do pure (.value (← e)))) (hv : e.run P w = .ok v w) (h : Ok P Q (k v) C w) : Ok P Q T C w :=
  ok_val hT (by rw [he, Sem.run_bind, hv]; rfl) h
theorem ok_valCS {o : Oper} {tm : List Value} {k : Value → Tree} {v : Value} (hT : T = .val true o tm k) (e : Sem Value) (he : execOp (act tm).eval o = (do pure (.value (← e)))) (hv : ∀ w', C w' → e.run P w' = .ok v w') (h : Ok P Q (k v) C w) : Ok P Q T C w :=
  ok_valC hT (fun w' hw' => by rw [he, Sem.run_bind, hv w' hw']; rfl) h
theorem ok_draw {t : Tree} (hT : T = .draw t) (C' : World → Prop) (hC : C' w.drew) (h : Ok P Q t C' w.drew) : Ok P Q T C w := by subst hT; exact ⟨C', hC, h⟩
theorem ok_chk {t : Tree} (hT : T = .chk t) (hC : C w) (h : Ok P Q t C w) : Ok P Q T C w := by subst hT; exact ⟨C, fun _ h => h, hC, h⟩
/-- The class drawn closer. -/
theorem ok_chkC {t : Tree} (hT : T = .chk t) (C' : World → Prop) (hCC : ∀ u, C' u → C u) (hC : C' w) (h : Ok P Q t C' w) : Ok P Q T C w := by subst hT; exact ⟨C', hCC, hC, h⟩
theorem ok_stop {K : List Kont} {tm : List Value} (hT : T = .stop K tm) (h : kpost P Q K .normal (act tm) w) : Ok P Q T C w := by subst hT; exact h
theorem ok_finN {tm : List Value} (hT : T = .finN tm) (h : Q .normal (act tm) w) : Ok P Q T C w := by subst hT; exact h
theorem ok_finR {tm : List Value} (hT : T = .finR tm) (h : Q .ret (act tm) w) : Ok P Q T C w := by subst hT; exact h
theorem ok_back {B : List Value → World → Prop} {tm : List Value} (hT : T = .back B tm) (h : B tm w) : Ok P Q T C w := by subst hT; exact h
/-- At a loop. -/
theorem ok_loop {K : List Kont} {body : Code} {tm : List Value} (hT : T = .stop (.code (.loop body) :: K) tm) (I : List Value → World → Prop) (μ : List Value → World → Nat) (h0 : I tm w)
    (round : ∀ tm w, I tm w → kpost P Q (.code body :: .again (fun tm' w' => I tm' w' ∧ μ tm' w' < μ tm w) :: K) .normal (act tm) w) : Ok P Q T C w := by
  subst hT; exact kloop I μ h0 round

/-- Nothing was drawn, nothing is kept but the heap: the class of worlds of a region whose callees only draw. -/
def SameHeap (w0 w : World) : Prop := w.heap = w0.heap
theorem SameHeap.refl (w : World) : SameHeap w w := rfl
theorem SameHeap.cell {w0 w : World} (h : SameHeap w0 w) (a : Addr) : w.cell? a = w0.cell? a := by unfold World.cell?; rw [h]
end

def zI : Value := .int .i64 0
def zU : Value := .int .u64 0
def zB : Value := .int .u8 0

def ty : TypeId → TD := fun t => match t with
  | 3 => .int .i64 | 4 => .bool | 5 => .int .u8 | 9 => .str | 22 => .slice 1 | 23 => .arr 32 1 true | 32 => .int .u64 | 33 => .arr 25 1 true | 40 => .slice 1 | 41 => .ptr
  | 45 => .arr 25 1 true | 46 => .arr 24 1 true | 48 => .struct [0, 25, 50, 75, 99, 100] 101 | 51 => .int .u64 | 53 => .struct [0, 25] 49 | 60 => .ptr | 61 => .ptr | 62 => .ptr | 64 => .arr 5 1 true | _ => .other

def zr : TypeId → Option (Array Value) := fun t => match t with
  | 23 => some (Array.replicate 32 zB) | 33 => some (Array.replicate 25 zU) | 45 => some (Array.replicate 25 zI) | 46 => some (Array.replicate 24 zU) | 64 => some (Array.replicate 5 zU)
  | 53 => some (Array.replicate 25 zI ++ Array.replicate 24 zU) | _ => none

theorem zr_of {P : Program} {t : TypeId} {cs : Array Value} (h : ((P.info? t).bind (·.zero)).map Value.cells = some cs) : ∃ i z, P.info? t = some i ∧ i.zero = some z ∧ z.cells = cs := by
  cases hi : P.info? t with
  | none => simp [hi] at h
  | some i =>
    cases hz : i.zero with
    | none => simp [hi, hz] at h
    | some z => exact ⟨i, z, rfl, hz, by simpa [hi, hz] using h⟩

theorem agrees : Agrees Try.prog ty zr where
  td := fun t h => by
    unfold ty at h ⊢
    split at h <;> first | exact absurd rfl h | kernel_rfl
  zr := fun t cs h => by
    unfold zr at h
    split at h <;> cases h <;> exact zr_of (by kernel_rfl)
  mixed := by kernel_rfl

end Go.Proofs.Ytdbjhhnphbnnlaa
