/- A region that draws its order, walked once: operations that only read may be taken first, in a class of worlds that the others keep. -/
import Derived.Test.YtdbjhhnphbnnlaaRows
import Derived.WalkKit
import Derived.StillTail
namespace Go.Proofs.Ytdbjhhnphbnnlaa
open Go

/-- No exit is asked for. -/
def QF : Exit → Act → World → Prop := fun _ _ _ => False

theorem QF_lets : ¬ LetsOut QF := fun ⟨_, _, h⟩ => h

theorem upon_QF {P : Program} {o : Oper} {a : Act} {K : Act → World → Prop} {Q : Exit → Act → World → Prop} {r : Result Next} (h : o.upon P a K QF r) : o.upon P a K Q r := by
  cases r with
  | ok n w' =>
    cases n <;> simp only [Oper.upon] at h ⊢ <;> first | exact h | skip
    case enter f args =>
      refine h.mono fun e w'' he => ?_
      cases e with
      | returned v => exact he
      | panicked c => exact he.elim
      | outgrown => exact (QF_lets he).elim
  | halt x w' =>
    cases x <;> simp only [Oper.upon] at h ⊢
    case panic v => exact h.elim

theorem wp_QF {P : Program} {o : Oper} {a : Act} {w : World} {K : Act → World → Prop} {Q : Exit → Act → World → Prop} (h : o.wp P a w K QF) : o.wp P a w K Q := upon_QF h

section
variable {P : Program} {ops : Array Oper} {C : World → Prop} {keep : Nat → Bool}

theorem wpOp_QF {Q : Exit → Act → World → Prop} {i : Nat} {a : Act} {w : World} {K : Act → World → Prop} (h : wpOp P ops QF i K a w) : wpOp P ops Q i K a w := by
  unfold wpOp at *
  split
  · rename_i ho; simpa [ho] using h
  · rename_i o ho
    simp only [ho] at h
    split
    · rename_i hw
      simp only [hw, if_true] at h
      exact .inl (wp_QF (h.resolve_right fun x => QF_lets x.2))
    · rename_i hw
      simp only [hw] at h
      exact h

/-- Every order from here on; what is marked keeps the class. -/
def wpC (P : Program) (ops : Array Oper) (C : World → Prop) (keep : Nat → Bool) (Q : Act → World → Prop) : Nat → Array Bool → Act → World → Prop
  | 0, listed, a, w => Region.ready .any ops listed = [] ∧ Q a w
  | n + 1, listed, a, w => (Region.ready .any ops listed = [] → Q a w) ∧
      ∀ i ∈ Region.ready .any ops listed, wpOp P ops QF i (fun a' w' => (keep i = true → C w') ∧ wpC P ops C keep Q n (listed.setIfInBounds i true) a' w') a w

theorem wpC_any {Q : Act → World → Prop} {Q' : Exit → Act → World → Prop} (hQ : ∀ a w, Q a w → Q' .normal a w) : ∀ (n : Nat) (listed : Array Bool) (a : Act) (w : World),
    wpC P ops C keep Q n listed a w → wpAny P .any ops Q' n listed a w
  | 0, _, _, _, h => ⟨h.1, hQ _ _ h.2⟩
  | n + 1, _, _, _, h => ⟨fun h0 => hQ _ _ (h.1 h0), fun i hi => wpOp_mono (fun a' w' h' => wpC_any hQ n _ a' w' h'.2) (wpOp_QF (h.2 i hi))⟩

/-- One value in every world of the class, which stays as it is. -/
def YC (P : Program) (ops : Array Oper) (C : World → Prop) (o : Oper) (v : Value) (a : Act) : Prop :=
  (Region.wanted o (yielded ops a.tmps) = true ∧ ∀ w, C w → (execOp a.eval o).run P w = .ok (.value v) w) ∨ (Region.wanted o (yielded ops a.tmps) = false ∧ v = undef)

theorem YC.wpOp {i : Nat} {o : Oper} {v : Value} {a : Act} {w : World} {K : Act → World → Prop} {Q : Exit → Act → World → Prop} (hi : ops[i]? = some o) (hy : YC P ops C o v a) (hC : C w) (h : K (a.put o.dst v) w) : wpOp P ops Q i K a w := by
  unfold Go.wpOp
  simp only [hi]
  rcases hy with ⟨hw, hv⟩ | ⟨hw, rfl⟩
  · simp only [hw, if_true, Oper.wp, hv w hC, Oper.upon]; exact .inl h
  · simp only [hw, Bool.false_eq_true, if_false]; exact h

theorem YC.same {o : Oper} {v : Value} {a a' : Act} (hy : YC P ops C o v a) (he : execOp a'.eval o = execOp a.eval o)
    (hw : Region.wanted o (yielded ops a'.tmps) = Region.wanted o (yielded ops a.tmps)) : YC P ops C o v a' := by
  unfold YC at *
  rw [he, hw]
  exact hy

/-- Another operation comes up ahead of it. -/
theorem wpOp_shift {j : Nat} {oi oj : Oper} {v : Value} (hj : ops[j]? = some oj) (hap : oi.apart ops oj = true)
    (hsi : ∀ cs b, oi.op ≠ .select cs b) (hsj : ∀ cs b, oj.op ≠ .select cs b) (hd : ∀ c, oj.op ≠ .defer c) {K : Act → World → Prop} {a : Act} {w : World}
    (hy : YC P ops C oi v a) (h : wpOp P ops QF j K (a.put oi.dst v) w) :
    wpOp P ops QF j (fun a' w' => YC P ops C oi v a' ∧ K (a'.put oi.dst v) w') a w := by
  obtain ⟨h1, h2, h3⟩ := Oper.apart_spec hap
  have stays : ∀ u, YC P ops C oi v (a.put oj.dst u) := fun u => hy.same (execOp_put oi hsi a oj.dst u h3) (wanted_put oi a oj.dst u h3)
  have both : ∀ u w', K ((a.put oi.dst v).put oj.dst u) w' → YC P ops C oi v (a.put oj.dst u) ∧ K ((a.put oj.dst u).put oi.dst v) w' := fun u w' h' =>
    ⟨stays u, by rw [← Act.put_comm a v u h2]; exact h'⟩
  unfold wpOp at *
  simp only [hj] at *
  rw [wanted_put oj a oi.dst v h1] at h
  split
  · rename_i hw
    simp only [hw, if_true] at h
    have h' := h.resolve_right fun x => QF_lets x.2
    refine .inl ?_
    unfold Oper.wp at *
    rw [execOp_put oj hsj a oi.dst v h1] at h'
    generalize hr : (execOp a.eval oj).run P w = r at *
    cases r with
    | ok n w' =>
      cases n <;> simp only [Oper.upon] at h' ⊢
      case value u => exact both u _ h'
      case skip => exact both _ _ h'
      case defer d =>
        refine ⟨(hy.same rfl rfl : YC P ops C oi v { a with defers := d :: a.defers }).same (execOp_put oi hsi _ oj.dst undef h3) (wanted_put oi _ oj.dst undef h3), ?_⟩
        rw [← Act.put_comm _ v undef h2, ← Act.put_defers]
        exact h'
      case enter f args =>
        refine h'.mono fun e w'' he => ?_
        cases e with
        | returned u => exact both u _ he
        | panicked c => exact he
        | outgrown => exact he
      case row row args => exact Rows.mono h' fun u w'' he => both u _ he
    | halt x w' =>
      cases x <;> simp only [Oper.upon] at h' ⊢
      case panic u => exact h'
  · rename_i hw
    simp only [hw] at h
    exact both _ _ h

/-- Which operations one waits for, near or far. -/
def waits (ops : Array Oper) : Nat → Nat → Nat → Bool
  | 0, _, _ => false
  | n + 1, j, i => match ops[j]? with
    | some o => o.after.any fun e => Region.binds .any e && (e.on == i || waits ops n e.on i)
    | none => false

/-- What is listed has what it waits for listed. -/
def Shut (ops : Array Oper) (listed : Array Bool) : Prop :=
  ∀ j o, ops[j]? = some o → listed.getD j false = true → ∀ e ∈ o.after, Region.binds .any e = true → listed.getD e.on false = true

theorem Shut.set {i : Nat} {listed : Array Bool} (h : Shut ops listed) (hi : i ∈ Region.ready .any ops listed) : Shut ops (listed.setIfInBounds i true) := by
  obtain ⟨_, oi, hoi, hall⟩ := mem_ready.1 hi
  intro j o hj hl e he hb
  by_cases hij : i = j
  · subst hij
    have : o = oi := Option.some.inj (hj.symm.trans hoi)
    subst this
    exact getD_set_true (hall e he hb)
  · rw [getD_set_ne false hij] at hl
    exact getD_set_true (h j o hj hl e he hb)

theorem listed_of_waits {listed : Array Bool} (h : Shut ops listed) : ∀ (n j i : Nat) (o : Oper), ops[j]? = some o → (∀ e ∈ o.after, Region.binds .any e = true → listed.getD e.on false = true) →
    waits ops n j i = true → listed.getD i false = true
  | 0, _, _, _, _, _, hw => by simp [waits] at hw
  | n + 1, j, i, o, ho, hall, hw => by
    simp only [waits, ho] at hw
    obtain ⟨e, he, hb⟩ := Array.any_eq_true'.1 hw
    simp only [Bool.and_eq_true, Bool.or_eq_true, beq_iff_eq] at hb
    have hl := hall e he hb.1
    rcases hb.2 with rfl | h2
    · exact hl
    · cases ho' : ops[e.on]? with
      | none => cases n <;> simp [waits, ho'] at h2
      | some o' => exact listed_of_waits h n e.on i o' ho' (fun e' he' hb' => h e.on o' ho' hl e' he' hb') h2

/-- May 'i' be taken first? -/
def freeB (ops : Array Oper) (keep : Nat → Bool) (listed : Array Bool) (i : Nat) : Bool :=
  match ops[i]? with
  | none => false
  | some oi => (List.range ops.size).all fun j => j == i || listed.getD j true || waits ops ops.size j i || match ops[j]? with
      | some oj => oi.apart ops oj && keep j
      | none => true

theorem getD_ft {listed : Array Bool} {i : Nat} (h : listed.getD i true = false) : listed.getD i false = false := by
  rcases Nat.lt_or_ge i listed.size with h' | h'
  · simp [h'] at h ⊢; exact h
  · simp [Array.getElem?_eq_none h'] at h

theorem wpC_first {Q : Act → World → Prop} {i : Nat} {oi : Oper} {v : Value} (hi : ops[i]? = some oi) (hsel : ∀ (j : Nat) (o : Oper), ops[j]? = some o → (∀ cs b, o.op ≠ .select cs b) ∧ ∀ c, o.op ≠ .defer c) :
    ∀ (n : Nat) (listed : Array Bool) (a : Act) (w : World), Shut ops listed →
      (∀ j oj, ops[j]? = some oj → j ≠ i → listed.getD j true = false → waits ops ops.size j i = false → oi.apart ops oj = true ∧ keep j = true) →
      i ∈ Region.ready .any ops listed → YC P ops C oi v a → C w →
      wpC P ops C keep Q n (listed.setIfInBounds i true) (a.put oi.dst v) w → wpC P ops C keep Q (n + 1) listed a w := by
  intro n
  induction n with
  | zero =>
    intro listed a w _ _ hr hy hC H
    refine ⟨fun h => (by rw [h] at hr; cases hr), fun j hj => ?_⟩
    by_cases hji : j = i
    · subst hji; exact hy.wpOp hi hC ⟨fun _ => hC, H⟩
    · have := ready_mono hj hji
      rw [H.1] at this
      cases this
  | succ n ih =>
    intro listed a w hs hfree hr hy hC H
    refine ⟨fun h => (by rw [h] at hr; cases hr), fun j hj => ?_⟩
    by_cases hji : j = i
    · subst hji; exact hy.wpOp hi hC ⟨fun _ => hC, H⟩
    · have h1 := H.2 j (ready_mono hj hji)
      obtain ⟨hjun, oj, hoj, hall⟩ := mem_ready.1 hj
      have hnw : waits ops ops.size j i = false := by
        cases hw : waits ops ops.size j i with
        | false => rfl
        | true =>
          have h2 := listed_of_waits hs _ j i oj hoj hall hw
          rw [getD_ft (mem_ready.1 hr).1] at h2
          cases h2
      obtain ⟨hap, hk⟩ := hfree j oj hoj hji hjun hnw
      have h2 := wpOp_shift hoj hap (hsel i oi hi).1 (hsel j oj hoj).1 (hsel j oj hoj).2 hy h1
      refine wpOp_mono (fun a' w' h3 => ⟨fun _ => h3.2.1 hk, ih (listed.setIfInBounds j true) a' w' (hs.set hj) ?_ (ready_mono hr (Ne.symm hji)) h3.1 (h3.2.1 hk) ?_⟩) h2
      · intro k ok hok hki hun hno
        refine hfree k ok hok hki ?_ hno
        by_cases hjk : j = k
        · subst hjk; exact hjun
        · rw [getD_set_ne true hjk] at hun; exact hun
      · rw [Array.setIfInBounds_comm _ _ hji]
        exact h3.2.2

theorem freeB_spec {i : Nat} {oi : Oper} {listed : Array Bool} (hi : ops[i]? = some oi) (h : freeB ops keep listed i = true) (j : Nat) (oj : Oper)
    (hj : ops[j]? = some oj) (hne : j ≠ i) (hun : listed.getD j true = false) (hno : waits ops ops.size j i = false) : oi.apart ops oj = true ∧ keep j = true := by
  simp only [freeB, hi, List.all_eq_true, List.mem_range] at h
  have h1 := h j (Array.getElem?_eq_some_iff.1 hj).1
  simp only [hj, Bool.or_eq_true, beq_iff_eq, hne, false_or, hun, Bool.false_eq_true, hno, Bool.and_eq_true] at h1
  exact h1

/-- An operation that only reads. -/
def isQ (o : Oper) : Bool :=
  match o.op with
  | .move _ | .assign _ | .pick .. | .binOp .. | .unOp .. | .convert .. | .nilCheck _ | .fieldAddr .. | .field .. | .indexAddr .. | .index .. | .extract .. | .load .. | .call { callee := .builtin .len, .. } => true
  | _ => false

/-- The order in which the region is walked: what reads first. -/
def ordB (ops : Array Oper) (keep : Nat → Bool) : List Nat → Array Bool → Bool
  | [], listed => (Region.ready .any ops listed).isEmpty
  | i :: rest, listed => (match ops[i]? with
      | some o => if isQ o then (Region.ready .any ops listed).contains i && freeB ops keep listed i else decide (Region.ready .any ops listed = [i])
      | none => false) && ordB ops keep rest (listed.setIfInBounds i true)

/-- The walk in that order; behind what does not only read, the class may be drawn closer. -/
def wpO (P : Program) (ops : Array Oper) (keep : Nat → Bool) (Q : Act → World → Prop) : List Nat → (World → Prop) → Act → World → Prop
  | [], _, a, w => Q a w
  | i :: rest, C, a, w => ∃ o, ops[i]? = some o ∧
      if isQ o then ∃ v, YC P ops C o v a ∧ C w ∧ wpO P ops keep Q rest C (a.put o.dst v) w
      else wpOp P ops QF i (fun a' w' => ∃ C' : World → Prop, (∀ u, C' u → C u) ∧ (keep i = true → C' w') ∧ wpO P ops keep Q rest C' a' w') a w

theorem wpC_closer {Q : Act → World → Prop} {C' : World → Prop} (hC : ∀ u, C' u → C u) : ∀ (n : Nat) (listed : Array Bool) (a : Act) (w : World), wpC P ops C' keep Q n listed a w → wpC P ops C keep Q n listed a w
  | 0, _, _, _, h => h
  | n + 1, _, _, _, h => ⟨h.1, fun i hi => wpOp_mono (fun a' w' h' => ⟨fun k => hC _ (h'.1 k), wpC_closer hC n _ a' w' h'.2⟩) (h.2 i hi)⟩

theorem wpC_of_O {Q : Act → World → Prop} (hsel : ∀ (j : Nat) (o : Oper), ops[j]? = some o → (∀ cs b, o.op ≠ .select cs b) ∧ ∀ c, o.op ≠ .defer c) :
    ∀ (ord : List Nat) (C : World → Prop) (listed : Array Bool) (a : Act) (w : World), Shut ops listed → ordB ops keep ord listed = true → wpO P ops keep Q ord C a w → wpC P ops C keep Q ord.length listed a w
  | [], _, _, _, _, _, hB, h => ⟨by simpa [ordB] using hB, h⟩
  | i :: rest, C, listed, a, w, hs, hB, h => by
    obtain ⟨o, ho, h⟩ := h
    simp only [ordB, ho, Bool.and_eq_true] at hB
    obtain ⟨hB1, hB2⟩ := hB
    by_cases hq : isQ o = true
    · simp only [hq, if_true, Bool.and_eq_true] at hB1 h
      obtain ⟨v, hy, hC, h⟩ := h
      have hr : i ∈ Region.ready .any ops listed := by simpa using hB1.1
      exact wpC_first ho hsel rest.length listed a w hs (freeB_spec ho hB1.2) hr hy hC (wpC_of_O hsel rest C _ _ _ (hs.set hr) hB2 h)
    · simp only [hq, decide_eq_true_eq] at hB1 h
      have hr : Region.ready .any ops listed = [i] := by simpa using hB1
      have hi : i ∈ Region.ready .any ops listed := by simp [hr]
      refine ⟨fun h0 => (by rw [hr] at h0; cases h0), fun j hj => ?_⟩
      rw [hr] at hj
      have : j = i := by simpa using hj
      subst this
      have h' : wpOp P ops QF j (fun a' w' => ∃ C' : World → Prop, (∀ u, C' u → C u) ∧ (keep j = true → C' w') ∧ wpO P ops keep Q rest C' a' w') a w := by simpa [hq] using h
      exact wpOp_mono (fun a' w' ⟨C', hC, hk, h'⟩ => ⟨fun k => hC _ (hk k), wpC_closer hC _ _ _ _ (wpC_of_O hsel rest C' _ a' w' (hs.set hi) hB2 h')⟩) h'

def plainB (ops : Array Oper) : Bool := ops.all fun o => match o.op with | .select .. | .defer .. => false | _ => true

theorem plainB_spec (h : plainB ops = true) (j : Nat) (o : Oper) (ho : ops[j]? = some o) : (∀ cs b, o.op ≠ .select cs b) ∧ ∀ c, o.op ≠ .defer c := by
  have := Array.all_eq_true_iff_forall_mem.1 h o (Array.mem_of_getElem? ho)
  exact ⟨fun cs b heq => by simp [heq] at this, fun c heq => by simp [heq] at this⟩

/-- All that is asked of an order, in one Bool. -/
def regB (ops : Array Oper) (keep : Nat → Bool) (ord : List Nat) : Bool :=
  plainB ops && (ord.length == ops.size) && ordB ops keep ord (Array.replicate ops.size false)

theorem wp_region_O {id : Nat} {Q : Exit → Act → World → Prop} {a : Act} {w : World} (hm : P.follows .mixedOrders = true) (keep : Nat → Bool) (ord : List Nat) (hB : regB ops keep ord = true)
    (h : wpO P ops keep (fun a w => Q .normal a w) ord C a { w with drawn := w.drawn + 1 }) : (Code.region id ops true).wp P Q a w := by
  simp only [regB, Bool.and_eq_true, beq_iff_eq] at hB
  obtain ⟨⟨h1, h2⟩, h3⟩ := hB
  refine wp_region_any hm ?_
  rw [← h2] 
  have hs : Shut ops (Array.replicate ord.length false) := fun j o _ hl => by
    have : (Array.replicate ord.length false).getD j false = false := by
      rcases Nat.lt_or_ge j ord.length with h | h <;> simp [h]
    rw [this] at hl; cases hl
  exact wpC_any (fun _ _ h => h) _ _ _ _ (wpC_of_O (plainB_spec h1) ord C _ _ _ hs (by rw [h2]; exact h3) h)
end
end Go.Proofs.Ytdbjhhnphbnnlaa
