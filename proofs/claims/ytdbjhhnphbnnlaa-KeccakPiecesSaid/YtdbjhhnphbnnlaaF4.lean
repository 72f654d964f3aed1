/- The evaluator of all operations, of regions and of code; and that it is right. -/
import Derived.Test.YtdbjhhnphbnnlaaF3
namespace Go.Proofs.Ytdbjhhnphbnnlaa
open Go

noncomputable def opN (ty : TypeId → TD) (zr : TypeId → Option (Array Value)) (o : Oper) (tm : List Value) (k : Value → Tree) : Tree :=
  let alt : Tree := .raw o tm k
  match o.op with
  | .store t x v => rd tm x fun x => rd tm v fun v => match x with
    | .pointer (some ⟨b, off, none⟩) => match ty t with
      | .other => alt
      | .arr n e _ => match v with
        | .agg cs => .stR b off (n * e) cs (k undef)
        | _ => alt
      | .struct _ n => match v with
        | .agg cs => .stR b off n cs (k undef)
        | _ => alt
      | _ => .st ⟨b, off, none⟩ v (k undef)
    | _ => alt
  | .alloc t => match zr t with
    | some cs => .new (.cells cs t) fun n => k (.pointer (some ⟨n, 0, none⟩))
    | none => alt
  | .box t x => rd tm x fun x => match x with
    | .agg cs => .new (.cells cs t) fun n => k (.pointer (some ⟨n, 0, none⟩))
    | .tuple _ => alt
    | v => .new (.cells #[v] t) fun n => k (.pointer (some ⟨n, 0, none⟩))
  | .call { callee := .value f, args, .. } => rd tm f fun f => match f with
    | .func (.func g) ⟨[]⟩ ⟨[]⟩ => rds tm args.toList fun vs => .call g vs.toArray k
    | _ => alt
  | _ => alt

noncomputable def opK (ty : TypeId → TD) (zr : TypeId → Option (Array Value)) (r : Bool) (o : Oper) (tm : List Value) (k : Value → Tree) : Tree :=
  match isQ o with
  | true => opQ ty r o tm k
  | false => opN ty zr o tm k

/-- What a guard looks at. -/
noncomputable def yldK (ops : List Oper) (tm : List Value) (j : Nat) (k : Value → Tree) : Tree :=
  match ops[j]? with
  | some o => match o.dst with
    | some d => nthK undef tm d k
    | none => k undef
  | none => k undef

def brK (want : Bool) (A B : Tree) (v : Value) : Tree :=
  match v with
  | .bool b => match want with
    | true => .br b A B
    | false => .br b B A
  | _ => B

noncomputable def grdK (ops : List Oper) (o : Oper) (tm : List Value) (A B : Tree) : Tree :=
  match o.guard with
  | none => A
  | some (j, want) => yldK ops tm j (brK want A B)

noncomputable def opsK (ty : TypeId → TD) (zr : TypeId → Option (Array Value)) (ops : List Oper) (l : List Oper) : List Value → (List Value → Tree) → Tree :=
  List.rec (motive := fun _ => List Value → (List Value → Tree) → Tree) (fun tm k => k tm)
    (fun o _ ih tm k => grdK ops o tm (opK ty zr false o tm fun v => putK tm o.dst v fun tm' => ih tm' k) (putK tm o.dst undef fun tm' => ih tm' k)) l

def chkK (o : Oper) (rest : List Nat) (t : Tree) : Tree :=
  match isQ o with
  | true => t
  | false => match rest with
    | [] => t
    | _ :: _ => .chk t

noncomputable def regK (ty : TypeId → TD) (zr : TypeId → Option (Array Value)) (ops : List Oper) (l : List Nat) : List Value → (List Value → Tree) → Tree :=
  List.rec (motive := fun _ => List Value → (List Value → Tree) → Tree) (fun tm k => k tm)
    (fun i rest ih tm k => match ops[i]? with
      | none => .fail
      | some o => grdK ops o tm (opK ty zr true o tm fun v => chkK o rest (putK tm o.dst v fun tm' => ih tm' k)) (chkK o rest (putK tm o.dst undef fun tm' => ih tm' k))) l

theorem regK_cons (ty : TypeId → TD) (zr : TypeId → Option (Array Value)) (ops : List Oper) (i : Nat) (rest : List Nat) (tm : List Value) (k : List Value → Tree) : regK ty zr ops (i :: rest) tm k = match ops[i]? with
      | none => .fail
      | some o => grdK ops o tm (opK ty zr true o tm fun v => chkK o rest (putK tm o.dst v fun tm' => regK ty zr ops rest tm' k)) (chkK o rest (putK tm o.dst undef fun tm' => regK ty zr ops rest tm' k)) := rfl

noncomputable def popTo (id : Nat) (K : List Kont) : Option (List Kont) :=
  List.rec (motive := fun _ => Option (List Kont)) none (fun k K ih => match k with
    | .blk j => if id = j then some K else ih
    | _ => ih) K

def kp (ord : List Nat) (i : Nat) : Bool := some i != ord.getLast?

noncomputable def stepK (ty : TypeId → TD) (zr : TypeId → Option (Array Value)) (od : Nat → List Nat) (run : List Kont → List Value → Tree) (K : List Kont) (tm : List Value) : Tree :=
  match K with
  | [] => .finN tm
  | .again B :: _ => .back B tm
  | .blk _ :: K => run K tm
  | .code c :: K => match c with
    | .skip => run K tm
    | .seq x y => run (.code x :: .code y :: K) tm
    | .block id c => run (.code c :: .blk id :: K) tm
    | .cond c x y => rd tm c fun b => match b with
      | .bool b => .br b (run (.code x :: K) tm) (run (.code y :: K) tm)
      | _ => .fail
    | .exit id => match popTo id K with
      | some K' => run K' tm
      | none => .fail
    | .ret => .finR tm
    | .loop body => .stop (.code (.loop body) :: K) tm
    | .region id ops true => .test (regB ops (kp (od id)) (od id) = true) (.draw (regK ty zr ops.toList (od id) tm fun tm' => run K tm'))
    | .region _ ops false => opsK ty zr ops.toList ops.toList tm fun tm' => run K tm'
    | _ => .fail

noncomputable def runK (ty : TypeId → TD) (zr : TypeId → Option (Array Value)) (od : Nat → List Nat) (n : Nat) : List Kont → List Value → Tree :=
  Nat.rec (motive := fun _ => List Kont → List Value → Tree) (fun _ _ => .fail) (fun _ ih => stepK ty zr od ih) n

theorem runK_succ (ty : TypeId → TD) (zr : TypeId → Option (Array Value)) (od : Nat → List Nat) (n : Nat) : runK ty zr od (n + 1) = stepK ty zr od (runK ty zr od n) := rfl

section
variable {P : Program} {Q : Exit → Act → World → Prop} {ty : TypeId → TD} {zr : TypeId → Option (Array Value)} {C : World → Prop} {w : World} {od : Nat → List Nat}

theorem cell_isSome_setCell {w : World} {a b : Addr} {v : Value} (h : (w.cell? b).isSome = true) : ((w.setCell a v).cell? b).isSome = true := by
  obtain ⟨u, hu⟩ := Option.isSome_iff_exists.1 h
  by_cases e : a = b
  · subst e; rw [World.cell?_setCell_same w a v hu]; rfl
  · rw [World.cell?_setCell_other _ _ _ _ (fun h => e h)]; exact h

theorem run_storeCells_stores (b off : Nat) : ∀ (l : List Value) (i : Nat) (w : World), (∀ v, v ∈ l → v.oneCell' = true) →
    (∀ j, j < l.length → (w.cell? ⟨b, off + i + j, none⟩).isSome = true ∧ w.frozen? ⟨b, off + i + j, none⟩ = false) →
    (storeCells ⟨b, off, none⟩ l i).run P w = .ok () (stores w b (off + i) l)
  | [], i, w, _, _ => by simp [storeCells, stores]
  | v :: l, i, w, h1, h2 => by
    have h0 := h2 0 (by simp)
    simp only [Nat.add_zero] at h0
    obtain ⟨u, hu⟩ := Option.isSome_iff_exists.1 h0.1
    have ih := run_storeCells_stores b off l (i + 1) (w.setCell ⟨b, off + i, none⟩ v) (fun v hv => h1 v (by simp [hv])) (fun j hj => by
      have h3 := h2 (j + 1) (by simp; omega)
      rw [show off + i + (j + 1) = off + (i + 1) + j by omega] at h3
      refine ⟨cell_isSome_setCell h3.1, ?_⟩
      rw [World.frozen?_setCell]; exact h3.2)
    simp only [storeCells, Sem.run_bind, Addr.add_lit, run_store P w _ v _ (h1 v (by simp)), hu, h0.2, Bool.false_eq_true, if_false, Result.andThen_ok, ih, stores]
    rfl

theorem cells_one {v : Value} (h : v.oneCell' = true) : v.cells = #[v] := by cases v <;> simp [Value.cells, Value.oneCell'] at h ⊢

theorem opN_sound (hA : Agrees P ty zr) {o : Oper} {tm : List Value} {k : Value → Tree} (h : Ok P Q (opN ty zr o tm k) C w) :
    o.wp P (act tm) w (fun a' w' => ∃ v, a' = (act tm).put o.dst v ∧ Ok P Q (k v) C w') QF := by
  have row : ∀ (t : TypeId) (x y : Operand) (b off n : Nat) (cs : Array Value), o.op = .store t x y → (act tm).eval x = .pointer (some ⟨b, off, none⟩) → (act tm).eval y = .agg cs →
      sizeIs P t n = true → Ok P Q (.stR b off n cs (k undef)) C w → o.wp P (act tm) w (fun a' w' => ∃ v, a' = (act tm).put o.dst v ∧ Ok P Q (k v) C w') QF := by
    intro t x y b off n cs ho hx hy hsz ⟨hn, h1, h2, h⟩
    have := run_storeCells_stores (P := P) b off cs.toList 0 w h1 (fun j hj => by
      rw [Nat.add_zero]
      exact h2 j (by simpa [hn] using hj))
    simp only [Nat.add_zero] at this
    simp only [Oper.wp, execOp, ho, hx, hy, Instr.storeAt, Instr.sureAddr, storeVar, Sem.run_bind, Sem.run_pure, Result.andThen_ok, sizeIs_spec hsz, Value.cells, hn, ne_eq, not_true_eq_false, if_false, this, Oper.upon]
    exact ⟨undef, rfl, h⟩
  have mk : ∀ (t : TypeId) (cs : Array Value), (execOp (act tm).eval o).run P w = .ok (.value (.pointer (some ⟨w.heap.size, 0, none⟩))) (w.alloc (.cells cs t)) →
      Ok P Q (.new (.cells cs t) fun n => k (.pointer (some ⟨n, 0, none⟩))) C w → o.wp P (act tm) w (fun a' w' => ∃ v, a' = (act tm).put o.dst v ∧ Ok P Q (k v) C w') QF := by
    intro t cs hr h
    simp only [Oper.wp, hr, Oper.upon]
    exact ⟨_, rfl, h⟩
  unfold opN at h
  simp only [] at h
  split at h
  · -- store
    rename_i t x y ho
    rw [rd_eq, rd_eq] at h
    split at h
    · rename_i b off hx
      split at h
      · exact h
      · rename_i n e one ht
        split at h
        · rename_i cs hy
          obtain ⟨el, hu, _, hsz, _⟩ := tyOf_arr ((hA.td t (by simp [ht])).trans ht)
          exact row t x y b off _ cs ho hx hy hsz h
        · exact h
      · rename_i os n ht
        split at h
        · rename_i cs hy
          obtain ⟨fs, hu, _, hsz, _⟩ := tyOf_struct ((hA.td t (by simp [ht])).trans ht)
          exact row t x y b off _ cs ho hx hy hsz h
        · exact h
      · rename_i h1 h2 h3
        obtain ⟨ho1, hc, hf, h⟩ := h
        have ht := hA.td t h1
        have hsz := (tyOf_one (P := P) (t := t) (by rw [ht]; exact h1) (fun n e o => by rw [ht]; exact h2 n e o) (fun o n => by rw [ht]; exact h3 o n) w).2
        obtain ⟨u, hu⟩ := Option.isSome_iff_exists.1 hc
        simp only [Oper.wp, execOp, ho, hx, Instr.storeAt, Instr.sureAddr, storeVar, Sem.run_bind, Sem.run_pure, Result.andThen_ok, sizeIs_spec hsz, cells_one ho1, storeCells, Addr.add_lit, Nat.add_zero,
          run_store P w _ _ _ ho1, hu, hf, Oper.upon, ne_eq, not_true_eq_false, if_false, List.size_toArray, List.length_cons, List.length_nil, Nat.zero_add, Bool.false_eq_true]
        exact ⟨undef, rfl, h⟩
    · exact h
  · -- alloc
    rename_i t ho
    split at h
    · rename_i cs hz
      obtain ⟨i, z, hi, hz', rfl⟩ := hA.zr t _ hz
      exact mk t _ (by simp [execOp, ho, Instr.alloc, zeroValue, typeInfo, hi, hz', newVar, newRow]) h
    · exact h
  · -- box
    rename_i t x ho
    rw [rd_eq] at h
    split at h
    · rename_i cs hx
      exact mk t cs (by simp [execOp, ho, hx, Instr.box, newVar, newRow, Value.cells]) h
    · exact h
    · rename_i h1 h2
      refine mk t _ ?_ h
      have hc : ((act tm).eval x).cells = #[(act tm).eval x] := cells_one (by
        cases hv : (act tm).eval x <;> simp [Value.oneCell'] <;> first | exact (h1 _ hv).elim | exact (h2 _ hv).elim)
      simp [execOp, ho, Instr.box, newVar, newRow, hc]
  · -- call
    rename_i f args _ ho
    rw [rd_eq] at h
    split at h
    · rename_i g hf
      rw [rds_eq] at h
      obtain ⟨hb, h⟩ := h
      unfold hasBody at hb
      split at hb
      · rename_i fn hfn
        simp only [Bool.and_eq_true, bne_iff_ne, ne_eq] at hb
        have hname : (fn.name == "runtime.NumGoroutine") = false := by simpa using hb.1
        have hbody : fn.body.isNone = false := by cases hq : fn.body <;> simp_all
        have hargs : args.map (act tm).eval = (args.toList.map (act tm).eval).toArray := by rw [← Array.toList_map]
        simp only [Oper.wp, execOp, ho, resolve, Deferred.ofValue, hf, invoke, callFunc, Sem.run_bind, Sem.run_pure, Result.andThen_ok, run_program, hfn, hname, hbody, Bool.false_eq_true, if_false, Oper.upon, hargs]
        have e1 : ∀ X : Array Value, ((⟨[]⟩ : Array Value) ++ X) ++ (⟨[]⟩ : Array Value) = X := fun X => by simp
        rw [e1]
        exact h.mono fun e w' ⟨v, he, hok⟩ => by subst he; exact ⟨v, rfl, hok⟩
      · cases hb
    · exact h
  · exact h

theorem opK_sound (hA : Agrees P ty zr) {r : Bool} {o : Oper} {tm : List Value} {k : Value → Tree} (hr : r = true → C w) (h : Ok P Q (opK ty zr r o tm k) C w) :
    o.wp P (act tm) w (fun a' w' => ∃ v, a' = (act tm).put o.dst v ∧ Ok P Q (k v) C w') QF := by
  unfold opK at h
  split at h
  · rename_i hq
    obtain ⟨v, h1, h2⟩ := opQ_sound hA hq h
    have h3 := h1 w (by unfold Dm; split; exact hr (by assumption); rfl)
    simp only [Oper.wp, h3, Oper.upon]
    exact ⟨v, rfl, h2⟩
  · exact opN_sound hA h

theorem yldK_eq {ops : List Oper} {tm : List Value} {j : Nat} {k : Value → Tree} : ∃ v, yldK ops tm j k = k v ∧
    yielded ops.toArray (act tm).tmps j = (match v with | .bool b => some b | _ => none) := by
  unfold yldK yielded
  simp only [List.getElem?_toArray]
  cases ho : ops[j]? with
  | none => exact ⟨undef, rfl, by simp [undef]⟩
  | some o =>
    cases hd : o.dst with
    | none => exact ⟨undef, by simp [hd], by simp [hd, undef]⟩
    | some d =>
      refine ⟨tm.getD d undef, by simp [hd, nthK_eq], ?_⟩
      simp only [Option.bind_some, hd, act, List.getElem?_toArray, List.getD]
      cases ht : tm[d]? with
      | none => simp [undef]
      | some v => cases v <;> rfl

/-- A guard, decided. -/
theorem grdK_sound {ops : List Oper} {o : Oper} {tm : List Value} {A B : Tree} (h : Ok P Q (grdK ops o tm A B) C w) :
    (Region.wanted o (yielded ops.toArray (act tm).tmps) = true ∧ Ok P Q A C w) ∨ (Region.wanted o (yielded ops.toArray (act tm).tmps) = false ∧ Ok P Q B C w) := by
  unfold grdK at h
  unfold Region.wanted
  cases hg : o.guard with
  | none => simp only [hg] at h; exact .inl ⟨rfl, h⟩
  | some g =>
    obtain ⟨j, want⟩ := g
    simp only [hg] at h ⊢
    obtain ⟨v, hv, hy⟩ := yldK_eq (ops := ops) (tm := tm) (j := j) (k := brK want A B)
    rw [hv] at h
    rw [hy]
    cases v with
    | bool b =>
      cases want <;> cases b <;> simp only [brK] at h
      · exact .inl ⟨by simp, h.2 rfl⟩
      · exact .inr ⟨by simp, h.1 rfl⟩
      · exact .inr ⟨by simp, h.2 rfl⟩
      · exact .inl ⟨by simp, h.1 rfl⟩
    | _ => exact .inr ⟨by simp, h⟩

theorem opsK_sound (hA : Agrees P ty zr) {Q' : Exit → Act → World → Prop} {ops : List Oper} {k : List Value → Tree} (hk : ∀ tm w, Ok P Q (k tm) C w → Q' .normal (act tm) w) :
    ∀ (l : List Oper) (tm : List Value) (w : World), Ok P Q (opsK ty zr ops l tm k) C w → wpList P ops.toArray Q' l (act tm) w
  | [], tm, w, h => hk tm w h
  | o :: l, tm, w, h => by
    unfold wpList
    rcases grdK_sound h with ⟨hw, h⟩ | ⟨hw, h⟩
    · rw [if_pos hw]
      refine .inl (wp_QF ?_)
      have := opK_sound (r := false) hA (fun e => by cases e) h
      refine Oper.wp_mono (fun a' w' => ?_) this
      rintro ⟨v, rfl, h'⟩
      rw [putK_eq] at h'
      rw [act_put]
      exact opsK_sound hA hk l _ _ h'
    · rw [if_neg (by simp [hw])]
      rw [putK_eq] at h
      rw [act_put]
      exact opsK_sound hA hk l _ _ h

theorem chkK_sound {o : Oper} {rest : List Nat} {t : Tree} (h : Ok P Q (chkK o rest t) C w) : ∃ C' : World → Prop, (∀ u, C' u → C u) ∧ (isQ o = false → rest ≠ [] → C' w) ∧ (isQ o = true → C' = C) ∧ Ok P Q t C' w := by
  unfold chkK at h
  split at h
  · rename_i hq; exact ⟨C, fun _ h => h, fun h0 => (by rw [hq] at h0; cases h0), fun _ => rfl, h⟩
  · rename_i hq
    split at h
    · exact ⟨C, fun _ h => h, fun _ h0 => (h0 rfl).elim, fun _ => rfl, h⟩
    · obtain ⟨C', h1, h2, h3⟩ := h
      exact ⟨C', h1, fun _ _ => h2, fun h0 => (by rw [hq] at h0; cases h0), h3⟩

theorem kp_last {ord : List Nat} {i : Nat} {rest pre : List Nat} (h : ord = pre ++ i :: rest) (hk : kp ord i = true) : rest ≠ [] := by
  intro e
  subst e h
  simp [kp] at hk

theorem regK_sound (hA : Agrees P ty zr) {ops : List Oper} {ord : List Nat} {k : List Value → Tree} {F : Act → World → Prop} (hk : ∀ (C : World → Prop) tm w, Ok P Q (k tm) C w → F (act tm) w) :
    ∀ (l pre : List Nat) (tm : List Value) (C : World → Prop) (w : World), ord = pre ++ l → (l ≠ [] → C w) → Ok P Q (regK ty zr ops l tm k) C w → wpO P ops.toArray (kp ord) F l C (act tm) w
  | [], _, tm, C, w, _, _, h => hk C tm w h
  | i :: l, pre, tm, C, w, ho, hC, h => by
    have hCw := hC (by simp)
    rw [regK_cons] at h
    cases hi : ops[i]? with
    | none => rw [hi] at h; exact h.elim
    | some o =>
      simp only [hi] at h
      refine ⟨o, by simpa using hi, ?_⟩
      have ho' : ord = (pre ++ [i]) ++ l := by simp [ho]
      by_cases hq : isQ o = true
      · rw [if_pos hq]
        rcases grdK_sound h with ⟨hw, h⟩ | ⟨hw, h⟩
        · simp only [opK, hq] at h
          obtain ⟨v, h1, h2⟩ := opQ_sound hA hq h
          refine ⟨v, .inl ⟨hw, fun w' hw' => h1 w' hw'⟩, hCw, ?_⟩
          obtain ⟨C', _, _, h4, h3⟩ := chkK_sound h2
          rw [h4 hq, putK_eq] at h3
          rw [act_put]
          exact regK_sound hA hk l _ _ C _ ho' (fun _ => hCw) h3
        · refine ⟨undef, .inr ⟨hw, rfl⟩, hCw, ?_⟩
          obtain ⟨C', _, _, h4, h3⟩ := chkK_sound h
          rw [h4 hq, putK_eq] at h3
          rw [act_put]
          exact regK_sound hA hk l _ _ C _ ho' (fun _ => hCw) h3
      · have hq' : isQ o = false := by simpa using hq
        rw [if_neg hq]
        unfold wpOp
        have hget : ops.toArray[i]? = some o := by simpa using hi
        simp only [hget]
        rcases grdK_sound h with ⟨hw, h⟩ | ⟨hw, h⟩
        · rw [if_pos hw]
          refine .inl (Oper.wp_mono (fun a' w' => ?_) (opK_sound (r := true) hA (fun _ => hCw) h))
          rintro ⟨v, rfl, h2⟩
          obtain ⟨C', hcc, hc, _, h3⟩ := chkK_sound h2
          rw [putK_eq] at h3
          rw [act_put]
          exact ⟨C', hcc, fun hkp => hc hq' (kp_last ho hkp), regK_sound hA hk l _ _ C' _ ho' (fun hl => hc hq' hl) h3⟩
        · rw [if_neg (by simp [hw])]
          obtain ⟨C', hcc, hc, _, h3⟩ := chkK_sound h
          rw [putK_eq] at h3
          rw [act_put]
          exact ⟨C', hcc, fun hkp => hc hq' (kp_last ho hkp), regK_sound hA hk l _ _ C' _ ho' (fun hl => hc hq' hl) h3⟩

theorem kpost_code (c : Code) (K : List Kont) : kpost P Q (.code c :: K) = Exit.then (fun a w => c.wp P (kpost P Q K) a w) (kpost P Q K) := by
  funext e a w; cases e <;> rfl
theorem kpost_blk (id : Nat) (K : List Kont) : kpost P Q (.blk id :: K) = Exit.inBlock id (kpost P Q K) := by
  funext e a w; cases e <;> rfl
theorem kpost_again (B : List Value → World → Prop) (K : List Kont) : kpost P Q (.again B :: K) = Exit.then (fun a w => a.defers = [] ∧ B a.tmps.toList w) (kpost P Q K) := by
  funext e a w; cases e <;> rfl

theorem kpost_exit {id : Nat} {a : Act} {w : World} : ∀ {K K' : List Kont}, popTo id K = some K' → kpost P Q K' .normal a w → kpost P Q K (.exit id) a w
  | [], _, h, _ => by cases h
  | .blk j :: K, K', h, h' => by
    have h : (if id = j then some K else popTo id K) = some K' := h
    simp only [kpost]
    split at h
    · rename_i e
      rw [if_pos e]
      cases h
      exact h'
    · rename_i e
      rw [if_neg e]
      exact kpost_exit h h'
  | .code _ :: K, K', h, h' => by have h : popTo id K = some K' := h; simp only [kpost]; exact kpost_exit h h'
  | .again _ :: K, K', h, h' => by have h : popTo id K = some K' := h; simp only [kpost]; exact kpost_exit h h'

theorem kpost_ret {a : Act} {w : World} (h : Q .ret a w) : ∀ K : List Kont, kpost P Q K .ret a w
  | [] => h
  | .blk _ :: K => kpost_ret h K
  | .code _ :: K => kpost_ret h K
  | .again _ :: K => kpost_ret h K

theorem runK_sound (hA : Agrees P ty zr) : ∀ (n : Nat) (K : List Kont) (tm : List Value) (C : World → Prop) (w : World), Ok P Q (runK ty zr od n K tm) C w → kpost P Q K .normal (act tm) w
  | 0, _, _, _, _, h => h.elim
  | _ + 1, [], _, _, _, h => h
  | _ + 1, .again B :: _, tm, _, _, h => ⟨rfl, by have h' : B tm _ := h; simpa [act] using h'⟩
  | n + 1, .blk _ :: K, tm, C, w, h => by rw [runK_succ] at h; simp only [stepK] at h; simp only [kpost]; exact runK_sound hA n K tm C w h
  | n + 1, .code c :: K, tm, C, w, h => by
    rw [runK_succ] at h
    cases c with
    | skip => simp only [stepK] at h; exact wp_skip (runK_sound hA n K tm C w h)
    | seq x y =>
      simp only [stepK] at h
      have := runK_sound hA n _ tm C w h
      refine wp_seq ?_
      rw [← kpost_code]
      exact this
    | block id c =>
      simp only [stepK] at h
      have := runK_sound hA n _ tm C w h
      refine wp_block ?_
      rw [← kpost_blk]
      exact this
    | cond c x y =>
      simp only [stepK, rd_eq] at h
      cases hb : (act tm).eval c with
      | bool b =>
        rw [hb] at h
        exact wp_cond_split hb (fun e => runK_sound hA n _ tm C w (h.1 e)) (fun e => runK_sound hA n _ tm C w (h.2 e))
      | _ => rw [hb] at h; exact h.elim
    | exit id =>
      simp only [stepK] at h
      cases hp : popTo id K with
      | none => rw [hp] at h; exact h.elim
      | some K' =>
        rw [hp] at h
        exact wp_exit (kpost_exit hp (runK_sound hA n K' tm C w h))
    | ret =>
      simp only [stepK] at h
      exact wp_ret (kpost_ret h K)
    | loop body => simp only [stepK] at h; exact h
    | region id ops d =>
      cases d with
      | true =>
        simp only [stepK] at h
        obtain ⟨hB, C', hC, h⟩ := h
        have := wp_region_O (P := P) (ops := ops) (C := C') (id := id) (Q := kpost P Q K) (a := act tm) (w := w) hA.mixed (kp (od id)) (od id) hB (by
          have := regK_sound (ord := od id) hA (F := fun a w => kpost P Q K .normal a w) (fun C tm w h => runK_sound hA n K tm C w h) (od id) [] tm C' w.drew rfl (fun _ => hC) h
          simpa using this)
        exact this
      | false =>
        simp only [stepK] at h
        have := opsK_sound (Q' := kpost P Q K) hA (fun tm w h => runK_sound hA n K tm C w h) ops.toList tm w h
        exact wp_region_list (by simpa using this)
    | _ => simp only [stepK] at h; exact h.elim

/-- A loop: what holds at its head, and what every round lowers. -/
theorem kloop {K : List Kont} {body : Code} {tm : List Value} {w : World} (I : List Value → World → Prop) (μ : List Value → World → Nat) (h0 : I tm w)
    (round : ∀ tm w, I tm w → kpost P Q (.code body :: .again (fun tm' w' => I tm' w' ∧ μ tm' w' < μ tm w) :: K) .normal (act tm) w) : kpost P Q (.code (.loop body) :: K) .normal (act tm) w := by
  refine wp_loop (P := P) (Q := kpost P Q K) (fun a w => a.defers = [] ∧ I a.tmps.toList w) (fun a w => μ a.tmps.toList w) ⟨rfl, by simpa [act] using h0⟩ ?_
  rintro ⟨t, ds⟩ w ⟨hd, hI⟩
  have hd' : ds = [] := hd
  subst hd'
  have := round t.toList w hI
  simp only [kpost] at this
  rw [kpost_again] at this
  have e : act t.toList = (⟨t, []⟩ : Act) := by simp [act]
  rw [e] at this
  refine wp_mono this fun e a w h => ?_
  cases e <;> first | exact h | exact ⟨⟨h.1, h.2.1⟩, h.2.2⟩

/-- A call, by its body. -/
theorem calls_run (hA : Agrees P ty zr) {f : FuncId} {fn : Func} {c : Code} {args : List Value} {w : World} {R : Ending → World → Prop} (od : Nat → List Nat) (n : Nat)
    (hf : P.funcs[f]? = some fn) (hb : fn.body = some c) (h : Ok P (bodyPost P fn R) (runK ty zr od n [.code c] (args ++ List.replicate (fn.ntmps - args.length) undef)) (fun _ => False) w) :
    Calls P f args.toArray w R := by
  refine calls_of_wp hf hb ?_
  have := runK_sound hA n _ _ _ w h
  simp only [kpost, act] at this
  have e : (args ++ List.replicate (fn.ntmps - args.length) undef).toArray = args.toArray ++ Array.replicate (fn.ntmps - args.toArray.size) undef := by simp
  rw [e] at this
  refine wp_mono this fun e a w h => ?_
  cases e <;> exact h
end
end Go.Proofs.Ytdbjhhnphbnnlaa
