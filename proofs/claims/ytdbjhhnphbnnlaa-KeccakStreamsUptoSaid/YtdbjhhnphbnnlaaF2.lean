/- An evaluator of the operations, which leaves a tree of what is to be shown; and that it is right. -/
import Derived.Test.YtdbjhhnphbnnlaaF1
namespace Go.Proofs.Ytdbjhhnphbnnlaa
open Go

/-- A type, as far as the evaluator looks. -/
inductive TD
  | other | int (k : IntKind) | bool | str | ptr | slice (esz : Nat) | arr (n esz : Nat) (one : Bool) | struct (offs : List Nat) (size : Nat)

def sizeIs (P : Program) (t : TypeId) (n : Nat) : Bool := match P.info? t with | some i => i.size == n | none => false

def isOne (P : Program) (t : TypeId) : Bool := match P.underlying t with | some (.struct _) | some (.array _ _) | none => false | some _ => true

def tyOf (P : Program) (t : TypeId) : TD :=
  match P.underlying t with
  | some (.int k) => if sizeIs P t 1 then .int k else .other
  | some .bool => if sizeIs P t 1 then .bool else .other
  | some .string => if sizeIs P t 1 then .str else .other
  | some (.pointer _) => if sizeIs P t 1 then .ptr else .other
  | some (.slice e) => match P.info? e with | some i => if sizeIs P t 1 then .slice i.size else .other | none => .other
  | some (.array n e) => match P.info? e with | some i => if sizeIs P t (n * i.size) then .arr n i.size (isOne P e) else .other | none => .other
  | some (.struct fs) => match P.info? t with
    | some j => if fs.all (fun f => match P.info? f.type with | some i => i.size != 0 | none => false) then .struct (fs.toList.map (·.offset)) j.size else .other
    | none => .other
  | _ => .other

inductive Kont
  | code (c : Code)
  | blk (id : Nat)
  | again (B : List Value → World → Prop)

inductive Tree
  | fail
  | stop (K : List Kont) (tm : List Value)
  | finN (tm : List Value)
  | finR (tm : List Value)
  | back (B : List Value → World → Prop) (tm : List Value)
  | calc (e : Int) (k : Int → Tree)
  | calcB (b : Bool) (k : Bool → Tree)
  | test (p : Prop) (t : Tree)
  | idx (i : Int) (len : Nat) (k : Nat → Tree)
  | br (b : Bool) (t e : Tree)
  | ld (r : Bool) (a : Addr) (k : Value → Tree)
  | ldR (r : Bool) (b off n : Nat) (k : Array Value → Tree)
  | get (cs : Array Value) (j : Nat) (k : Value → Tree)
  | val (r : Bool) (o : Oper) (tm : List Value) (k : Value → Tree)
  | st (a : Addr) (v : Value) (t : Tree)
  | stR (b off n : Nat) (cs : Array Value) (t : Tree)
  | new (o : Obj) (k : Nat → Tree)
  | call (f : FuncId) (args : Array Value) (k : Value → Tree)
  | raw (o : Oper) (tm : List Value) (k : Value → Tree)
  | draw (t : Tree)
  | chk (t : Tree)

def act (tm : List Value) : Act := ⟨tm.toArray, []⟩

def kpost (P : Program) (Q : Exit → Act → World → Prop) : List Kont → Exit → Act → World → Prop
  | [], e, a, w => Q e a w
  | .code c :: K, .normal, a, w => c.wp P (kpost P Q K) a w
  | .code _ :: K, e, a, w => kpost P Q K e a w
  | .blk id :: K, .exit id', a, w => if id' = id then kpost P Q K .normal a w else kpost P Q K (.exit id') a w
  | .blk _ :: K, e, a, w => kpost P Q K e a w
  | .again B :: _, .normal, a, w => a.defers = [] ∧ B a.tmps.toList w
  | .again _ :: K, e, a, w => kpost P Q K e a w

def stores (w : World) (b off : Nat) : List Value → World
  | [] => w
  | v :: r => stores (w.setCell ⟨b, off, none⟩ v) b (off + 1) r

def hasBody (P : Program) (f : FuncId) : Bool :=
  match P.funcs[f]? with
  | some fn => fn.name != "runtime.NumGoroutine" && fn.body.isSome
  | none => false

/-- What a tree asks of a world. -/
def Ok (P : Program) (Q : Exit → Act → World → Prop) : Tree → (World → Prop) → World → Prop
  | .fail, _, _ => False
  | .stop K tm, _, w => kpost P Q K .normal (act tm) w
  | .finN tm, _, w => Q .normal (act tm) w
  | .finR tm, _, w => Q .ret (act tm) w
  | .back B tm, _, w => B tm w
  | .calc e k, C, w => ∃ n, e = n ∧ Ok P Q (k n) C w
  | .calcB e k, C, w => ∃ n, e = n ∧ Ok P Q (k n) C w
  | .test p t, C, w => p ∧ Ok P Q t C w
  | .idx i len k, C, w => ∃ j : Nat, i = (j : Int) ∧ j < len ∧ Ok P Q (k j) C w
  | .br b t e, C, w => (b = true → Ok P Q t C w) ∧ (b = false → Ok P Q e C w)
  | .ld r a k, C, w => ∃ v, (∀ w', (if r then C w' else w' = w) → w'.cell? a = some v) ∧ Ok P Q (k v) C w
  | .ldR r b off n k, C, w => ∃ cs : Array Value, cs.size = n ∧ (∀ w', (if r then C w' else w' = w) → ∀ j, j < n → w'.cell? ⟨b, off + j, none⟩ = cs[j]?) ∧ Ok P Q (k cs) C w
  | .get cs j k, C, w => ∃ v, cs[j]? = some v ∧ Ok P Q (k v) C w
  | .val r o tm k, C, w => ∃ v, (∀ w', (if r then C w' else w' = w) → (execOp (act tm).eval o).run P w' = .ok (.value v) w') ∧ Ok P Q (k v) C w
  | .st a v t, C, w => v.oneCell' = true ∧ (w.cell? a).isSome = true ∧ w.frozen? a = false ∧ Ok P Q t C (w.setCell a v)
  | .stR b off n cs t, C, w => cs.size = n ∧ (∀ v, v ∈ cs.toList → v.oneCell' = true) ∧ (∀ j, j < n → (w.cell? ⟨b, off + j, none⟩).isSome = true ∧ w.frozen? ⟨b, off + j, none⟩ = false) ∧
      Ok P Q t C (stores w b off cs.toList)
  | .new o k, C, w => Ok P Q (k w.heap.size) C (w.alloc o)
  | .call f args k, C, w => hasBody P f = true ∧ Calls P f args w fun e w' => ∃ v, e = .returned v ∧ Ok P Q (k v) C w'
  | .raw o tm k, C, w => o.wp P (act tm) w (fun a' w' => ∃ v, a' = (act tm).put o.dst v ∧ Ok P Q (k v) C w') QF
  | .draw t, _, w => ∃ C', C' w.drew ∧ Ok P Q t C' w.drew
  | .chk t, C, w => ∃ C' : World → Prop, (∀ u, C' u → C u) ∧ C' w ∧ Ok P Q t C' w

/-! ### Reading and writing temporaries, step by step -/

/- (By the recursors themselves: so Lean's elaborator and its kernel come to the very same terms.) -/
noncomputable def nthK {α : Type} (d : α) (l : List α) : Nat → (α → Tree) → Tree :=
  List.rec (motive := fun _ => Nat → (α → Tree) → Tree) (fun _ k => k d) (fun v _ ih n k => Nat.rec (motive := fun _ => Tree) (k v) (fun n _ => ih n k) n) l

noncomputable def setK (l : List Value) : Nat → Value → (List Value → Tree) → Tree :=
  List.rec (motive := fun _ => Nat → Value → (List Value → Tree) → Tree) (fun _ _ k => k [])
    (fun x l ih n v k => Nat.rec (motive := fun _ => Tree) (k (v :: l)) (fun n _ => ih n v fun l' => k (x :: l')) n) l

noncomputable def rd (tm : List Value) (x : Operand) (k : Value → Tree) : Tree :=
  match x with
  | .tmp t => nthK undef tm t k
  | .const v => k v
  | .global g => k (.pointer (some ⟨g, 0, none⟩))
  | .func f => k (.func (.func f) #[] #[])

noncomputable def rds (tm : List Value) (l : List Operand) : (List Value → Tree) → Tree :=
  List.rec (motive := fun _ => (List Value → Tree) → Tree) (fun k => k []) (fun x _ ih k => rd tm x fun v => ih fun vs => k (v :: vs)) l

theorem nthK_eq {α : Type} (d : α) (k : α → Tree) : ∀ (l : List α) (n : Nat), nthK d l n k = k (l.getD n d)
  | [], _ => rfl
  | _ :: _, 0 => rfl
  | _ :: l, n + 1 => nthK_eq d k l n

theorem setK_eq (v : Value) : ∀ (l : List Value) (n : Nat) (k : List Value → Tree), setK l n v k = k (l.set n v)
  | [], _, _ => rfl
  | _ :: _, 0, _ => rfl
  | x :: l, n + 1, k => setK_eq v l n fun l' => k (x :: l')

theorem rd_eq (tm : List Value) (x : Operand) (k : Value → Tree) : rd tm x k = k ((act tm).eval x) := by
  cases x <;> simp [rd, nthK_eq, Act.eval, act]

theorem rds_eq (tm : List Value) : ∀ (l : List Operand) (k : List Value → Tree), rds tm l k = k (l.map (act tm).eval)
  | [], _ => rfl
  | x :: l, k => by
    show rd tm x (fun v => rds tm l fun vs => k (v :: vs)) = _
    rw [rd_eq, rds_eq tm l]; rfl

noncomputable def putK (tm : List Value) (d : Option Tmp) (v : Value) (k : List Value → Tree) : Tree :=
  match d with
  | some d => setK tm d v k
  | none => k tm

def putL (tm : List Value) (d : Option Tmp) (v : Value) : List Value := match d with | some d => tm.set d v | none => tm

theorem putK_eq (tm : List Value) (d : Option Tmp) (v : Value) (k : List Value → Tree) : putK tm d v k = k (putL tm d v) := by
  cases d <;> simp [putK, putL, setK_eq]

theorem act_put (tm : List Value) (d : Option Tmp) (v : Value) : (act tm).put d v = act (putL tm d v) := by
  cases d <;> simp [Act.put, act, putL]

/-! ### Operations that only read -/

def binQ (op : BinOp) (vx vy : Value) (alt : Tree) (k : Value → Tree) : Tree :=
  match vx, vy with
  | .int kd a, .int kd' b =>
    match op with
    | .shl => .test (0 ≤ b) (.calc (kd.wrap (a * 2 ^ (min b.toNat kd.bits))) fun n => k (.int kd n))
    | .shr => .test (0 ≤ b) (.calc (a.fdiv (2 ^ (min b.toNat kd.bits))) fun n => k (.int kd n))
    | op =>
      match decEq kd kd' with
      | .isFalse _ => alt
      | .isTrue _ =>
        match op with
        | .add => .calc (kd.wrap (a + b)) fun n => k (.int kd n)
        | .sub => .calc (kd.wrap (a - b)) fun n => k (.int kd n)
        | .mul => .calc (kd.wrap (a * b)) fun n => k (.int kd n)
        | .quo => .test (b ≠ 0) (.calc (kd.wrap (a.tdiv b)) fun n => k (.int kd n))
        | .rem => .test (b ≠ 0) (.calc (a.tmod b) fun n => k (.int kd n))
        | .and => .calc (bits .and kd a b) fun n => k (.int kd n)
        | .or => .calc (bits .or kd a b) fun n => k (.int kd n)
        | .xor => .calc (bits .xor kd a b) fun n => k (.int kd n)
        | .andNot => .calc (bits .andNot kd a b) fun n => k (.int kd n)
        | .eql => .calcB (a == b) fun n => k (.bool n)
        | .neq => .calcB (a != b) fun n => k (.bool n)
        | .lss => .calcB (decide (a < b)) fun n => k (.bool n)
        | .leq => .calcB (decide (a ≤ b)) fun n => k (.bool n)
        | .gtr => .calcB (decide (a > b)) fun n => k (.bool n)
        | .geq => .calcB (decide (a ≥ b)) fun n => k (.bool n)
        | _ => alt
  | _, _ => alt

def unQ (op : UnOp) (v : Value) (alt : Tree) (k : Value → Tree) : Tree :=
  match op, v with
  | .not, .bool b => .calcB (!b) fun n => k (.bool n)
  | .neg, .int kd n => .calc (kd.wrap (0 - n)) fun n => k (.int kd n)
  | .xor, .int kd n => .calc (bits .xor kd (if kd.signed then -1 else kd.max) n) fun n => k (.int kd n)
  | _, _ => alt

def offK (b off f : Nat) (k : Value → Tree) : Tree :=
  match f with
  | 0 => k (.pointer (some ⟨b, off, none⟩))
  | _ + 1 => k (.pointer (some ⟨b, off + f, none⟩))

def atK (b off j esz : Nat) (k : Value → Tree) : Tree :=
  match esz with
  | 1 => k (.pointer (some ⟨b, off + j, none⟩))
  | _ => k (.pointer (some ⟨b, off + j * esz, none⟩))

noncomputable def opQ (ty : TypeId → TD) (r : Bool) (o : Oper) (tm : List Value) (k : Value → Tree) : Tree :=
  let alt : Tree := .val r o tm k
  match o.op with
  | .move x => rd tm x k
  | .assign x => rd tm x k
  | .pick c a b => rd tm c fun c => match c with
    | .bool c => .br c (rd tm a k) (rd tm b k)
    | _ => alt
  | .binOp op _ x y _ => rd tm x fun x => rd tm y fun y => binQ op x y alt k
  | .unOp op _ x => rd tm x fun x => unQ op x alt k
  | .convert s d x => rd tm x fun x => match x, ty s, ty d with
    | .int _ n, .int _, .int kd => .calc (kd.wrap n) fun n => k (.int kd n)
    | _, _, _ => alt
  | .nilCheck x => rd tm x fun x => match x with
    | .pointer (some a) => k (.pointer (some a))
    | _ => alt
  | .fieldAddr t x f => rd tm x fun x => match x, ty t with
    | .pointer (some ⟨b, off, none⟩), .struct offs _ => match offs[f]? with
      | some d => offK b off d k
      | none => alt
    | _, _ => alt
  | .indexAddr t x i => rd tm x fun x => rd tm i fun i => match x, i, ty t with
    | .pointer (some ⟨b, off, none⟩), .int _ i, .arr n e _ => .idx i n fun j => atK b off j e k
    | .slice (some ⟨b, off, none⟩) len _, .int _ i, .slice e => .idx i len fun j => atK b off j e k
    | _, _, _ => alt
  | .index t x i => rd tm x fun x => rd tm i fun i => match x, i, ty t with
    | .agg cs, .int _ i, .arr n 1 true => .idx i n fun j => .get cs j k
    | _, _, _ => alt
  | .extract x i => rd tm x fun x => match x with
    | .tuple vs => match vs.toList[i]? with
      | some v => k v
      | none => alt
    | _ => alt
  | .load t x => rd tm x fun x => match x with
    | .pointer (some ⟨b, off, none⟩) => match ty t with
      | .other => alt
      | .arr n e _ => .ldR r b off (n * e) fun cs => k (.agg cs)
      | .struct _ n => .ldR r b off n fun cs => k (.agg cs)
      | _ => .ld r ⟨b, off, none⟩ k
    | _ => alt
  | .call { callee := .builtin .len, args, argTypes } => match args.toList, argTypes.toList with
    | [x], [t] => rd tm x fun x => match x, ty t with
      | .slice _ n _, .slice _ => k (.int .i64 (n : Int))
      | .string s, .str => k (.int .i64 (s.size : Int))
      | _, _ => alt
    | _, _ => alt
  | _ => alt

end Go.Proofs.Ytdbjhhnphbnnlaa
