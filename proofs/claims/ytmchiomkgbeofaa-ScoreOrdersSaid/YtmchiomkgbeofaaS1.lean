/- The small functions of floats, walked. -/
import Derived.Test.YtmchiomkgbeofaaF5
import Derived.Test.YtmchiomkgbeofaaFO
import Derived.Laws.Externs
namespace Go.Proofs.Ytmchiomkgbeofaa
open Go

def fl (x : Nat) : Value := .float .f64 x
def one : Nat := 4607182418800017408
def od0 : Nat → List Nat := fun _ => []

section
variable {P : Program} (w : World) (t : TypeId) (X Y : Operand)
theorem run_fadd {x y r : Nat} (h : D.add x y = some r) : (do eqGuard .add t X Y (fl x) (fl y); binOp .add t (fl x) (fl y) : Sem Value).run P w = .ok (fl r) w := by
  have h' : FloatKind.f64.format.add x y = some r := h
  simp [eqGuard, fl, binOp, Op.floatArith, h']
theorem run_fsub {x y r : Nat} (h : D.sub x y = some r) : (do eqGuard .sub t X Y (fl x) (fl y); binOp .sub t (fl x) (fl y) : Sem Value).run P w = .ok (fl r) w := by
  have h' : FloatKind.f64.format.sub x y = some r := h
  simp [eqGuard, fl, binOp, Op.floatArith, h']
theorem run_fmul {x y r : Nat} (h : D.mul x y = some r) : (do eqGuard .mul t X Y (fl x) (fl y); binOp .mul t (fl x) (fl y) : Sem Value).run P w = .ok (fl r) w := by
  have h' : FloatKind.f64.format.mul x y = some r := h
  simp [eqGuard, fl, binOp, Op.floatArith, h']
theorem run_fquo {x y r : Nat} (h : D.div x y = some r) : (do eqGuard .quo t X Y (fl x) (fl y); binOp .quo t (fl x) (fl y) : Sem Value).run P w = .ok (fl r) w := by
  have h' : FloatKind.f64.format.div x y = some r := h
  simp [eqGuard, fl, binOp, Op.floatArith, h']
theorem run_feq (x y : Nat) : (do eqGuard .eql t X Y (fl x) (fl y); binOp .eql t (fl x) (fl y) : Sem Value).run P w = .ok (.bool (D.order x y == some .eq)) w := by
  simp [eqGuard, fl, binOp, Op.floatCmp]; rfl
theorem run_fne (x y : Nat) : (do eqGuard .neq t X Y (fl x) (fl y); binOp .neq t (fl x) (fl y) : Sem Value).run P w = .ok (.bool (D.order x y != some .eq)) w := by
  simp [eqGuard, fl, binOp, Op.floatCmp]; rfl
theorem run_flt (x y : Nat) : (do eqGuard .lss t X Y (fl x) (fl y); binOp .lss t (fl x) (fl y) : Sem Value).run P w = .ok (.bool (D.order x y == some .lt)) w := by
  simp [eqGuard, fl, binOp, Op.floatCmp]; rfl
theorem run_fle (x y : Nat) : (do eqGuard .leq t X Y (fl x) (fl y); binOp .leq t (fl x) (fl y) : Sem Value).run P w = .ok (.bool (D.order x y == some .lt || D.order x y == some .eq)) w := by
  simp [eqGuard, fl, binOp, Op.floatCmp]; rfl
theorem run_fgt (x y : Nat) : (do eqGuard .gtr t X Y (fl x) (fl y); binOp .gtr t (fl x) (fl y) : Sem Value).run P w = .ok (.bool (D.order x y == some .gt)) w := by
  simp [eqGuard, fl, binOp, Op.floatCmp]; rfl
theorem run_fge (x y : Nat) : (do eqGuard .geq t X Y (fl x) (fl y); binOp .geq t (fl x) (fl y) : Sem Value).run P w = .ok (.bool (D.order x y == some .gt || D.order x y == some .eq)) w := by
  simp [eqGuard, fl, binOp, Op.floatCmp]; rfl
end

theorem run_toF (n : Int) (w : World) : (convert 3 22 (.int .i64 n)).run Try.prog w = .ok (fl (FloatKind.f64.nearest n)) w := by
  have h1 : Try.prog.underlying 3 = some (.int .i64) := by kernel_rfl
  have h2 : Try.prog.underlying 22 = some (.float .f64) := by kernel_rfl
  simp [convert, run_underlying h1, run_underlying h2, Conv.intToFloat, fl]

theorem from_any (n : Nat) (w : World) : (callFunc 18 #[.int .u64 (n : Int)]).run Try.prog w = .ok (.value (fl n)) w := by
  have he : Extern.find Try.f18 = some Extern.MathFloatBits.float64frombits := by kernel_rfl
  rw [run_callFunc_extern Try.func18 (by kernel_rfl) (by kernel_rfl) (by kernel_rfl) he]
  rfl
theorem bits_any (n : Nat) (w : World) : (callFunc 21 #[fl n]).run Try.prog w = .ok (.value (.int .u64 (n : Int))) w := by
  have he : Extern.find Try.f21 = some Extern.MathFloatBits.float64bits := by kernel_rfl
  rw [run_callFunc_extern Try.func21 (by kernel_rfl) (by kernel_rfl) (by kernel_rfl) he]
  rfl

section
variable {P : Program} {fn : Func} {R : Ending → World → Prop} {w : World} {tm : List Value}
theorem act_getD (t : Nat) : (act tm).tmps.getD t undef = tm.getD t undef := by simp [act]
theorem fin1R {t : Tmp} (h : fn.results = #[.tmp t]) (v : Value) (hv : tm.getD t undef = v) (hR : R (.returned v) w) : bodyPost P fn R .ret (act tm) w :=
  ⟨rfl, v, by rw [results_tmp h, act_getD, hv], hR⟩
theorem fin2R {t u : Tmp} (h : fn.results = #[.tmp t, .tmp u]) (v v' : Value) (hv : tm.getD t undef = v) (hv' : tm.getD u undef = v') (hR : R (.returned (.tuple #[v, v'])) w) : bodyPost P fn R .ret (act tm) w :=
  ⟨rfl, _, by rw [results_tmp2 h, act_getD, act_getD, hv, hv'], hR⟩
end

/-! ### IsNaN, Less, Clean -/
def nanB (x : Nat) : Bool := D.order x x != some .eq
theorem isNaN_any (x : Nat) (w : World) : Calls Try.prog 14 #[fl x] w fun e w' => e = .returned (.bool (nanB x)) ∧ w' = w := by
  refine calls_run (args := [_]) agrees od0 60 Try.func14 rfl ?_
  refine ok_valS rfl _ rfl (run_fne _ _ _ _ x x) ?_
  exact ok_finR rfl (fin1R rfl _ rfl ⟨rfl, rfl⟩)

def lessB (x y : Nat) : Bool := if nanB x then false else if nanB y then true else D.order x y == some .lt
theorem less_any (x y : Nat) (w : World) : Calls Try.prog 7 #[fl x, fl y] w fun e w' => e = .returned (.bool (lessB x y)) ∧ w' = w := by
  refine calls_run (args := [_, _]) agrees od0 60 Try.func7 rfl ?_
  refine ok_callS rfl (by kernel_rfl) (isNaN_any x _) ?_
  unfold lessB
  refine ok_br rfl (fun h => ?_) (fun h => ?_)
  · rw [h]
    exact ok_finR rfl (fin1R rfl _ rfl ⟨rfl, rfl⟩)
  · rw [h]
    refine ok_callS rfl (by kernel_rfl) (isNaN_any y _) ?_
    refine ok_br rfl (fun h => ?_) (fun h => ?_)
    · rw [h]
      exact ok_finR rfl (fin1R rfl _ rfl ⟨rfl, rfl⟩)
    · rw [h]
      refine ok_valS rfl _ rfl (run_flt _ _ _ _ x y) ?_
      exact ok_finR rfl (fin1R rfl _ rfl ⟨rfl, rfl⟩)

def lowB (x : Nat) : Bool := D.order x 0 == some .lt || D.order x 0 == some .eq
def cleanB (x : Nat) : Nat := if nanB x then 0 else if lowB x then 0 else if D.order x one == some .gt then one else x
theorem clean_any (x : Nat) (w : World) : Calls Try.prog 12 #[fl x] w fun e w' => e = .returned (fl (cleanB x)) ∧ w' = w := by
  refine calls_run (args := [_]) agrees od0 60 Try.func12 rfl ?_
  refine ok_callS rfl (by kernel_rfl) (isNaN_any x _) ?_
  unfold cleanB
  cases h : nanB x
  · refine ok_brF rfl rfl ?_
    refine ok_brF rfl rfl ?_
    refine ok_valS rfl _ rfl (run_fle _ _ _ _ x 0) ?_
    refine ok_brF rfl rfl ?_
    rw [show (D.order x 0 == some .lt || D.order x 0 == some .eq) = lowB x from rfl]
    cases h2 : lowB x
    · refine ok_brF rfl rfl ?_
      refine ok_valS rfl _ rfl (run_fgt _ _ _ _ x one) ?_
      cases h3 : D.order x one == some .gt
      · refine ok_brF rfl rfl ?_
        exact ok_finR rfl (fin1R rfl _ rfl ⟨rfl, rfl⟩)
      · refine ok_brT rfl rfl ?_
        exact ok_finR rfl (fin1R rfl _ rfl ⟨rfl, rfl⟩)
    · refine ok_brT rfl rfl ?_
      exact ok_finR rfl (fin1R rfl _ rfl ⟨rfl, rfl⟩)
  · refine ok_brT rfl rfl ?_
    refine ok_brT rfl rfl ?_
    refine ok_brT rfl rfl ?_
    refine ok_brT rfl rfl ?_
    exact ok_finR rfl (fin1R rfl _ rfl ⟨rfl, rfl⟩)

end Go.Proofs.Ytmchiomkgbeofaa
