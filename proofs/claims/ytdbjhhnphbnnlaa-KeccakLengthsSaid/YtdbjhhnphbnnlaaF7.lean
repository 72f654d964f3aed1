/- Ends of functions; small callees: a rotation, the next place. -/
import Derived.Test.YtdbjhhnphbnnlaaF6
namespace Go.Proofs.Ytdbjhhnphbnnlaa
open Go Go.RowKit

section
variable {P : Program} {fn : Func} {R : Ending → World → Prop} {w : World} {tm : List Value}

theorem act_getD (t : Nat) : (act tm).tmps.getD t undef = tm.getD t undef := by simp [act]

theorem fin0R (h : fn.results = #[]) (hR : R (.returned (.tuple #[])) w) : bodyPost P fn R .ret (act tm) w := ⟨rfl, _, results_none h _ _ _, hR⟩
theorem fin0N (h : fn.results = #[]) (hR : R (.returned (.tuple #[])) w) : bodyPost P fn R .normal (act tm) w := ⟨rfl, _, results_none h _ _ _, hR⟩
theorem fin1R {t : Tmp} (h : fn.results = #[.tmp t]) (v : Value) (hv : tm.getD t undef = v) (hR : R (.returned v) w) : bodyPost P fn R .ret (act tm) w :=
  ⟨rfl, v, by rw [results_tmp h, act_getD, hv], hR⟩
theorem fin2R {t u : Tmp} (h : fn.results = #[.tmp t, .tmp u]) (v v' : Value) (hv : tm.getD t undef = v) (hv' : tm.getD u undef = v') (hR : R (.returned (.tuple #[v, v'])) w) : bodyPost P fn R .ret (act tm) w :=
  ⟨rfl, _, by rw [results_tmp2 h, act_getD, act_getD, hv, hv'], hR⟩

theorem run_loadVar_arr (hA : Agrees P ty zr) {t : TypeId} {n e : Nat} {one : Bool} (ht : ty t = .arr n e one) {b off : Nat} {cs : Array Value} (hn : cs.size = n * e)
    (hc : ∀ j, j < n * e → w.cell? ⟨b, off + j, none⟩ = cs[j]?) : (loadVar t ⟨b, off, none⟩).run P w = .ok (.agg cs) w := by
  obtain ⟨el, hu, _, hsz, _⟩ := tyOf_arr ((hA.td t (by simp [ht])).trans ht)
  simp [loadVar, isAgg, underlying, hu, sizeIs_spec hsz, run_loadCells_arr hn hc]
theorem run_loadVar_str (hA : Agrees P ty zr) {t : TypeId} {os : List Nat} {n : Nat} (ht : ty t = .struct os n) {b off : Nat} {cs : Array Value} (hn : cs.size = n)
    (hc : ∀ j, j < n → w.cell? ⟨b, off + j, none⟩ = cs[j]?) : (loadVar t ⟨b, off, none⟩).run P w = .ok (.agg cs) w := by
  obtain ⟨fs, hu, _, hsz, _⟩ := tyOf_struct ((hA.td t (by simp [ht])).trans ht)
  simp [loadVar, isAgg, underlying, hu, sizeIs_spec hsz, run_loadCells_arr hn hc]

theorem finC1 {p : Tmp} {t : TypeId} (h : fn.results = #[.cell p t]) {b : Nat} (hp : tm.getD p undef = .pointer (some ⟨b, 0, none⟩)) (v : Value) (hv : (loadVar t ⟨b, 0, none⟩).run P w = .ok v w)
    (hR : R (.returned v) w) : bodyPost P fn R .ret (act tm) w := by
  refine ⟨rfl, v, ?_, hR⟩
  have hp' : (act tm).tmps.getD p undef = .pointer (some ⟨b, 0, none⟩) := by rw [act_getD, hp]
  have hp2 : (act tm).tmps[p]?.getD undef = .pointer (some ⟨b, 0, none⟩) := by simpa using hp'
  simp [results, h, hp2, asAddr, hv]
theorem finC2 {p p' : Tmp} {t t' : TypeId} (h : fn.results = #[.cell p t, .cell p' t']) {b b' : Nat} (hp : tm.getD p undef = .pointer (some ⟨b, 0, none⟩)) (hp' : tm.getD p' undef = .pointer (some ⟨b', 0, none⟩)) (v v' : Value)
    (hv : (loadVar t ⟨b, 0, none⟩).run P w = .ok v w) (hv' : (loadVar t' ⟨b', 0, none⟩).run P w = .ok v' w) (hR : R (.returned (.tuple #[v, v'])) w) : bodyPost P fn R .ret (act tm) w := by
  refine ⟨rfl, .tuple #[v, v'], ?_, hR⟩
  have q : (act tm).tmps.getD p undef = .pointer (some ⟨b, 0, none⟩) := by rw [act_getD, hp]
  have q' : (act tm).tmps.getD p' undef = .pointer (some ⟨b', 0, none⟩) := by rw [act_getD, hp']
  have q2 : (act tm).tmps[p]?.getD undef = .pointer (some ⟨b, 0, none⟩) := by simpa using q
  have q2' : (act tm).tmps[p']?.getD undef = .pointer (some ⟨b', 0, none⟩) := by simpa using q'
  simp [results, h, q2, q2', asAddr, hv, hv']
end

def od0 : Nat → List Nat := fun _ => []

theorem and63 (k : Nat) (h : k < 64) : bits .and .u64 (k : Int) 63 = ((k : Nat) : Int) := by
  show IntKind.u64.wrap ((BitVec.ofInt 64 (k : Int) &&& BitVec.ofInt 64 63).toNat : Int) = _
  rw [BitVec.ofInt_natCast, BitVec.toNat_and, IntKind.wrap_u64, show (BitVec.ofInt 64 63).toNat = 2 ^ 6 - 1 by decide, Nat.and_two_pow_sub_one_eq_mod, BitVec.toNat_ofNat]
  omega
theorem wu64 {x y : Int} (h : x = y ∧ 0 ≤ x ∧ x ≤ 18446744073709551615) : IntKind.u64.wrap x = y := by
  rw [IntKind.wrap_u64]; omega

theorem rotl_eq (x : W64) (k : Nat) (hk : k < 64) : x <<< k ||| x >>> (64 - k) = x.rotateLeft k := by
  rw [BitVec.rotateLeft_def, Nat.mod_eq_of_lt hk]

theorem rot_any (x : W64) (k : Nat) (hk : k < 64) (w : World) :
    Calls Try.prog 32 #[.int .u64 (L x), .int .i64 (k : Int)] w fun e w' => e = .returned (.int .u64 (L (x.rotateLeft k))) ∧ w' = w := by
  refine calls_run (args := [_, _]) agrees od0 60 Try.func32 rfl ?_
  refine ok_calc rfl ((k : Nat) : Int) (wu64 (by omega)) ?_
  refine ok_calc rfl ((k : Nat) : Int) (and63 k hk) ?_
  refine ok_test rfl (by omega) ?_
  refine ok_calc rfl _ (shlL _ _) ?_
  refine ok_calc rfl ((64 - k : Nat) : Int) (wu64 (by omega)) ?_
  refine ok_test rfl (by omega) ?_
  refine ok_calc rfl _ (shrL _ _) ?_
  refine ok_calc rfl _ (orL _ _) ?_
  exact ok_finR rfl (fin1R rfl _ rfl ⟨by rw [rotl_eq x k hk]; rfl, rfl⟩)

def od33 : Nat → List Nat := fun _ => List.range 9

theorem left_any (x : W64) (k : Nat) (hk : k < 64) (w : World) :
    Calls Try.prog 33 #[.int .i64 (k : Int), .int .u64 (L x)] w fun e w' => e = .returned (.int .u64 (L (x.rotateLeft k))) ∧ w' = w.drew := by
  refine calls_run (args := [_, _]) agrees od33 60 Try.func33 rfl ?_
  refine ok_test rfl (by kernel_rfl) ?_
  refine ok_draw rfl (SameHeap w) (SameHeap.refl _) ?_
  refine ok_test rfl (by omega) ?_
  refine ok_calc rfl _ (shlL _ _) ?_
  refine ok_calc rfl ((64 - k : Nat) : Int) (w64 (by omega)) ?_
  refine ok_test rfl (by omega) ?_
  refine ok_calc rfl _ (shrL _ _) ?_
  refine ok_calc rfl _ (orL _ _) ?_
  exact ok_finR rfl (fin1R rfl _ rfl ⟨by rw [rotl_eq x k hk]; rfl, rfl⟩)

/-- Where a word goes. -/
theorem next_any (x y : Nat) (hx : x < 5) (hy : y < 5) (w : World) :
    Calls Try.prog 23 #[.int .i64 (x : Int), .int .i64 (y : Int)] w fun e w' => e = .returned (.tuple #[.int .i64 (y : Int), .int .i64 (((2 * x + 3 * y) % 5 : Nat) : Int)]) ∧ w' = w := by
  refine calls_run (args := [_, _]) agrees od0 60 Try.func23 rfl ?_
  refine ok_calc rfl ((2 * x : Nat) : Int) (w64 (by omega)) ?_
  refine ok_calc rfl ((2 * x + 5 : Nat) : Int) (w64 (by omega)) ?_
  refine ok_calc rfl ((2 * y : Nat) : Int) (w64 (by omega)) ?_
  refine ok_calc rfl ((2 * x : Nat) + 5 - (2 * y : Nat) : Int) (w64 (by omega)) ?_
  refine ok_calc rfl ((2 * x + 10 - 2 * y : Nat) : Int) (w64 (by omega)) ?_
  refine ok_test rfl (by decide) ?_
  refine ok_calc rfl _ (tmodl _ 5 _ rfl) ?_
  exact ok_finR rfl (fin2R rfl _ _ rfl rfl ⟨by rw [show (2 * x + 10 - 2 * y) % 5 = (2 * x + 3 * y) % 5 by omega]; rfl, rfl⟩)

end Go.Proofs.Ytdbjhhnphbnnlaa
