/- Keccak in plain Lean: rounds, constants, distances, the sponge. -/
namespace Go.Proofs.Ytdbjhhnphbnnlaa

abbrev W64 := BitVec 64
abbrev St := Nat → W64

def upd {α : Type} (f : Nat → α) (i : Nat) (v : α) : Nat → α := fun j => if j = i then v else f j

def pt : Nat → Nat × Nat
  | 0 => (1, 0)
  | t + 1 => ((pt t).2, (2 * (pt t).1 + 3 * (pt t).2) % 5)

/-- The distances, as far as step t. -/
def byT : Nat → Nat → Nat
  | 0 => fun _ => 0
  | t + 1 => upd (byT t) (5 * (pt t).2 + (pt t).1) ((t + 1) * (t + 2) / 2 % 64)

def toT : Nat → Nat → Nat
  | 0 => fun _ => 0
  | t + 1 => upd (toT t) (5 * (pt t).2 + (pt t).1) (5 * (pt (t + 1)).2 + (pt (t + 1)).1)

def offL : List Nat := [0, 1, 62, 28, 27, 36, 44, 6, 55, 20, 3, 10, 43, 25, 39, 41, 45, 15, 21, 8, 18, 2, 61, 56, 14]
def posL : List Nat := [0, 10, 20, 5, 15, 16, 1, 11, 21, 6, 7, 17, 2, 12, 22, 23, 8, 18, 3, 13, 14, 24, 9, 19, 4]
def invL : List Nat := [0, 6, 12, 18, 24, 3, 9, 10, 16, 22, 1, 7, 13, 19, 20, 4, 5, 11, 17, 23, 2, 8, 14, 15, 21]
def off (i : Nat) : Nat := offL.getD i 0
def pos (i : Nat) : Nat := posL.getD i 0
def inv (i : Nat) : Nat := invL.getD i 0

theorem pt_lt (t : Nat) : (pt t).1 < 5 ∧ (pt t).2 < 5 := by
  induction t with
  | zero => decide
  | succ t ih => exact ⟨ih.2, Nat.mod_lt _ (by decide)⟩

theorem byT_end : ∀ j, j < 25 → byT 24 j = off j := by decide
theorem toT_end : ∀ j, j < 25 → toT 24 j = pos j := by decide
theorem off_lt : ∀ j, j < 25 → off j < 64 := by decide
theorem pos_lt : ∀ j, j < 25 → pos j < 25 := by decide
theorem inv_lt : ∀ j, j < 25 → inv j < 25 := by decide
theorem inv_pos : ∀ j, j < 25 → inv (pos j) = j := by decide
theorem pos_inv : ∀ j, j < 25 → pos (inv j) = j := by decide
theorem pos_spec : ∀ x, x < 5 → ∀ y, y < 5 → pos (5 * y + x) = 5 * ((2 * x + 3 * y) % 5) + y := by decide

/-! ### One round -/

def col (s : St) (x : Nat) : W64 := s x ^^^ s (x + 5) ^^^ s (x + 10) ^^^ s (x + 15) ^^^ s (x + 20)
def th (s : St) (x : Nat) : W64 := col s ((x + 4) % 5) ^^^ (col s ((x + 1) % 5)).rotateLeft 1
def bb (s : St) (i : Nat) : W64 := (s i ^^^ th s (i % 5)).rotateLeft (off i)
def bs (s : St) (j : Nat) : W64 := bb s (inv j)
def chi (b : St) (j : Nat) : W64 := b j ^^^ (b (5 * (j / 5) + (j % 5 + 2) % 5) &&& ~~~ b (5 * (j / 5) + (j % 5 + 1) % 5))
def round (s : St) (c : W64) (j : Nat) : W64 := if j = 0 then chi (bs s) 0 ^^^ c else chi (bs s) j

/-! ### The constants -/

def regStep (r : Nat) : Nat := if 2 * r > 255 then (2 * r) ^^^ 369 else 2 * r
def reg : Nat → Nat
  | 0 => 1
  | i + 1 => regStep (reg i)

theorem reg_lt (i : Nat) : reg i < 256 := by
  induction i with
  | zero => decide
  | succ i ih =>
    have key : ∀ r, r < 256 → regStep r < 256 := by decide +kernel
    exact key _ ih

def bitAt (i p : Nat) : W64 := (BitVec.ofNat 64 (reg i % 2)) <<< p

/-- The constants, as far as bit i. -/
def rcT : Nat → Nat → W64
  | 0 => fun _ => 0
  | i + 1 => upd (rcT i) (i / 7) (rcT i (i / 7) ||| bitAt i (2 ^ (i % 7) - 1))

def rc (n : Nat) : W64 := rcT 168 n

/-- One constant, as far as its bit j. -/
def rcJ (n : Nat) : Nat → W64
  | 0 => 0
  | j + 1 => rcJ n j ||| bitAt (7 * n + j) (2 ^ j - 1)

/-- All rounds. -/
def perm : Nat → St → St
  | 0, s => s
  | n + 1, s => round (perm n s) (rc n)

def full (s : St) : St := perm 24 s

/-! ### The sponge -/

def addB (s : St) (at_ : Nat) (b : BitVec 8) : St := upd s (at_ / 8) (s (at_ / 8) ^^^ (b.setWidth 64) <<< (8 * (at_ % 8)))
def outB (s : St) (at_ : Nat) : BitVec 8 := (s (at_ / 8) >>> (8 * (at_ % 8))).setWidth 8

/-- One byte more. -/
def eat (rate : Nat) (p : St × Nat) (b : BitVec 8) : St × Nat :=
  if p.2 + 1 = rate then (full (addB p.1 p.2 b), 0) else (addB p.1 p.2 b, p.2 + 1)

def eats (rate : Nat) (p : St × Nat) (l : List (BitVec 8)) : St × Nat := l.foldl (eat rate) p

def zero : St := fun _ => 0

/-- What is there behind all bytes and the end. -/
def fed (rate : Nat) (e : BitVec 8) (l : List (BitVec 8)) : St :=
  let p := eats rate (zero, 0) l
  full (addB (addB p.1 p.2 e) (rate - 1) 128)

/-- What comes out. -/
def drip (rate : Nat) : Nat → St × Nat → List (BitVec 8)
  | 0, _ => []
  | n + 1, p =>
    let q := if p.2 = rate then (full p.1, 0) else p
    outB q.1 q.2 :: drip rate n (q.1, q.2 + 1)

def sponge (rate : Nat) (e : BitVec 8) (n : Nat) (l : List (BitVec 8)) : List (BitVec 8) := drip rate n (fed rate e l, 0)

def digest (l : List (BitVec 8)) : List (BitVec 8) := sponge 136 6 32 l

/-! ### The same over numbers, each reckoned at once -/

def now {α : Type} (n : Nat) (k : Nat → α) : α := Nat.rec (k 0) (fun m _ => k (m + 1)) n
def nows {α : Type} : List Nat → (List Nat → α) → α
  | [], k => k []
  | x :: l, k => now x fun v => nows l fun l' => k (v :: l')

theorem now_eq {α : Type} (n : Nat) (k : Nat → α) : now n k = k n := by cases n <;> rfl
theorem nows_eq {α : Type} : ∀ (l : List Nat) (k : List Nat → α), nows l k = k l
  | [], _ => rfl
  | x :: l, k => by simp only [nows, now_eq, nows_eq l]

def rotN (x n : Nat) : Nat := (x <<< n ||| x >>> (64 - n)) % 18446744073709551616
def colN (l : List Nat) (x : Nat) : Nat := l.getD x 0 ^^^ l.getD (x + 5) 0 ^^^ l.getD (x + 10) 0 ^^^ l.getD (x + 15) 0 ^^^ l.getD (x + 20) 0
def roundN {α : Type} (l : List Nat) (c : Nat) (k : List Nat → α) : α :=
  nows ((List.range 5).map (colN l)) fun cs =>
  nows ((List.range 5).map fun x => cs.getD ((x + 4) % 5) 0 ^^^ rotN (cs.getD ((x + 1) % 5) 0) 1) fun ds =>
  nows ((List.range 25).map fun j => rotN (l.getD (inv j) 0 ^^^ ds.getD (inv j % 5) 0) (off (inv j))) fun b =>
  nows ((List.range 25).map fun j => (b.getD j 0 ^^^ ((18446744073709551615 - b.getD (5 * (j / 5) + (j % 5 + 1) % 5) 0) &&& b.getD (5 * (j / 5) + (j % 5 + 2) % 5) 0)) ^^^ (if j = 0 then c else 0)) k

def rcL : List Nat := [0x1, 0x8082, 0x800000000000808A, 0x8000000080008000, 0x808B, 0x80000001, 0x8000000080008081, 0x8000000000008009, 0x8A, 0x88, 0x80008009, 0x8000000A, 0x8000808B, 0x800000000000008B, 0x8000000000008089, 0x8000000000008003, 0x8000000000008002, 0x8000000000000080, 0x800A, 0x800000008000000A, 0x8000000080008081, 0x8000000000008080, 0x80000001, 0x8000000080008008]

def permN {α : Type} : List Nat → List Nat → (List Nat → α) → α
  | [], l, k => k l
  | c :: cs, l, k => roundN l c fun l' => permN cs l' k

theorem rc_list : ∀ n, n < 24 → (rc n).toNat = rcL.getD n 0 := by decide +kernel

def first : List Nat := permN rcL ((List.range 25).map fun j => if j = 0 then 6 else if j = 16 then 9223372036854775808 else 0) id

theorem first_eq : first.getD 0 0 % 65536 = 0xffa7 ∧ first.getD 3 0 / 2 ^ 56 = 0x4a := by decide +kernel

end Go.Proofs.Ytdbjhhnphbnnlaa
