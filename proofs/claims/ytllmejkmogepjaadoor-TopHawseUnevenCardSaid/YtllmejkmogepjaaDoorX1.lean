/-
  Ix1: the ideal values, the ideal state, and the ideal evaluator of the code that the model loads. Plain definitions; nothing is proved here.
-/
import Derived.Calls
import Derived.KernelRfl
namespace Go.Proofs.YtllmejkmogepjaaDoor.Ix

/-- An ideal value: what a value of the model stands for, without addresses of memory that came in. -/
inductive IV where
  | int (k : IntKind) (n : Int)
  | bool (b : Bool)
  | str (s : ByteArray)
  | lit (v : Value)
  | nilS
  | lst (own : Option Nat) (e n : Nat) (f : Nat → List IV)
  | agg (xs : List IV)
  | tup (xs : List IV)
  | ptr (l d off : Nat)
  | vptr (e n : Nat) (f : Nat → List IV) (i j : Nat)
  | fn (f : Nat) (first captured : List IV)
  /-- an own row, just made: nothing is told of what it holds -/
  | raw (t e n : Nat)
  | dead

abbrev Tms := List (Nat × IV)
abbrev Ces := List (Nat × List IV)

/-- The ideal state of a call: its temporaries (the newest first), the cells that it made (by the temporary that holds their address), the cells of the calls around it. -/
structure St where
  tm : Tms
  ce : Ces
  up : List Ces

inductive TK where
  | other
  | struct (fs : List (Nat × Nat × Bool))
  | array (n e : Nat)
  | slice (e : Nat)
  | str

/-- What a cell that is compared holds. -/
inductive LK where
  | int
  | bool
  | str

structure Ty where
  size : Nat
  bytes : Nat
  agg : Bool
  zero : List IV
  eq : List LK
  k : TK

def Ty.none : Ty := ⟨0, 0, false, [], [], .other⟩

structure Env where
  P : Program
  T : Nat → Ty
  gl : Nat → IV
  nt : Nat
  /-- what is known of iterators: function, captured, how many rounds, with what -/
  vis : Nat → List IV → Nat → (Nat → List IV) → Prop
  /-- within an iterator: its rounds' function, how many rounds, with what -/
  yld : Option (Nat × Nat × (Nat → List IV))
  /-- what is put off, if that is told -/
  ds : Option (List Deferred)

def look : Tms → Nat → IV
  | [], _ => .dead
  | (i, v) :: r, j => match Nat.beq i j with
    | true => v
    | false => look r j

def lookC : Ces → Nat → Option (List IV)
  | [], _ => none
  | (i, v) :: r, j => match Nat.beq i j with
    | true => some v
    | false => lookC r j

def putC : Ces → Nat → List IV → Ces
  | [], _, _ => []
  | (i, v) :: r, j, c => match Nat.beq i j with
    | true => (i, c) :: r
    | false => (i, v) :: putC r j c

def takeN : Nat → List IV → Option (List IV)
  | 0, _ => some []
  | _ + 1, [] => none
  | n + 1, x :: r => match takeN n r with
    | some t => some (x :: t)
    | none => none

def dropN : Nat → List IV → List IV
  | 0, r => r
  | _ + 1, [] => []
  | n + 1, _ :: r => dropN n r

def nthI : List IV → Nat → Option IV
  | [], _ => none
  | x :: _, 0 => some x
  | _ :: r, n + 1 => nthI r n

/-- The list with 'vs' laid over it from place 'off' on. -/
def lay : List IV → Nat → List IV → Option (List IV)
  | r, 0, [] => some r
  | [], 0, _ :: _ => none
  | _ :: r, 0, v :: vs => match lay r 0 vs with
    | some t => some (v :: t)
    | none => none
  | [], _ + 1, _ => none
  | x :: r, off + 1, vs => match lay r off vs with
    | some t => some (x :: t)
    | none => none

def chk (b : Bool) (p : Prop) : Prop := match b with
  | true => p
  | false => False

def brk (b : Bool) (k : Bool → Prop) : Prop := match b with
  | true => k true
  | false => k false

def ofConst : Value → IV
  | .int k n => .int k n
  | .bool b => .bool b
  | .string s => .str s
  | .slice none 0 0 => .nilS
  | .nilFunc => .lit .nilFunc
  | .pointer none => .lit (.pointer none)
  | .nilIface => .lit .nilIface
  | _ => .dead

def evo (Γ : Env) (S : St) : Operand → IV
  | .tmp t => look S.tm t
  | .const v => ofConst v
  | .global g => Γ.gl g
  | .func f => .fn f [] []

mutual
/-- 'K v', the value reckoned first (for the unfolding alone: it is 'K v'). -/
def fv : IV → (IV → Prop) → Prop
  | .int k n, K => K (.int k n)
  | .bool b, K => K (.bool b)
  | .str s, K => K (.str s)
  | .lit v, K => K (.lit v)
  | .nilS, K => K .nilS
  | .lst o e n f, K => K (.lst o e n f)
  | .agg xs, K => fvL xs fun ys => K (.agg ys)
  | .tup xs, K => fvL xs fun ys => K (.tup ys)
  | .ptr l d off, K => K (.ptr l d off)
  | .vptr e n f i j, K => K (.vptr e n f i j)
  | .fn f a c, K => fvL a fun a => fvL c fun c => K (.fn f a c)
  | .raw t e n, K => K (.raw t e n)
  | .dead, K => K .dead
def fvL : List IV → (List IV → Prop) → Prop
  | [], K => K []
  | x :: r, K => fv x fun x => fvL r fun r => K (x :: r)
end

def ev (Γ : Env) (S : St) (x : Operand) (K : IV → Prop) : Prop := fv (evo Γ S x) K

def part1 (agg : Bool) (off size : Nat) (xs : List IV) (K : IV → Prop) : Prop :=
  match agg with
  | true => match takeN size (dropN off xs) with
    | some t => K (.agg t)
    | none => False
  | false => match nthI xs off with
    | some v => K v
    | none => False

def eqIV : LK → IV → IV → Option Bool
  | .int, .int k a, .int k' b => match decide (k = k') with
    | true => some (a == b)
    | false => none
  | .bool, .bool a, .bool b => some (a == b)
  | .str, .str a, .str b => some (a.toList == b.toList)
  | _, _, _ => none

def andO : Option Bool → Option Bool → Option Bool
  | some a, some b => some (a && b)
  | _, _ => none

def eqAll : List LK → List IV → List IV → Option Bool
  | [], [], [] => some true
  | k :: ks, x :: xs, y :: ys => andO (eqIV k x y) (eqAll ks xs ys)
  | _, _, _ => none

def bin (op : BinOp) (ty : Ty) (x y : IV) (K : IV → Prop) : Prop :=
  match x, y with
  | .int k a, .int k' b => match op with
    | .shl => chk (decide (0 ≤ b)) (K (.int k (k.wrap (a * 2 ^ (min b.toNat k.bits)))))
    | .shr => chk (decide (0 ≤ b)) (K (.int k (a.fdiv (2 ^ (min b.toNat k.bits)))))
    | _ => match decide (k = k') with
      | false => False
      | true => match op with
        | .add => K (.int k (k.wrap (a + b)))
        | .sub => K (.int k (k.wrap (a - b)))
        | .mul => K (.int k (k.wrap (a * b)))
        | .quo => chk (b != 0) (K (.int k (k.wrap (a.tdiv b))))
        | .rem => chk (b != 0) (K (.int k (a.tmod b)))
        | .eql => K (.bool (a == b))
        | .neq => K (.bool (a != b))
        | .lss => K (.bool (decide (a < b)))
        | .leq => K (.bool (decide (a ≤ b)))
        | .gtr => K (.bool (decide (a > b)))
        | .geq => K (.bool (decide (a ≥ b)))
        | _ => False
  | .str a, .str b => match op with
    | .add => chk (decide (a.size + b.size ≤ 1099511627776)) (K (.str (a ++ b)))
    | .eql => K (.bool (a.toList == b.toList))
    | .neq => K (.bool !(a.toList == b.toList))
    | _ => False
  | .bool a, .bool b => match ty.k, ty.zero, op with
    | .other, [.bool _], .eql => K (.bool (a == b))
    | .other, [.bool _], .neq => K (.bool !(a == b))
    | _, _, _ => False
  | .agg xs, .agg ys => match ty.eq with
    | [] => False
    | k :: ks => match op, eqAll (k :: ks) xs ys with
      | .eql, some b => K (.bool b)
      | .neq, some b => K (.bool !b)
      | _, _ => False
  | _, _ => False

/-- The address of a field or an element. -/
def addI (p : IV) (n : Nat) (K : IV → Prop) : Prop :=
  match p with
  | .ptr l d off => K (.ptr l d (off + n))
  | .vptr e m f i j => K (.vptr e m f i (j + n))
  | _ => False

/-- The cells of level 'l': 0 is the call's own. -/
def upC : List Ces → Nat → Ces
  | [], _ => []
  | c :: _, 0 => c
  | _ :: r, n + 1 => upC r n

def cellOf (S : St) (l d : Nat) : Option (List IV) :=
  match l with
  | 0 => lookC S.ce d
  | n + 1 => lookC (upC S.up n) d

def putUp : List Ces → Nat → Nat → List IV → List Ces
  | [], _, _, _ => []
  | c :: r, 0, d, x => putC c d x :: r
  | c :: r, n + 1, d, x => c :: putUp r n d x

mutual
/-- What is read, or laid, in another call's cells: nothing to append to. -/
def noOwn : IV → IV
  | .lst _ e n f => .lst none e n f
  | .agg xs => .agg (noOwnL xs)
  | .tup xs => .tup (noOwnL xs)
  | .fn f a c => .fn f (noOwnL a) (noOwnL c)
  | .raw _ _ _ => .dead
  | v => v
def noOwnL : List IV → List IV
  | [] => []
  | x :: r => noOwn x :: noOwnL r
end

mutual
/-- The levels of the cells, from the place of a cell of level 'k'. -/
def lift (k : Nat) : IV → IV
  | .ptr l d off => .ptr (k + l) d off
  | .agg xs => .agg (liftL k xs)
  | .tup xs => .tup (liftL k xs)
  | .fn f a c => .fn f (liftL k a) (liftL k c)
  | .raw _ _ _ => .dead
  | v => v
def liftL (k : Nat) : List IV → List IV
  | [] => []
  | x :: r => lift k x :: liftL k r
end

mutual
/-- The same back: 'none' where a level is too low to be told there. -/
def lower (k : Nat) : IV → Option IV
  | .ptr l d off => match Nat.ble k l with
    | true => some (.ptr (l - k) d off)
    | false => none
  | .agg xs => match lowerL k xs with
    | some ys => some (.agg ys)
    | none => none
  | .tup xs => match lowerL k xs with
    | some ys => some (.tup ys)
    | none => none
  | .fn f a c => match lowerL k a, lowerL k c with
    | some a', some c' => some (.fn f a' c')
    | _, _ => none
  | .raw _ _ _ => some .dead
  | v => some v
def lowerL (k : Nat) : List IV → Option (List IV)
  | [] => some []
  | x :: r => match lower k x, lowerL k r with
    | some y, some s => some (y :: s)
    | _, _ => none
end

def loadI (S : St) (t : Ty) (p : IV) (K : IV → Prop) : Prop :=
  match p with
  | .ptr 0 d off => match lookC S.ce d with
    | some c => part1 t.agg off t.size c K
    | none => False
  | .ptr (l + 1) d off => match lookC (upC S.up l) d with
    | some c => part1 t.agg off t.size c fun v => K (lift (l + 1) (noOwn v))
    | none => False
  | .vptr _ _ f i j => part1 t.agg j t.size (f i) K
  | _ => False

/-- The cells of a value that may be laid in memory. -/
def cellsI : IV → Option (List IV)
  | .agg xs => some xs
  | .dead => none
  | .tup _ => none
  | v => some [v]

/-- 'K' of the cells, if they are as many as they must be. -/
def cellsK (v : IV) (n : Nat) (K : List IV → Prop) : Prop :=
  match cellsI v with
  | some c => match Nat.beq c.length n with
    | true => K c
    | false => False
  | none => False

mutual
/-- No address of a cell in it. -/
def noPtr : IV → Bool
  | .ptr _ _ _ => false
  | .agg xs => noPtrL xs
  | .tup xs => noPtrL xs
  | .fn _ a c => noPtrL a && noPtrL c
  | _ => true
def noPtrL : List IV → Bool
  | [] => true
  | x :: r => noPtr x && noPtrL r
end

/-- The parts of a literal laid over its zero. -/
def buildI (Γ : Env) (S : St) (place : Nat → Option (Nat × Nat)) : List (Nat × Operand) → List IV → (List IV → Prop) → Prop
  | [], z, K => K z
  | (i, x) :: r, z, K => match place i with
    | none => False
    | some (off, sz) => ev Γ S x fun v => cellsK v sz fun c => match lay z off c with
      | some z' => buildI Γ S place r z' K
      | none => False

def repZ : Nat → List IV → List IV
  | 0, _ => []
  | n + 1, z => z ++ repZ n z

def storeI (S : St) (n : Nat) (p v : IV) (K : St → Prop) : Prop :=
  match S, p with
  | ⟨tm, ce, up⟩, .ptr 0 d off => match lookC ce d with
    | some c => cellsK v n fun x => match lay c off x with
      | some c' => K ⟨tm, putC ce d c', up⟩
      | none => False
    | none => False
  | ⟨tm, ce, up⟩, .ptr (l + 1) d off => match lookC (upC up l) d, lower (l + 1) (noOwn v) with
    | some c, some v => cellsK v n fun x => match lay c off x with
      | some c' => K ⟨tm, ce, putUp up l d c'⟩
      | none => False
    | _, _ => False
  | _, _ => False

def putT (Γ : Env) (S : St) (d : Option Nat) (v : IV) (K : St → Prop) : Prop :=
  match S, d with
  | ⟨tm, ce, up⟩, some d => match Nat.blt d Γ.nt with
    | true => K ⟨(d, v) :: tm, ce, up⟩
    | false => False
  | S, none => K S

mutual
/-- A value handed to a call: the cells' levels as that call sees them; what it holds to append to, as a mere reading. -/
def shift : IV → IV
  | .ptr l d off => .ptr (l + 1) d off
  | .lst _ e n f => .lst none e n f
  | .agg xs => .agg (shiftL xs)
  | .tup xs => .tup (shiftL xs)
  | .fn f a c => .fn f (shiftL a) (shiftL c)
  | .raw _ _ _ => .dead
  | v => v
def shiftL : List IV → List IV
  | [] => []
  | x :: r => shift x :: shiftL r
end

mutual
/-- A value handed back: no address of the call's own cells. -/
def unshift : IV → Option IV
  | .ptr 0 _ _ => none
  | .ptr (l + 1) d off => some (.ptr l d off)
  | .lst _ e n f => some (.lst none e n f)
  | .agg xs => match unshiftL xs with
    | some ys => some (.agg ys)
    | none => none
  | .tup xs => match unshiftL xs with
    | some ys => some (.tup ys)
    | none => none
  | .fn f a c => match unshiftL a, unshiftL c with
    | some a', some c' => some (.fn f a' c')
    | _, _ => none
  | .raw _ _ _ => some .dead
  | v => some v
def unshiftL : List IV → Option (List IV)
  | [] => some []
  | x :: r => match unshift x, unshiftL r with
    | some y, some s => some (y :: s)
    | _, _ => none
end

def evoL (Γ : Env) (S : St) : List Operand → List IV
  | [] => []
  | x :: r => evo Γ S x :: evoL Γ S r

inductive Ex where
  | normal
  | exit (id : Nat)
  | ret

def Ex.seq (K : St → Prop) (Q : Ex → St → Prop) : Ex → St → Prop
  | .normal, S => K S
  | e, S => Q e S

def Ex.blk (id : Nat) (Q : Ex → St → Prop) : Ex → St → Prop
  | .exit j, S => match Nat.beq j id with
    | true => Q .normal S
    | false => Q (.exit j) S
  | e, S => Q e S

/-! what a state may be told as -/
mutual
def leV : IV → IV → Prop
  | _, .dead => True
  | .nilS, .lst _ _ n _ => n = 0
  | .lst o e n f, .lst o' e' n' f' => (o' = none ∨ o' = o) ∧ e = e' ∧ n = n' ∧ ∀ i, i < n → f i = f' i
  | .agg xs, .agg ys => leL xs ys
  | .tup xs, .tup ys => leL xs ys
  | x, y => x = y
def leL : List IV → List IV → Prop
  | [], [] => True
  | x :: xs, y :: ys => leV x y ∧ leL xs ys
  | _, _ => False
end
def leT (S : Tms) : Tms → Prop
  | [] => True
  | (i, v) :: r => leV (look S i) v ∧ leT S r
def leC (S : Ces) : Ces → Prop
  | [] => True
  | (d, c) :: r => (match lookC S d with | some x => leL x c | none => False) ∧ leC S r
mutual
/-- No address of an own cell but of those listed. -/
def clV (ds : List Nat) : IV → Bool
  | .ptr 0 d _ => ds.any (Nat.beq d)
  | .agg xs => clL ds xs
  | .tup xs => clL ds xs
  | .fn _ a c => clL ds a && clL ds c
  | _ => true
def clL (ds : List Nat) : List IV → Bool
  | [] => true
  | x :: r => clV ds x && clL ds r
end
def keys : Ces → List Nat
  | [] => []
  | (d, _) :: r => d :: keys r
def clT (ds : List Nat) : Tms → Bool
  | [] => true
  | (_, v) :: r => clV ds v && clT ds r
def clC (ds : List Nat) : Ces → Bool
  | [] => true
  | (_, c) :: r => clL ds c && clC ds r
structure leS (S T : St) : Prop where
  tm : leT S.tm T.tm
  ce : leC S.ce T.ce
  up : S.up = T.up
  cl : (clT (keys T.ce) T.tm && clC (keys T.ce) T.ce) = true

/-- A loop: an invariant, and a number that falls. -/
inductive LOOP (body : (Ex → St → Prop) → St → Prop) (Q : Ex → St → Prop) (S : St) : Prop where
  | mk {α : Type} (Inv : α → St) (rk : α → Nat) (a : α) (h0 : leS S (Inv a))
      (hr : ∀ a, body (Ex.seq (fun S' => ∃ a', leS S' (Inv a') ∧ rk a' < rk a) Q) (Inv a))

end Go.Proofs.YtllmejkmogepjaaDoor.Ix
