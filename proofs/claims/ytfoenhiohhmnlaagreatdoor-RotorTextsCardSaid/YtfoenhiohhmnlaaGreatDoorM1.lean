/- YtfoenhiohhmnlaaGreatDoorM1 -/
import Derived.Calls
import Derived.KernelRfl
import Derived.Laws.ComplexArith
import Derived.Orders
import Derived.Laws.AppendOwn
import Derived.Laws.Rows
import Derived.Laws.World
import Derived.Below
import Derived.Laws.CopyRow
import Derived.Laws.Append
import Derived.Laws.Entries
import Derived.ChangeKeysEq
namespace Go.Proofs.YtfoenhiohhmnlaaGreatDoor.Ix
inductive IV where
  | int (k : IntKind) (n : Int)
  | bool (b : Bool)
  | str (s : ByteArray)
  | lit (v : Value)
  | nilS
  | lst (own : Option Nat) (e n : Nat) (f : Nat → List IV)
  | agg (xs : List IV)
  | tup (xs : List IV)
  | ptr (l d off : Nat)
  | vptr (e n : Nat) (f : Nat → List IV) (i j : Nat)
  | fn (f : Nat) (first captured : List IV)
  | raw (t e n : Nat)
  | row (d e n c b : Nat)
  | mp (ks : List ByteArray) (xs : List IV)
  | ifc
  | dead
abbrev Tms := List (Nat × IV)
abbrev Ces := List (Nat × List IV)
structure St where
  tm : Tms
  ce : Ces
  up : List Ces
inductive TK where
  | other
  | struct (fs : List (Nat × Nat × Bool))
  | array (n e : Nat)
  | slice (e : Nat)
  | str
  | map (k e : Nat)
  | mapv (k e : Nat)
  | iface
inductive LK where
  | int
  | bool
  | str
  | flt
  | cpx
structure Ty where
  size : Nat
  bytes : Nat
  agg : Bool
  zero : List IV
  eq : List LK
  k : TK
def Ty.none : Ty := ⟨0, 0, false, [], [], .other⟩
structure Env where
  P : Program
  T : Nat → Ty
  gl : Nat → IV
  nt : Nat
  vis : Nat → List IV → Nat → (Nat → List IV) → Prop
  yld : Option (Nat × Nat × (Nat → List IV))
  ds : Option (List Deferred)
  rw : List Nat
def look : Tms → Nat → IV
  | [], _ => .dead
  | (i, v) :: r, j => match Nat.beq i j with
    | true => v
    | false => look r j
def lookC : Ces → Nat → Option (List IV)
  | [], _ => none
  | (i, v) :: r, j => match Nat.beq i j with
    | true => some v
    | false => lookC r j
def putC : Ces → Nat → List IV → Ces
  | [], _, _ => []
  | (i, v) :: r, j, c => match Nat.beq i j with
    | true => (i, c) :: r
    | false => (i, v) :: putC r j c
def takeN : Nat → List IV → Option (List IV)
  | 0, _ => some []
  | _ + 1, [] => none
  | n + 1, x :: r => match takeN n r with
    | some t => some (x :: t)
    | none => none
def dropN : Nat → List IV → List IV
  | 0, r => r
  | _ + 1, [] => []
  | n + 1, _ :: r => dropN n r
def nthI : List IV → Nat → Option IV
  | [], _ => none
  | x :: _, 0 => some x
  | _ :: r, n + 1 => nthI r n
def lay : List IV → Nat → List IV → Option (List IV)
  | r, 0, [] => some r
  | [], 0, _ :: _ => none
  | _ :: r, 0, v :: vs => match lay r 0 vs with
    | some t => some (v :: t)
    | none => none
  | [], _ + 1, _ => none
  | x :: r, off + 1, vs => match lay r off vs with
    | some t => some (x :: t)
    | none => none
def chk (b : Bool) (p : Prop) : Prop := match b with
  | true => p
  | false => False
def brk (b : Bool) (k : Bool → Prop) : Prop := match b with
  | true => k true
  | false => k false
def ofConst : Value → IV
  | .int k n => .int k n
  | .bool b => .bool b
  | .string s => .str s
  | .slice none 0 0 => .nilS
  | .nilFunc => .lit .nilFunc
  | .pointer none => .lit (.pointer none)
  | .nilIface => .lit .nilIface
  | .float k b => .lit (.float k b)
  | .complex k a b => .lit (.complex k a b)
  | _ => .dead
def evo (Γ : Env) (S : St) : Operand → IV
  | .tmp t => look S.tm t
  | .const v => ofConst v
  | .global g => Γ.gl g
  | .func f => .fn f [] []
def evoB (Γ : Env) (S : St) : Operand → IV
  | .const (.slice none 0 0) => .lit (.slice none 0 0)
  | x => evo Γ S x
mutual
def fv : IV → (IV → Prop) → Prop
  | .int k n, K => K (.int k n)
  | .bool b, K => K (.bool b)
  | .str s, K => K (.str s)
  | .lit v, K => K (.lit v)
  | .nilS, K => K .nilS
  | .lst o e n f, K => K (.lst o e n f)
  | .agg xs, K => fvL xs fun ys => K (.agg ys)
  | .tup xs, K => fvL xs fun ys => K (.tup ys)
  | .ptr l d off, K => K (.ptr l d off)
  | .vptr e n f i j, K => K (.vptr e n f i j)
  | .fn f a c, K => fvL a fun a => fvL c fun c => K (.fn f a c)
  | .raw t e n, K => K (.raw t e n)
  | .row d e n c b, K => K (.row d e n c b)
  | .mp ks xs, K => fvL xs fun ys => K (.mp ks ys)
  | .ifc, K => K .ifc
  | .dead, K => K .dead
def fvL : List IV → (List IV → Prop) → Prop
  | [], K => K []
  | x :: r, K => fv x fun x => fvL r fun r => K (x :: r)
end
def ev (Γ : Env) (S : St) (x : Operand) (K : IV → Prop) : Prop := fv (evo Γ S x) K
def part1 (agg : Bool) (off size : Nat) (xs : List IV) (K : IV → Prop) : Prop :=
  match agg with
  | true => match takeN size (dropN off xs) with
    | some t => K (.agg t)
    | none => False
  | false => match nthI xs off with
    | some v => K v
    | none => False
def eqIV : LK → IV → IV → Option Bool
  | .int, .int k a, .int k' b => match decide (k = k') with
    | true => some (a == b)
    | false => none
  | .bool, .bool a, .bool b => some (a == b)
  | .str, .str a, .str b => some (a.toList == b.toList)
  | .flt, .lit (.float k a), .lit (.float k' b) => match decide (k = k') with
    | true => some (k.format.order a b == some .eq)
    | false => none
  | .cpx, .lit (.complex k a b), .lit (.complex k' c d) => match decide (k = k') with
    | true => some ((k.format.order a c == some .eq) && (k.format.order b d == some .eq))
    | false => none
  | _, _, _ => none
def andO : Option Bool → Option Bool → Option Bool
  | some a, some b => some (a && b)
  | _, _ => none
def eqAll : List LK → List IV → List IV → Option Bool
  | [], [], [] => some true
  | k :: ks, x :: xs, y :: ys => andO (eqIV k x y) (eqAll ks xs ys)
  | _, _, _ => none
def frcN (n : Nat) (K : Nat → Prop) : Prop := match n with
  | 0 => K 0
  | m + 1 => K (m + 1)
theorem frcN_eq (n : Nat) (K : Nat → Prop) : frcN n K = K n := by cases n <;> rfl
def frcI (n : Int) (K : Int → Prop) : Prop := match n with
  | .ofNat m => frcN m fun m => K (.ofNat m)
  | .negSucc m => frcN m fun m => K (.negSucc m)
theorem frcI_eq (n : Int) (K : Int → Prop) : frcI n K = K n := by
  cases n with
  | ofNat m => exact frcN_eq m fun m => K (.ofNat m)
  | negSucc m => exact frcN_eq m fun m => K (.negSucc m)
def frcV : IV → (IV → Prop) → Prop
  | .lit (.float k n), K => frcN n fun n => K (.lit (.float k n))
  | .lit (.complex k a b), K => frcN a fun a => frcN b fun b => K (.lit (.complex k a b))
  | .int k n, K => frcI n fun n => K (.int k n)
  | v, K => K v
theorem frcV_eq (v : IV) (K : IV → Prop) : frcV v K = K v := by
  unfold frcV
  split
  · exact frcN_eq _ _
  · rw [frcN_eq, frcN_eq]
  · exact frcI_eq _ _
  · rfl
def flC (k : FloatKind) (a b : Nat) : BinOp → Option Bool
  | .eql => some (k.format.order a b == some .eq)
  | .neq => some (k.format.order a b != some .eq)
  | .lss => some (k.format.order a b == some .lt)
  | .leq => some (k.format.order a b == some .lt || k.format.order a b == some .eq)
  | .gtr => some (k.format.order a b == some .gt)
  | .geq => some (k.format.order a b == some .gt || k.format.order a b == some .eq)
  | _ => none
def cMul32 (a b c d : Nat) : Option (Nat × Nat) :=
  (floatToFloatBits .f32 a .f64).bind fun a => (floatToFloatBits .f32 b .f64).bind fun b => (floatToFloatBits .f32 c .f64).bind fun c => (floatToFloatBits .f32 d .f64).bind fun d =>
  (cMulBits a b c d).bind fun r => cConvBits .f64 r.1 r.2 .f32
def cxA (k : FloatKind) (a b c d : Nat) : BinOp → Option (Nat × Nat)
  | .add => cSumBits .add k a b c d
  | .sub => cSumBits .sub k a b c d
  | .mul => match k with
    | .f64 => cMulBits a b c d
    | .f32 => cMul32 a b c d
  | _ => none
def flN (op : BinOp) (x y : IV) : Option (FloatKind × Option Nat) :=
  match x, y with
  | .lit (.float k a), .lit (.float k' b) => match decide (k = k'), op with
    | true, .add => some (k, floatBits .add k a b)
    | true, .sub => some (k, floatBits .sub k a b)
    | true, .mul => some (k, floatBits .mul k a b)
    | true, .quo => some (k, floatBits .quo k a b)
    | _, _ => none
  | _, _ => none
def flV (op : BinOp) : Value → Value → Option IV
  | .float k a, .float k' b => match decide (k = k') with
    | false => none
    | true => match flC k a b op with
      | some c => some (.bool c)
      | none => match floatBits op k a b with
        | some n => some (.lit (.float k n))
        | none => none
  | .complex k a b, .complex k' c d => match decide (k = k') with
    | false => none
    | true => match op with
      | .eql => some (.bool ((k.format.order a c == some .eq) && (k.format.order b d == some .eq)))
      | .neq => some (.bool !((k.format.order a c == some .eq) && (k.format.order b d == some .eq)))
      | op => match cxA k a b c d op with
        | some r => some (.lit (.complex k r.1 r.2))
        | none => none
  | _, _ => none
def cvV : Value → List IV → Option IV
  | .float s b, [.int k _] => match floatToIntVal s b k with
    | some n => some (.int k n)
    | none => none
  | .float s b, [.lit (.float k _)] => match floatToFloatBits s b k with
    | some r => some (.lit (.float k r))
    | none => none
  | .complex s a b, [.lit (.complex k _ _)] => match cConvBits s a b k with
    | some r => some (.lit (.complex k r.1 r.2))
    | none => none
  | _, _ => none
def bin (op : BinOp) (ty : Ty) (x y : IV) (K : IV → Prop) : Prop :=
  match x, y with
  | .int k a, .int k' b => match op with
    | .shl => chk (decide (0 ≤ b)) (K (.int k (k.wrap (a * 2 ^ (min b.toNat k.bits)))))
    | .shr => chk (decide (0 ≤ b)) (K (.int k (a.fdiv (2 ^ (min b.toNat k.bits)))))
    | _ => match decide (k = k') with
      | false => False
      | true => match op with
        | .add => K (.int k (k.wrap (a + b)))
        | .sub => K (.int k (k.wrap (a - b)))
        | .mul => K (.int k (k.wrap (a * b)))
        | .quo => chk (b != 0) (K (.int k (k.wrap (a.tdiv b))))
        | .rem => chk (b != 0) (K (.int k (a.tmod b)))
        | .eql => K (.bool (a == b))
        | .neq => K (.bool (a != b))
        | .lss => K (.bool (decide (a < b)))
        | .leq => K (.bool (decide (a ≤ b)))
        | .gtr => K (.bool (decide (a > b)))
        | .geq => K (.bool (decide (a ≥ b)))
        | _ => False
  | .str a, .str b => match op with
    | .add => chk (decide (a.size + b.size ≤ 1099511627776)) (K (.str (a ++ b)))
    | .eql => K (.bool (a.toList == b.toList))
    | .neq => K (.bool !(a.toList == b.toList))
    | _ => False
  | .bool a, .bool b => match ty.k, ty.zero, op with
    | .other, [.bool _], .eql => K (.bool (a == b))
    | .other, [.bool _], .neq => K (.bool !(a == b))
    | _, _, _ => False
  | .agg xs, .agg ys => match ty.eq with
    | [] => False
    | k :: ks => match op, eqAll (k :: ks) xs ys with
      | .eql, some b => K (.bool b)
      | .neq, some b => K (.bool !b)
      | _, _ => False
  | .lst _ _ n _, .lit (.slice none 0 0) => match ty.k, op with
    | .slice _, .eql => chk (decide (0 < n)) (K (.bool false))
    | .slice _, .neq => chk (decide (0 < n)) (K (.bool true))
    | _, _ => False
  | .lit u, .lit v => match flV op u v with
    | some r => frcV r K
    | none => False
  | _, _ => False
def nilB (op : BinOp) (k : TK) (x : IV) (K : IV → Prop) : Prop := match k, x, op with
  | .iface, .lit .nilIface, .eql => K (.bool true)
  | .iface, .lit .nilIface, .neq => K (.bool false)
  | .iface, .ifc, .eql => K (.bool false)
  | .iface, .ifc, .neq => K (.bool true)
  | _, _, _ => False
def isNilI : Operand → Bool
  | .const .nilIface => true
  | _ => false
def addI (p : IV) (n : Nat) (K : IV → Prop) : Prop :=
  match p with
  | .ptr l d off => K (.ptr l d (off + n))
  | .vptr e m f i j => K (.vptr e m f i (j + n))
  | _ => False
def upC : List Ces → Nat → Ces
  | [], _ => []
  | c :: _, 0 => c
  | _ :: r, n + 1 => upC r n
def putUp : List Ces → Nat → Nat → List IV → List Ces
  | [], _, _, _ => []
  | c :: r, 0, d, x => putC c d x :: r
  | c :: r, n + 1, d, x => c :: putUp r n d x
mutual
def noOwn : IV → IV
  | .lst _ e n f => .lst none e n f
  | .agg xs => .agg (noOwnL xs)
  | .tup xs => .tup (noOwnL xs)
  | .mp ks xs => .mp ks (noOwnL xs)
  | .fn f a c => .fn f (noOwnL a) (noOwnL c)
  | .raw _ _ _ => .dead
  | .row _ _ _ _ _ => .dead
  | v => v
def noOwnL : List IV → List IV
  | [] => []
  | x :: r => noOwn x :: noOwnL r
end
mutual
def lift (k : Nat) : IV → IV
  | .ptr l d off => .ptr (k + l) d off
  | .agg xs => .agg (liftL k xs)
  | .tup xs => .tup (liftL k xs)
  | .mp ks xs => .mp ks (liftL k xs)
  | .fn f a c => .fn f (liftL k a) (liftL k c)
  | .raw _ _ _ => .dead
  | .row _ _ _ _ _ => .dead
  | v => v
def liftL (k : Nat) : List IV → List IV
  | [] => []
  | x :: r => lift k x :: liftL k r
end
mutual
def lower (k : Nat) : IV → Option IV
  | .ptr l d off => match Nat.ble k l with
    | true => some (.ptr (l - k) d off)
    | false => none
  | .agg xs => match lowerL k xs with
    | some ys => some (.agg ys)
    | none => none
  | .tup xs => match lowerL k xs with
    | some ys => some (.tup ys)
    | none => none
  | .mp ks xs => match lowerL k xs with
    | some ys => some (.mp ks ys)
    | none => none
  | .fn f a c => match lowerL k a, lowerL k c with
    | some a', some c' => some (.fn f a' c')
    | _, _ => none
  | .raw _ _ _ => some .dead
  | .row _ _ _ _ _ => some .dead
  | v => some v
def lowerL (k : Nat) : List IV → Option (List IV)
  | [] => some []
  | x :: r => match lower k x, lowerL k r with
    | some y, some s => some (y :: s)
    | _, _ => none
end
def loadI (S : St) (t : Ty) (p : IV) (K : IV → Prop) : Prop :=
  match p with
  | .ptr 0 d off => match lookC S.ce d with
    | some c => part1 t.agg off t.size c K
    | none => False
  | .ptr (l + 1) d off => match lookC (upC S.up l) d with
    | some c => part1 t.agg off t.size c fun v => K (lift (l + 1) (noOwn v))
    | none => False
  | .vptr _ _ f i j => part1 t.agg j t.size (f i) K
  | _ => False
def cellsI : IV → Option (List IV)
  | .agg xs => some xs
  | .dead => none
  | .tup _ => none
  | v => some [v]
def cellsK (v : IV) (n : Nat) (K : List IV → Prop) : Prop :=
  match cellsI v with
  | some c => match Nat.beq c.length n with
    | true => K c
    | false => False
  | none => False
mutual
def noPtr : IV → Bool
  | .ptr _ _ _ => false
  | .row _ _ _ _ _ => false
  | .mp _ _ => false
  | .agg xs => noPtrL xs
  | .tup xs => noPtrL xs
  | .fn _ a c => noPtrL a && noPtrL c
  | _ => true
def noPtrL : List IV → Bool
  | [] => true
  | x :: r => noPtr x && noPtrL r
end
def buildI (Γ : Env) (S : St) (place : Nat → Option (Nat × Nat)) : List (Nat × Operand) → List IV → (List IV → Prop) → Prop
  | [], z, K => K z
  | (i, x) :: r, z, K => match place i with
    | none => False
    | some (off, sz) => ev Γ S x fun v => cellsK v sz fun c => match lay z off c with
      | some z' => buildI Γ S place r z' K
      | none => False
def repZ : Nat → List IV → List IV
  | 0, _ => []
  | n + 1, z => z ++ repZ n z
def storeI (S : St) (n : Nat) (p v : IV) (K : St → Prop) : Prop :=
  match S, p with
  | ⟨tm, ce, up⟩, .ptr 0 d off => match lookC ce d with
    | some c => cellsK v n fun x => match lay c off x with
      | some c' => K ⟨tm, putC ce d c', up⟩
      | none => False
    | none => False
  | ⟨tm, ce, up⟩, .ptr (l + 1) d off => match lookC (upC up l) d, lower (l + 1) (noOwn v) with
    | some c, some v => cellsK v n fun x => match lay c off x with
      | some c' => K ⟨tm, ce, putUp up l d c'⟩
      | none => False
    | _, _ => False
  | _, _ => False
def putT (Γ : Env) (S : St) (d : Option Nat) (v : IV) (K : St → Prop) : Prop :=
  match S, d with
  | ⟨tm, ce, up⟩, some d => match Nat.blt d Γ.nt with
    | true => K ⟨(d, v) :: tm, ce, up⟩
    | false => False
  | S, none => K S
mutual
def shift : IV → IV
  | .ptr l d off => .ptr (l + 1) d off
  | .lst _ e n f => .lst none e n f
  | .agg xs => .agg (shiftL xs)
  | .tup xs => .tup (shiftL xs)
  | .mp ks xs => .mp ks (shiftL xs)
  | .fn f a c => .fn f (shiftL a) (shiftL c)
  | .raw _ _ _ => .dead
  | .row _ _ _ _ _ => .dead
  | v => v
def shiftL : List IV → List IV
  | [] => []
  | x :: r => shift x :: shiftL r
end
mutual
def unshift : IV → Option IV
  | .ptr 0 _ _ => none
  | .ptr (l + 1) d off => some (.ptr l d off)
  | .lst _ e n f => some (.lst none e n f)
  | .agg xs => match unshiftL xs with
    | some ys => some (.agg ys)
    | none => none
  | .tup xs => match unshiftL xs with
    | some ys => some (.tup ys)
    | none => none
  | .mp ks xs => match unshiftL xs with
    | some ys => some (.mp ks ys)
    | none => none
  | .fn f a c => match unshiftL a, unshiftL c with
    | some a', some c' => some (.fn f a' c')
    | _, _ => none
  | .raw _ _ _ => some .dead
  | .row _ _ _ _ _ => some .dead
  | v => some v
def unshiftL : List IV → Option (List IV)
  | [] => some []
  | x :: r => match unshift x, unshiftL r with
    | some y, some s => some (y :: s)
    | _, _ => none
end
def evoL (Γ : Env) (S : St) : List Operand → List IV
  | [] => []
  | x :: r => evo Γ S x :: evoL Γ S r
inductive Ex where
  | normal
  | exit (id : Nat)
  | ret
def Ex.seq (K : St → Prop) (Q : Ex → St → Prop) : Ex → St → Prop
  | .normal, S => K S
  | e, S => Q e S
def Ex.blk (id : Nat) (Q : Ex → St → Prop) : Ex → St → Prop
  | .exit j, S => match Nat.beq j id with
    | true => Q .normal S
    | false => Q (.exit j) S
  | e, S => Q e S
mutual
def leV : IV → IV → Prop
  | _, .dead => True
  | .nilS, .lst _ _ n _ => n = 0
  | .lst o e n f, .lst o' e' n' f' => (o' = none ∨ o' = o) ∧ e = e' ∧ n = n' ∧ ∀ i, i < n → f i = f' i
  | .agg xs, .agg ys => leL xs ys
  | .tup xs, .tup ys => leL xs ys
  | x, y => x = y
def leL : List IV → List IV → Prop
  | [], [] => True
  | x :: xs, y :: ys => leV x y ∧ leL xs ys
  | _, _ => False
end
def leT (S : Tms) : Tms → Prop
  | [] => True
  | (i, v) :: r => leV (look S i) v ∧ leT S r
def leC (S : Ces) : Ces → Prop
  | [] => True
  | (d, c) :: r => (match lookC S d with | some x => leL x c | none => False) ∧ leC S r
mutual
def clV (ds : List Nat) : IV → Bool
  | .ptr 0 d _ => ds.any (Nat.beq d)
  | .row d _ _ _ _ => ds.any (Nat.beq d)
  | .agg xs => clL ds xs
  | .tup xs => clL ds xs
  | .mp _ xs => clL ds xs
  | .fn _ a c => clL ds a && clL ds c
  | _ => true
def clL (ds : List Nat) : List IV → Bool
  | [] => true
  | x :: r => clV ds x && clL ds r
end
def keys : Ces → List Nat
  | [] => []
  | (d, _) :: r => d :: keys r
def clT (ds : List Nat) : Tms → Bool
  | [] => true
  | (_, v) :: r => clV ds v && clT ds r
def clC (ds : List Nat) : Ces → Bool
  | [] => true
  | (_, c) :: r => clL ds c && clC ds r
structure leS (S T : St) : Prop where
  tm : leT S.tm T.tm
  ce : leC S.ce T.ce
  up : S.up = T.up
  cl : (clT (keys T.ce) T.tm && clC (keys T.ce) T.ce) = true
inductive LOOP (body : (Ex → St → Prop) → St → Prop) (Q : Ex → St → Prop) (S : St) : Prop where
  | mk {α : Type} (Inv : α → St) (rk : α → Nat) (a : α) (h0 : leS S (Inv a))
      (hr : ∀ a, body (Ex.seq (fun S' => ∃ a', leS S' (Inv a') ∧ rk a' < rk a) Q) (Inv a))
end Go.Proofs.YtfoenhiohhmnlaaGreatDoor.Ix

namespace Go.Proofs.YtfoenhiohhmnlaaGreatDoor.Ix
structure Con where
  c : Nat → List Ces → List IV → IV → List Ces → Prop
  o : Nat → List IV → Nat → List (List IV) → Prop
  v : Nat → List (List IV) → Nat → (Nat → List IV) → Prop
  l : Nat → Nat → List IV → List IV → List IV → Prop
instance : CoeFun Con fun _ => Nat → List Ces → List IV → IV → List Ces → Prop := ⟨Con.c⟩
def ptrsI : List Nat → List IV
  | [] => []
  | k :: r => .ptr 0 k 0 :: ptrsI r
def addC : List Nat → List (List IV) → Ces → Ces
  | k :: ks, c :: cs, ce => (k, c) :: addC ks cs ce
  | _, _, ce => ce
def back (d : Option Nat) : IV → Option IV
  | .lst (some _) e n f => some (.lst d e n f)
  | .tup (.lst (some _) e n f :: r) => match unshiftL r with
    | some s => some (.tup (.lst d e n f :: s))
    | none => none
  | v => unshift v
def hasN (l : List Nat) (i : Nat) : Bool := match l with
  | [] => false
  | x :: r => match Nat.beq x i with
    | true => true
    | false => hasN r i
def fpsK (ks : List Nat) : Tms → (Tms → Prop) → Prop
  | [], K => K []
  | (i, v) :: r, K => match hasN ks i with
    | true => fv v fun v => fpsK ks r fun r => K ((i, v) :: r)
    | false => fpsK ks r K
def allInt : List IV → Bool
  | [] => true
  | .int _ _ :: r => allInt r
  | _ => false
def slcI : IV → Bool
  | .lst none _ _ _ => true
  | .nilS => true
  | _ => false
def flatR (e n : Nat) (f : Nat → List IV) : List IV := (List.range (n * e)).map fun k => ((f (k / e))[k % e]?).getD .dead
def hasKey : Ces → Nat → Bool
  | [], _ => false
  | (i, _) :: r, d => Nat.beq i d || hasKey r d
def freshB (ce : Ces) : List Nat → Bool
  | [] => true
  | k :: r => !hasKey ce k && (!hasN r k && freshB ce r)
mutual
def frzV (d e n : Nat) (g : Nat → List IV) : IV → IV
  | .ptr 0 c off => match Nat.beq c d with
    | true => .dead
    | false => .ptr 0 c off
  | .row c e' n' k' b' => match Nat.beq c d && Nat.beq e' e && Nat.beq n' n with
    | true => .lst none e n g
    | false => match Nat.beq c d with
      | true => .dead
      | false => .row c e' n' k' b'
  | .agg xs => .agg (frzVL d e n g xs)
  | .tup xs => .tup (frzVL d e n g xs)
  | .mp ks xs => .mp ks (frzVL d e n g xs)
  | .fn f a c => .fn f (frzVL d e n g a) (frzVL d e n g c)
  | v => v
def frzVL (d e n : Nat) (g : Nat → List IV) : List IV → List IV
  | [] => []
  | x :: r => frzV d e n g x :: frzVL d e n g r
end
def frzT (d e n : Nat) (g : Nat → List IV) : Tms → Tms
  | [] => []
  | (i, v) :: r => (i, frzV d e n g v) :: frzT d e n g r
def frzC (d e n : Nat) (g : Nat → List IV) : Ces → Ces
  | [] => []
  | (i, c) :: r => match Nat.beq i d with
    | true => frzC d e n g r
    | false => (i, frzVL d e n g c) :: frzC d e n g r
mutual
def tagsV : IV → List Nat
  | .lst (some t) _ _ _ => [t]
  | .agg xs => tagsL xs
  | .tup xs => tagsL xs
  | .mp _ xs => tagsL xs
  | .fn _ a c => tagsL a ++ tagsL c
  | .raw t _ _ => [t]
  | _ => []
def tagsL : List IV → List Nat
  | [] => []
  | x :: r => tagsV x ++ tagsL r
end
def freeTm (ts : List Nat) : Tms → Bool
  | [] => true
  | (_, v) :: r => ((tagsV v).all fun t => !hasN ts t) && freeTm ts r
def freeCe (ts : List Nat) (d : Nat) : Ces → Bool
  | [] => true
  | (i, c) :: r => (Nat.beq i d || (tagsL c).all fun t => !hasN ts t) && freeCe ts d r
inductive CALL0 (C : Con) (g : Nat) (tm : Tms) (ce0 : Ces) (up0 : List Ces) (args : List IV) (d : Option Nat) (K : IV → St → Prop) : Prop where
  | mk (args' : List IV) (r r' : IV) (ce : Ces) (up : List Ces) (hle : leL args args') (h : C g (ce0 :: up0) args' r (ce :: up)) (hr : back d r = some r') (hk : K r' ⟨tm, ce, up⟩)
  | cut (ks : List Nat) (args' : List IV) (r r' : IV) (ce : Ces) (up : List Ces) (hle : leL args args') (h : C g (ce0 :: up0) args' r (ce :: up)) (hr : back d r = some r') (hk : fpsK ks tm fun tm => K r' ⟨tm, ce, up⟩)
  | thaw (ks : List Nat) (dd : Nat) (hd : d = some dd) (xs : List IV) (e n z : Nat) (f : Nat → List IV) (hle : leL args [.agg (xs ++ [.lst none e n f])]) (hx : xs.all slcI = true) (hi : ∀ i, i < n → allInt (f i) = true) (hpos : 0 < n)
    (h : ∀ vs : List Value, vs.length = xs.length → (∀ v ∈ vs, ∃ p n c, v = .slice p n c) → C g [] [.agg (vs.map .lit ++ [.lst none e n f])] (.agg (vs.map .lit ++ [.lst (some z) e n f])) [])
    (hn : lookC ce0 dd = none) (hk : ∀ m c b, fpsK ks tm fun tm => K (.agg (xs ++ [.row dd e n c b])) ⟨tm, (dd, flatR e n f ++ List.replicate m .dead) :: ce0, up0⟩)
  | own (ks : List Nat) (args' : List IV) (k : Nat) (cs : List (List IV)) (hle : leL args args') (h : C.o g args' k cs) (hl : ks.length = cs.length) (hf : freshB ce0 ks = true) (hk : K (.fn k [] (ptrsI ks)) ⟨tm, addC ks cs ce0, up0⟩)
  | lend (dd : Nat) (c c' rest : List IV) (hle : leL args (.ptr 1 dd 0 :: rest)) (hr : noPtrL rest = true) (hc : lookC ce0 dd = some c) (hn : noPtrL c = true) (hn' : noPtrL c' = true) (h : C.l g dd c (noOwnL rest) c')
    (ht : (freeTm (tagsL c ++ tagsL c') tm && freeCe (tagsL c ++ tagsL c') dd ce0) = true) (hk : K (.tup []) ⟨tm, putC ce0 dd c', up0⟩)
abbrev CALL (C : Con) (g : Nat) (S : St) (args : List IV) (d : Option Nat) (K : IV → St → Prop) : Prop := match S with
  | ⟨tm, ce, up⟩ => CALL0 C g tm ce up args d K
def fieldAt : List (Nat × Nat × Bool) → Nat → Option (Nat × Nat × Bool)
  | [], _ => none
  | x :: _, 0 => some x
  | _ :: r, n + 1 => fieldAt r n
def idx (i : IV) (n : Nat) (K : Nat → Prop) : Prop :=
  match i with
  | .int _ i => chk (decide (0 ≤ i)) (chk (decide (i < (n : Int))) (K i.toNat))
  | _ => False
def litF (e : Nat) (xs : List IV) (i : Nat) : List IV := match takeN e (dropN (i * e) xs) with
  | some t => t
  | none => []
def minI (x y : IV) (K : IV → Prop) : Prop :=
  match x, y with
  | .int k a, .int _ b => K (.int k (if b < a then b else a))
  | _, _ => False
def maxI (x y : IV) (K : IV → Prop) : Prop :=
  match x, y with
  | .int k a, .int _ b => K (.int k (if b > a then b else a))
  | _, _ => False
def minL : IV → List IV → (IV → Prop) → Prop
  | x, [], K => K x
  | x, y :: r, K => minI x y fun v => minL v r K
def maxL : IV → List IV → (IV → Prop) → Prop
  | x, [], K => K x
  | x, y :: r, K => maxI x y fun v => maxL v r K
def appF (n : Nat) (f g : Nat → List IV) (i : Nat) : List IV := if i < n then f i else g (i - n)
mutual
def dropTag (t : Nat) : IV → IV
  | .lst (some u) e n f => match Nat.beq u t with
    | true => .lst none e n f
    | false => .lst (some u) e n f
  | .agg xs => .agg (dropTagL t xs)
  | .tup xs => .tup (dropTagL t xs)
  | .mp ks xs => .mp ks (dropTagL t xs)
  | .fn f a c => .fn f (dropTagL t a) (dropTagL t c)
  | .raw u e n => match Nat.beq u t with
    | true => .dead
    | false => .raw u e n
  | v => v
def dropTagL (t : Nat) : List IV → List IV
  | [] => []
  | x :: r => dropTag t x :: dropTagL t r
end
mutual
def hasTag (t : Nat) : IV → Bool
  | .lst (some u) _ _ _ => Nat.beq u t
  | .agg xs => hasTagL t xs
  | .tup xs => hasTagL t xs
  | .mp _ xs => hasTagL t xs
  | .fn _ a c => hasTagL t a || hasTagL t c
  | .raw u _ _ => Nat.beq u t
  | _ => false
def hasTagL (t : Nat) : List IV → Bool
  | [] => false
  | x :: r => hasTag t x || hasTagL t r
end
def tmTag (t : Nat) : Tms → Bool
  | [] => false
  | (_, v) :: r => hasTag t v || tmTag t r
def ceTag (t : Nat) : Ces → Bool
  | [] => false
  | (_, c) :: r => hasTagL t c || ceTag t r
def tmDrop (t : Nat) : Tms → Tms
  | [] => []
  | (i, v) :: r => (i, dropTag t v) :: tmDrop t r
def ceDrop (t : Nat) : Ces → Ces
  | [] => []
  | (i, c) :: r => (i, dropTagL t c) :: ceDrop t r
def untag (t : Nat) (S : St) (K : St → Prop) : Prop :=
  match S with
  | ⟨tm, ce, up⟩ => match tmTag t tm || ceTag t ce with
    | true => K ⟨tmDrop t tm, ceDrop t ce, up⟩
    | false => K ⟨tm, ce, up⟩
def untagO (d : Option Nat) (S : St) (K : St → Prop) : Prop :=
  match d with
  | some t => untag t S K
  | none => K S
def newC0 (Γ : Env) (S : St) (d : Nat) (c : List IV) (K : St → Prop) : Prop :=
  match S with
  | ⟨tm, ce, up⟩ => match hasKey ce d with
    | true => False
    | false => match Nat.blt d Γ.nt with
      | true => K ⟨(d, .ptr 0 d 0) :: tm, (d, c) :: ce, up⟩
      | false => False
def appendI (Γ : Env) (S : St) (d : Nat) (e : Nat) (s x : IV) (K : St → Prop) : Prop :=
  match x with
  | .nilS => match s with
    | .lst _ e' n f => putT Γ S (some d) (.lst none e' n f) K
    | .nilS => putT Γ S (some d) .nilS K
    | _ => False
  | .lst _ e2 m g => match Nat.beq e2 e with
    | false => False
    | true => match s with
      | .nilS => chk (decide (m ≤ 1073741824)) (untag d S fun S => putT Γ S (some d) (.lst (some d) e m g) K)
      | .lst (some t) e1 n f => match Nat.beq e1 e with
        | false => False
        | true => chk (decide (n + m ≤ 1073741824)) (untag t S fun S => untag d S fun S => putT Γ S (some d) (.lst (some d) e (n + m) (appF n f g)) K)
      | _ => False
  | _ => False
def bnd (d : Int) : Option IV → Option Int
  | none => some d
  | some (.int _ n) => some n
  | _ => none
def sliceI (Γ : Env) (t : Ty) (x : IV) (lo hi : Option IV) (K : IV → Prop) : Prop :=
  match t.k, x with
  | .str, .str s => match bnd 0 lo, bnd s.size hi with
    | some l, some h => chk (decide (0 ≤ l)) (chk (decide (l ≤ h)) (chk (decide (h ≤ (s.size : Int))) (K (.str (s.extract l.toNat h.toNat)))))
    | _, _ => False
  | .slice el, .lst _ e n f => match bnd 0 lo, bnd n hi, Nat.beq e (Γ.T el).size with
    | some l, some h, true => chk (decide (0 ≤ l)) (chk (decide (l ≤ h)) (chk (decide (h ≤ (n : Int))) (K (.lst none e (h.toNat - l.toNat) fun i => f (l.toNat + i)))))
    | _, _, _ => False
  | .array n el, .vptr e0 n0 f i j => match lo, hi with
    | none, none => match Nat.ble (j + n * (Γ.T el).size) e0 with
      | true => K (.lst none (Γ.T el).size n (litF (Γ.T el).size ((dropN j (f i)).take (n * (Γ.T el).size))))
      | false => match Nat.beq e0 (Γ.T el).size && (Nat.beq n0 n && (Nat.beq i 0 && Nat.beq j 0)) with
        | true => K (.lst none e0 n0 f)
        | false => False
    | _, _ => False
  | _, _ => False
def fps : Tms → (Tms → Prop) → Prop
  | [], K => K []
  | (i, v) :: r, K => fv v fun v => fps r fun r => K ((i, v) :: r)
def fcs : Ces → (Ces → Prop) → Prop
  | [], K => K []
  | (i, v) :: r, K => fvL v fun v => fcs r fun r => K ((i, v) :: r)
mutual
def ment (c : Nat) : IV → Bool
  | .ptr 0 d _ => Nat.beq d c
  | .row d _ _ _ _ => Nat.beq d c
  | .agg xs => mentL c xs
  | .tup xs => mentL c xs
  | .mp _ xs => mentL c xs
  | .fn _ a b => mentL c a || mentL c b
  | _ => false
def mentL (c : Nat) : List IV → Bool
  | [] => false
  | x :: r => ment c x || mentL c r
end
def kill (c : Nat) (v : IV) : IV := match ment c v with
  | true => .dead
  | false => v
def killL (c : Nat) : List IV → List IV
  | [] => []
  | x :: r => kill c x :: killL c r
def killT (c : Nat) : Tms → Tms
  | [] => []
  | (i, v) :: r => (i, kill c v) :: killT c r
def killC (c : Nat) : Ces → Ces
  | [] => []
  | (d, x) :: r => match Nat.beq d c with
    | true => killC c r
    | false => (d, killL c x) :: killC c r
def newC (Γ : Env) (S : St) (d : Nat) (c : List IV) (K : St → Prop) : Prop :=
  match S with
  | ⟨tm, ce, up⟩ => match hasKey ce d with
    | true => fps (killT d tm) fun tm => fcs (killC d ce) fun ce => newC0 Γ ⟨tm, ce, up⟩ d (killL d c) K
    | false => newC0 Γ ⟨tm, ce, up⟩ d c K
mutual
def stV (c : Nat) (xs : List IV) : IV → IV
  | .ptr 0 d off => match Nat.beq d c with
    | true => .vptr xs.length 1 (fun _ => xs) 0 off
    | false => .ptr 0 d off
  | .row d e n k b => match Nat.beq d c with
    | true => .dead
    | false => .row d e n k b
  | .agg ys => .agg (stL c xs ys)
  | .tup ys => .tup (stL c xs ys)
  | .mp ks ys => .mp ks (stL c xs ys)
  | .fn f p q => .fn f (stL c xs p) (stL c xs q)
  | v => v
def stL (c : Nat) (xs : List IV) : List IV → List IV
  | [] => []
  | x :: r => stV c xs x :: stL c xs r
end
def stT (c : Nat) (xs : List IV) : Tms → Tms
  | [] => []
  | (i, v) :: r => (i, stV c xs v) :: stT c xs r
def stC (c : Nat) (xs : List IV) : Ces → Ces
  | [] => []
  | (d, x) :: r => match Nat.beq d c with
    | true => stC c xs r
    | false => (d, stL c xs x) :: stC c xs r
def sliceA (Γ : Env) (S : St) (o : Option Nat) (n e : Nat) (p : IV) (K : St → Prop) : Prop :=
  match S, p with
  | ⟨tm, ce, up⟩, .ptr 0 c off => match lookC ce c with
    | some xs => match Nat.ble (off + n * e) xs.length && noPtrL xs with
      | true => fvL (noOwnL xs) fun xs => fps (stT c xs tm) fun tm => fcs (stC c xs ce) fun ce => putT Γ ⟨tm, ce, up⟩ o (.lst none e n (litF e ((dropN off xs).take (n * e)))) K
      | false => False
    | none => False
  | _, _ => False
mutual
def settle (t : Nat) (y : IV) : IV → IV
  | .raw u e' n' => match Nat.beq u t with
    | true => y
    | false => .raw u e' n'
  | .lst (some u) e' n' f => match Nat.beq u t with
    | true => .dead
    | false => .lst (some u) e' n' f
  | .agg xs => .agg (settleL t y xs)
  | .tup xs => .tup (settleL t y xs)
  | .mp ks xs => .mp ks (settleL t y xs)
  | .fn f a c => .fn f (settleL t y a) (settleL t y c)
  | v => v
def settleL (t : Nat) (y : IV) : List IV → List IV
  | [] => []
  | x :: r => settle t y x :: settleL t y r
end
def settleT (t : Nat) (y : IV) : Tms → Tms
  | [] => []
  | (i, v) :: r => (i, settle t y v) :: settleT t y r
def settleC (t : Nat) (y : IV) : Ces → Ces
  | [] => []
  | (i, c) :: r => (i, settleL t y c) :: settleC t y r
def asList (Γ : Env) : Option Nat → Bool
  | some d => hasN Γ.rw d
  | none => false
def copyI (Γ : Env) (S : St) (o : Option Nat) (t e n : Nat) (x : IV) (K : St → Prop) : Prop :=
  match S, x with
  | ⟨tm, ce, up⟩, .lst _ e2 m g => match Nat.beq e2 e && !hasKey ce t with
    | true => chk (decide (m = n)) (match asList Γ o with
      | true => fps (settleT t (.lst (some t) e n g) tm) fun tm => fcs (settleC t (.lst (some t) e n g) ce) fun ce => putT Γ ⟨tm, ce, up⟩ o (.int .i64 n) K
      | false => ∀ b : Nat, fps (settleT t (.row t e n n b) tm) fun tm => fcs (settleC t (.row t e n n b) ce) fun ce => putT Γ ⟨tm, (t, flatR e n g) :: ce, up⟩ o (.int .i64 n) K)
    | false => False
  | _, _ => False
def rowI (Γ : Env) (S : St) (d e n : Nat) (c : List IV) (K : St → Prop) : Prop := newC Γ S d c fun S => ∀ b, putT Γ S (some d) (.row d e n n b) K
def makeI (Γ : Env) (S : St) (d e : Nat) (z : List IV) (len : Operand) (l c : IV) (K : St → Prop) : Prop :=
  match l, c with
  | .int _ l, .int _ c => chk (decide (0 ≤ c)) (chk (decide (c ≤ 1073741824)) (match len with
    | .const (.int _ 0) => untag d S fun S => putT Γ S (some d) (.lst (some d) e 0 fun _ => []) K
    | _ => chk (decide (l = c)) (match hasN Γ.rw d with
      | true => rowI Γ S d e c.toNat (flatR e c.toNat fun _ => z) K
      | false => untag d S fun S => putT Γ S (some d) (.raw d e c.toNat) K)))
  | _, _ => False
def rounds (n : Nat) (b : Bool) (up : List Ces) : List Ces := match b with
  | true => [] :: up
  | false => List.replicate (n + 1) [] ++ up
inductive YIELD (v : Value) (l n : Nat) (xs : Nat → List IV) (S : St) (args : List IV) (K : Bool → St → Prop) : Prop where
  | mk (hv : v = .func (.yield l) #[] #[]) (hu : S.up = List.replicate S.up.length []) (h : S.up.length < n) (hx : args = xs S.up.length) (hp : noPtrL args = true) (hk : ∀ b, K b ⟨S.tm, S.ce, rounds n b S.up⟩)
def calls (C : Con) (Γ : Env) (S : St) (o : Oper) (c : Call) (K : St → Prop) : Prop :=
  match c.callee with
  | .value f => match evo Γ S f with
    | .fn g first captured => fvL (shiftL (first ++ evoL Γ S c.args.toList ++ captured)) fun args => CALL C g S args o.dst fun r S' => untagO o.dst S' fun S' => fv r fun r => putT Γ S' o.dst r K
    | .lit v => match Γ.yld with
      | some (l, n, xs) => fvL (noOwnL (evoL Γ S c.args.toList)) fun args => YIELD v l n xs S args fun b S' => putT Γ S' o.dst (.bool b) K
      | none => False
    | _ => False
  | .builtin b => fvL (evoL Γ S c.args.toList) fun args => match b, args with
    | .len, [x] => match c.argTypes.toList with
      | [t] => match (Γ.T t).k, x with
        | .slice _, .lst _ _ n _ => putT Γ S o.dst (.int .i64 n) K
        | .slice _, .nilS => putT Γ S o.dst (.int .i64 0) K
        | .slice _, .row _ _ n _ _ => putT Γ S o.dst (.int .i64 n) K
        | .str, .str s => putT Γ S o.dst (.int .i64 s.size) K
        | _, _ => False
      | _ => False
    | .min, x :: y :: r => minL x (y :: r) fun v => putT Γ S o.dst v K
    | .max, x :: y :: r => maxL x (y :: r) fun v => putT Γ S o.dst v K
    | .real, [.lit (.complex k a _)] => putT Γ S o.dst (.lit (.float k a)) K
    | .imag, [.lit (.complex k _ b)] => putT Γ S o.dst (.lit (.float k b)) K
    | .complex, [.lit (.float k a), .lit (.float k' b)] => match decide (k = k') with
      | true => putT Γ S o.dst (.lit (.complex k a b)) K
      | false => False
    | .copy, [.raw t e n, x] => match c.argTypes.toList with
      | [ty, _] => match (Γ.T ty).k with
        | .slice el => match Nat.beq (Γ.T el).size e with
          | true => copyI Γ S o.dst t e n x K
          | false => False
        | _ => False
      | _ => False
    | .append, [s, x] => match o.dst, c.argTypes.toList with
      | some d, [t, t'] => match Nat.beq t t', (Γ.T t).k with
        | true, .slice e => appendI Γ S d (Γ.T e).size s x K
        | _, _ => False
      | _, _ => False
    | _, _ => False
  | _ => False
def tyK (Γ : Env) (t : Nat) (p : Prop) : Prop := match Nat.blt 0 (Γ.T t).size with
  | true => p
  | false => False
def byteK (c : List IV) (K : IV → Prop) : Prop := match c with
  | [.int .u8 b] => chk (decide (0 ≤ b)) (chk (decide (b < 256)) (K (.str ⟨#[UInt8.ofNat b.toNat]⟩)))
  | _ => False
def selM (s : ByteArray) : List ByteArray → List IV → IV → (IV → Bool → Prop) → Prop
  | k :: ks, x :: xs, z, K => match s.toList == k.toList with
    | true => K x true
    | false => selM s ks xs z K
  | _, _, z, K => K z false
def lookK (Γ : Env) (t : Nat) (m ix : IV) (K : IV → Prop) : Prop := match (Γ.T t).k, m, ix with
  | .mapv kt e, .mp ks xs, .str s => match (Γ.T kt).k with
    | .str => tyK Γ t (tyK Γ e (fv (.agg (Γ.T e).zero) fun z => selM s ks xs z fun v b => K (.tup [v, .bool b])))
    | _ => False
  | _, _, _ => False
def ival (Γ : Env) (S : St) (o : Oper) (K : IV → Prop) : Prop :=
  match o.op with
  | .move x | .assign x => ev Γ S x fun v => K v
  | .pick c a b => match evo Γ S c with
    | .bool c => match c with
      | true => ev Γ S a fun v => K v
      | false => ev Γ S b fun v => K v
    | _ => False
  | .build t parts => match (Γ.T t).k with
    | .struct fs => buildI Γ S (fun i => match fieldAt fs i with
        | some f => some (f.1, f.2.1)
        | none => none) parts.toList (Γ.T t).zero fun xs => K (.agg xs)
    | .array _ e => buildI Γ S (fun i => some (i * (Γ.T e).size, (Γ.T e).size)) parts.toList (Γ.T t).zero fun xs => K (.agg xs)
    | _ => False
  | .load t a => tyK Γ t (loadI S (Γ.T t) (evo Γ S a) fun v => fv v fun v => K v)
  | .nilCheck x => ev Γ S x fun v => match v with
    | .ptr l d off => K (.ptr l d off)
    | .vptr e n f i j => K (.vptr e n f i j)
    | .fn f a c => K (.fn f a c)
    | _ => False
  | .binOp op t x y _ => match isNilI y with
    | true => tyK Γ t (nilB op (Γ.T t).k (evo Γ S x) K)
    | false => bin op (Γ.T t) (evo Γ S x) (evoB Γ S y) fun v => K v
  | .lookup t x ix ok => match ok with
    | true => lookK Γ t (evo Γ S x) (evo Γ S ix) K
    | false => False
  | .unOp op _ x => match op, evo Γ S x with
    | .not, .bool b => K (.bool !b)
    | .neg, .int k n => K (.int k (k.wrap (0 - n)))
    | _, _ => False
  | .convert src dst x => tyK Γ src (match (Γ.T dst).k, evo Γ S x with
    | .other, .int _ n => match (Γ.T dst).zero with
      | [.int k _] => K (.int k (k.wrap n))
      | [.lit (.float k _)] => frcN (floatOfInt k n) fun n => K (.lit (.float k n))
      | _ => False
    | .other, .lit v => match cvV v (Γ.T dst).zero with
      | some r => frcV r K
      | none => False
    | .str, .lst _ 1 1 f => match (Γ.T src).k with
      | .slice e => match (Γ.T e).k, (Γ.T e).zero with
        | .other, [.int .u8 _] => byteK (f 0) K
        | _, _ => False
      | _ => False
    | _, _ => False)
  | .fieldAddr s x i => match (Γ.T s).k with
    | .struct fs => match fieldAt fs i with
      | some f => addI (evo Γ S x) f.1 fun v => K v
      | none => False
    | _ => False
  | .field s x i => match (Γ.T s).k, evo Γ S x with
    | .struct fs, .agg xs => match fieldAt fs i with
      | some f => part1 f.2.2 f.1 f.2.1 xs fun v => fv v fun v => K v
      | none => False
    | _, _ => False
  | .indexAddr t x i => match (Γ.T t).k, evo Γ S x with
    | .array n e, p => idx (evo Γ S i) n fun i => addI p (i * (Γ.T e).size) fun v => K v
    | .slice e, .lst _ e' n f => idx (evo Γ S i) n fun i => match Nat.beq e' (Γ.T e).size with
      | true => K (.vptr e' n f i 0)
      | false => False
    | .slice e, .row d e' n _ _ => idx (evo Γ S i) n fun i => match Nat.beq e' (Γ.T e).size with
      | true => K (.ptr 0 d (i * e'))
      | false => False
    | _, _ => False
  | .index t x i => match (Γ.T t).k, evo Γ S x with
    | .array n e, .agg xs => idx (evo Γ S i) n fun i => part1 (Γ.T e).agg (i * (Γ.T e).size) (Γ.T e).size xs fun v => fv v fun v => K v
    | .str, .str s => idx (evo Γ S i) s.size fun i => K (.int .u8 ((s.data.toList.getD i 0).toNat : Int))
    | _, _ => False
  | .slice t x lo hi none => sliceI Γ (Γ.T t) (evo Γ S x) (lo.map (evo Γ S)) (hi.map (evo Γ S)) fun v => K v
  | .extract x i => match evo Γ S x with
    | .tup xs => match nthI xs i with
      | some v => fv v fun v => K v
      | none => False
    | _ => False
  | .makeFunc (.func f) first captured => fvL (evoL Γ S first.toList) fun a => fvL (evoL Γ S captured.toList) fun c => K (.fn f a c)
  | _ => False
def iop (C : Con) (Γ : Env) (S : St) (o : Oper) (K : St → Prop) : Prop :=
  match o.op with
  | .alloc t => match o.dst with
    | some d => tyK Γ t (fvL (Γ.T t).zero fun c => newC Γ S d c K)
    | none => False
  | .box _ x => match o.dst with
    | some d => ev Γ S x fun v => match cellsI v with
      | some c => newC Γ S d c K
      | none => False
    | none => False
  | .buildSlice t len parts => match (Γ.T t).k, o.dst with
    | .slice e, some d => match Nat.ble (len * (Γ.T e).size) 16777216, Nat.blt 0 (Γ.T e).size with
      | true, true => buildI Γ S (fun i => some (i * (Γ.T e).size, (Γ.T e).size)) parts.toList (repZ len (Γ.T e).zero) fun xs => match noPtrL xs with
        | true => match len with
          | 0 => putT Γ S (some d) .nilS K
          | _ => match hasN Γ.rw d with
            | true => fvL xs fun xs => rowI Γ S d (Γ.T e).size len xs K
            | false => fvL (noOwnL xs) fun xs => untag d S fun S => putT Γ S (some d) (.lst (some d) (Γ.T e).size len (litF (Γ.T e).size xs)) K
        | false => False
      | _, _ => False
    | _, _ => False
  | .store t a x => match o.dst with
    | none => tyK Γ t (ev Γ S a fun a => ev Γ S x fun x => storeI S (Γ.T t).size a x K)
    | some _ => False
  | .call c => calls C Γ S o c K
  | .makeSlice t len cap => match (Γ.T t).k, o.dst with
    | .slice e, some d => match Nat.blt 0 (Γ.T e).size with
      | true => makeI Γ S d (Γ.T e).size (Γ.T e).zero len (evo Γ S len) (evo Γ S cap) K
      | false => False
    | _, _ => False
  | .slice t x lo hi mx => match (Γ.T t).k, lo, hi, mx with
    | .array n e, none, none, none => match evo Γ S x with
      | .vptr _ _ _ _ _ => ival Γ S o fun v => putT Γ S o.dst v K
      | p => sliceA Γ S o.dst n (Γ.T e).size p K
    | _, _, _, _ => ival Γ S o fun v => putT Γ S o.dst v K
  | .binOp op _ x y _ => match flN op (evo Γ S x) (evoB Γ S y) with
    | some (k, none) => ∀ n, putT Γ S o.dst (.lit (.float k n)) K
    | some (k, some n) => frcN n fun n => putT Γ S o.dst (.lit (.float k n)) K
    | none => ival Γ S o fun v => putT Γ S o.dst v K
  | _ => ival Γ S o fun v => putT Γ S o.dst v K
def dstOf : List Oper → Nat → Option Nat
  | [], _ => none
  | o :: _, 0 => o.dst
  | _ :: r, n + 1 => dstOf r n
def iops (C : Con) (Γ : Env) (all : List Oper) : List Oper → (St → Prop) → St → Prop
  | [], K, S => K S
  | o :: r, K, S => match o.guard with
    | none => iop C Γ S o fun S' => iops C Γ all r K S'
    | some (j, want) => match dstOf all j with
      | none => False
      | some t => match look S.tm t with
        | .bool b => brk b fun b => putT Γ S (some t) (.bool b) fun S => match want, b with
          | true, true | false, false => iop C Γ S o fun S' => iops C Γ all r K S'
          | _, _ => putT Γ S o.dst (.tup []) fun S' => iops C Γ all r K S'
        | .tup [] => putT Γ S o.dst (.tup []) fun S' => iops C Γ all r K S'
        | _ => False
inductive CALLQ (C : Con) (g : Nat) (S : St) (args : List IV) (d : Option Nat) (K : IV → Prop) : Prop where
  | mk (args' : List IV) (r r' : IV) (hle : leL args args') (h : C g (S.ce :: S.up) args' r (S.ce :: S.up)) (hr : back d r = some r') (hk : K r')
def pappend (d : Nat) (e : Nat) (s x : IV) (K : IV → Prop) : Prop :=
  match x with
  | .nilS => match s with
    | .lst _ e' n f => K (.lst none e' n f)
    | .nilS => K .nilS
    | _ => False
  | .lst _ e2 m g => match Nat.beq e2 e with
    | false => False
    | true => match s with
      | .nilS => chk (decide (m ≤ 1073741824)) (K (.lst (some d) e m g))
      | _ => False
  | _ => False
def pcall (C : Con) (Γ : Env) (S : St) (o : Oper) (c : Call) (K : IV → Prop) : Prop :=
  match c.callee with
  | .value f => match evo Γ S f with
    | .fn g first captured => fvL (shiftL (first ++ evoL Γ S c.args.toList ++ captured)) fun args => CALLQ C g S args o.dst fun r => fv r K
    | _ => False
  | .builtin b => fvL (evoL Γ S c.args.toList) fun args => match b, args with
    | .len, [x] => match c.argTypes.toList with
      | [t] => match (Γ.T t).k, x with
        | .slice _, .lst _ _ n _ => K (.int .i64 n)
        | .slice _, .nilS => K (.int .i64 0)
        | .str, .str s => K (.int .i64 s.size)
        | _, _ => False
      | _ => False
    | .min, x :: y :: r => minL x (y :: r) K
    | .max, x :: y :: r => maxL x (y :: r) K
    | .real, [.lit (.complex k a _)] => K (.lit (.float k a))
    | .imag, [.lit (.complex k _ b)] => K (.lit (.float k b))
    | .complex, [.lit (.float k a), .lit (.float k' b)] => match decide (k = k') with
      | true => K (.lit (.complex k a b))
      | false => False
    | .append, [s, x] => match o.dst, c.argTypes.toList with
      | some d, [t, t'] => match Nat.beq t t', (Γ.T t).k with
        | true, .slice e => pappend d (Γ.T e).size s x K
        | _, _ => False
      | _, _ => False
    | _, _ => False
  | _ => False
def pval (C : Con) (Γ : Env) (S : St) (o : Oper) (K : IV → Prop) : Prop :=
  match o.op with
  | .alloc _ => False
  | .box _ _ => False
  | .store _ _ _ => False
  | .buildSlice t len parts => match (Γ.T t).k, o.dst with
    | .slice e, some d => match Nat.ble (len * (Γ.T e).size) 16777216, Nat.blt 0 (Γ.T e).size with
      | true, true => buildI Γ S (fun i => some (i * (Γ.T e).size, (Γ.T e).size)) parts.toList (repZ len (Γ.T e).zero) fun xs => match noPtrL xs with
        | true => match len with
          | 0 => K .nilS
          | _ => match hasN Γ.rw d with
            | true => False
            | false => fvL (noOwnL xs) fun xs => K (.lst (some d) (Γ.T e).size len (litF (Γ.T e).size xs))
        | false => False
      | _, _ => False
    | _, _ => False
  | .call c => pcall C Γ S o c K
  | _ => ival Γ S o K
def creates (o : Oper) : Bool := match o.op with
  | .buildSlice _ _ _ => true
  | .call _ => true
  | _ => false
def creators : List Oper → List Nat
  | [] => []
  | o :: r => match creates o, o.dst with
    | true, some d => d :: creators r
    | _, _ => creators r
def opTag (d : Nat) (S : St) : List Operand → Bool
  | [] => false
  | .tmp t :: r => hasTag d (look S.tm t) || opTag d S r
  | _ :: r => opTag d S r
def tagOK (cr : List Nat) (S : St) (o : Oper) (v : IV) : Bool := match cr with
  | [] => true
  | d :: r => ((match o.dst with | some d2 => Nat.beq d d2 | none => false) || !(hasTag d v) || opTag d S o.op.operands.toList) && tagOK r S o v
def untagL : List Nat → (St → Prop) → St → Prop
  | [], K, S => K S
  | d :: r, K, S => untag d S (untagL r K)
def eqB : List UInt8 → List UInt8 → Bool
  | [], [] => true
  | x :: r, y :: s => Nat.beq x.toNat y.toNat && eqB r s
  | _, _ => false
def sameB (a b : ByteArray) : Bool := eqB a.data.toList b.data.toList
def selS (s : ByteArray) : List (ByteArray × Bool) → Bool
  | [] => false
  | (k, b) :: r => bif s == k then b else selS s r
def hasS (s : ByteArray) : List (ByteArray × Bool) → Bool
  | [] => false
  | (k, _) :: r => s == k || hasS s r
def insK (Γ : Env) (S : St) (d : Nat) : List Oper → (List (ByteArray × Bool) → Prop) → Prop
  | [], K => K []
  | o :: r, K => match o.op with
    | .insert _ (.tmp d') (.const (.string k)) x => match Nat.beq d d' with
      | true => match evo Γ S x with
        | .bool b => insK Γ S d r fun l => K ((k, b) :: l)
        | _ => False
      | false => insK Γ S d r K
    | _ => insK Γ S d r K
def mapK (Γ : Env) (t : Nat) (p : Prop) : Prop := match (Γ.T t).k with
  | .map kt _ => match (Γ.T kt).k with
    | .str => p
    | _ => False
  | _ => False
def rootD (d : Nat) : List Oper → Nat
  | [] => d
  | o :: r => match o.op, o.dst, o.guard with
    | .move (.tmp d'), some e, none => match Nat.beq e d with
      | true => d'
      | false => rootD d r
    | _, _, _ => rootD d r
def isMkD (d : Nat) : Oper → Bool := fun o => match o.op, o.dst with
  | .makeMap _ _, some e => Nat.beq e d
  | _, _ => false
def madeIn (all : List Oper) (d : Nat) : Bool := all.any (isMkD (rootD d all))
def mapO (all : List Oper) (o : Oper) : Bool := match o.op with
  | .makeMap _ _ => true
  | .insert _ _ _ _ => true
  | .lookup _ (.tmp d) _ _ => madeIn all d
  | _ => false
def pstep (C : Con) (Γ : Env) (all : List Oper) (cr : List Nat) (S : St) (o : Oper) (K : St → Prop) : Prop :=
  match o.op with
  | .makeMap _ _ => putT Γ S o.dst .dead K
  | .insert t _ _ x => mapK Γ t (match evo Γ S x with
    | .bool _ => K S
    | _ => False)
  | .lookup t (.tmp d) x _ => match madeIn all d with
    | true => mapK Γ t (match evo Γ S x with
      | .str s => insK Γ S (rootD d all) all fun l => putT Γ S o.dst (.tup [.bool (selS s l), .bool (hasS s l)]) K
      | _ => False)
    | false => pval C Γ S o fun v => match tagOK cr S o v with
      | true => putT Γ S o.dst v K
      | false => False
  | .alloc t => tyK Γ t (putT Γ S o.dst .dead K)
  | .box _ x => ev Γ S x fun v => match cellsI v with
    | some _ => putT Γ S o.dst .dead K
    | none => False
  | .store t _ x => tyK Γ t (ev Γ S x fun v => cellsK v (Γ.T t).size fun _ => K S)
  | _ => pval C Γ S o fun v => match tagOK cr S o v with
    | true => putT Γ S o.dst v K
    | false => False
def pres (C : Con) (Γ : Env) (all : List Oper) (cr : List Nat) : List Oper → (St → Prop) → St → Prop
  | [], K, S => K S
  | o :: r, K, S => match o.guard with
    | none => pstep C Γ all cr S o (pres C Γ all cr r K)
    | some (j, want) => match dstOf all j with
      | none => False
      | some t => match look S.tm t with
        | .bool b => brk b fun b => putT Γ S (some t) (.bool b) fun S => match want, b with
          | true, true | false, false => pstep C Γ all cr S o (pres C Γ all cr r K)
          | _, _ => putT Γ S o.dst (.tup []) (pres C Γ all cr r K)
        | .tup [] => putT Γ S o.dst (.tup []) (pres C Γ all cr r K)
        | _ => False
def storeTo : List Oper → Nat → Option Operand
  | [], _ => none
  | o :: r, d => match o.op with
    | .store _ (.tmp d') x => match Nat.beq d d' with
      | true => some x
      | false => storeTo r d
    | _ => storeTo r d
def content (Γ : Env) (S : St) (t : Nat) (x : Option Operand) (K : List IV → Prop) : Prop := match x with
  | none => tyK Γ t (fvL (Γ.T t).zero K)
  | some x => ev Γ S x fun v => match cellsI v with
    | some c => K c
    | none => False
def adopt (Γ : Env) (front : List Oper) : List Oper → (St → Prop) → St → Prop
  | [], K, S => K S
  | o :: r, K, S => match o.op, o.dst with
    | .alloc t, some d => content Γ S t (storeTo front d) fun c => newC Γ S d c (adopt Γ front r K)
    | .box _ x, some d => content Γ S 0 (some x) fun c => newC Γ S d c (adopt Γ front r K)
    | _, _ => adopt Γ front r K S
def drawn (C : Con) (Γ : Env) (all : List Oper) (p : Nat) (K : St → Prop) (S : St) : Prop :=
  untagL (creators (all.take p)) (pres C Γ all (creators (all.take p)) (all.take p) (adopt Γ (all.take p) (all.take p) (iops C Γ all (all.drop p) K))) S
def bindOn (o : Oper) (j : Nat) : Bool := o.after.toList.any fun e => Region.binds .any e && Nat.beq e.on j
def opT : Operand → List Nat
  | .tmp t => [t]
  | _ => []
def opTs : List Operand → List Nat
  | [] => []
  | x :: r => opT x ++ opTs r
def looks (all : List Oper) (o : Oper) : List Nat :=
  opTs o.op.operands.toList ++ match o.guard with
    | some (j, _) => (match dstOf all j with | some t => [t] | none => [])
    | none => []
def upTo : Nat → (Nat → Bool) → Bool
  | 0, _ => true
  | n + 1, f => upTo n f && f n
def isAlloc (t : Nat) (d : Nat) (o : Oper) : Bool := match o.op, o.dst, o.guard with
  | .alloc t', some d', none => Nat.beq t t' && Nat.beq d d'
  | _, _, _ => false
def storesTo (d : Nat) (o : Oper) : Bool := match o.op with
  | .store _ (.tmp d') _ => Nat.beq d d'
  | _ => false
def onO (f : Oper → Bool) : Option Oper → Bool
  | some o => f o
  | none => true
def frontOK (all : List Oper) (p i : Nat) (o : Oper) : Bool :=
  (looks all o).all (fun t => upTo p fun j => match dstOf all j with
    | some d => !(Nat.beq d t) || (Nat.blt j i && bindOn o j)
    | none => true) &&
  (match o.dst with
    | some d => upTo i fun j => match dstOf all j with
      | some d' => !(Nat.beq d d')
      | none => true
    | none => true) &&
  match o.op, o.dst, o.guard with
    | .alloc _, d, g => d.isSome && g.isNone
    | .box _ _, d, g => d.isSome && g.isNone
    | .store t (.tmp d) _, none, none => !(upTo i fun j => onO (fun o' => !(isAlloc t d o')) all[j]?) && upTo i fun j => onO (fun o' => !(storesTo d o')) all[j]?
    | .store _ _ _, _, _ => false
    | _, _, _ => true
def noDefer (o : Oper) : Bool := match o.op with
  | .defer _ => false
  | .select _ _ => false
  | _ => true
def nthO : List Oper → Nat → Option Oper
  | [], _ => none
  | x :: _, 0 => some x
  | _ :: r, n + 1 => nthO r n
def bindOn2 (all : List Oper) (o : Oper) (j : Nat) : Bool := bindOn o j || !(upTo all.length fun q => !(bindOn o q && onO (fun oq => bindOn oq j) (nthO all q)))
def movesTo (d : Nat) : Option Oper → Bool
  | some o => match o.op, o.dst, o.guard with
    | .move (.tmp _), some e, none => Nat.beq e d
    | _, _, _ => false
  | none => false
def isMk (t d : Nat) : Option Oper → Bool
  | some o => match o.op, o.dst, o.guard with
    | .makeMap t' _, some d', none => Nat.beq t t' && Nat.beq d d'
    | _, _, _ => false
  | none => false
def insTo (d : Nat) : Option Oper → Bool
  | some o => match o.op with
    | .insert _ (.tmp d') _ _ => Nat.beq d d'
    | _ => false
  | none => false
def insKey (d : Nat) (k : ByteArray) : Option Oper → Bool
  | some o => match o.op with
    | .insert _ (.tmp d') (.const (.string k')) _ => Nat.beq d d' && sameB k k'
    | _ => false
  | none => false
def mapsOK (all : List Oper) (p : Nat) : Bool := upTo all.length fun i => match nthO all i with
  | some o => match o.op with
    | .makeMap _ r => Nat.blt i p && r.isNone && o.dst.isSome && o.guard.isNone
    | .insert t (.tmp d) (.const (.string k)) _ => Nat.blt i p && o.dst.isNone && o.guard.isNone && !(upTo i fun j => !(isMk t d (nthO all j))) && upTo i fun j => !(insKey d k (nthO all j))
    | .insert _ _ _ _ => false
    | .lookup t (.tmp d) _ ok => !(madeIn all d) || ok && !(upTo i fun j => !(isMk t (rootD d all) (nthO all j))) && (upTo all.length fun j => !(insTo (rootD d all) (nthO all j)) || (Nat.blt j i && bindOn2 all o j)) && upTo all.length fun j => !(movesTo d (nthO all j)) || Nat.blt j p
    | _ => true
  | none => true
def anyOn : List Oper → Nat → Bool
  | [], _ => false
  | m :: r, j => match bindOn m j with
    | true => true
    | false => anyOn r j
def pureO (o : Oper) : Bool := match o.op with
  | .extract _ _ => true
  | .move _ => true
  | .call c => match c.callee with
    | .builtin .min => true
    | .builtin .max => true
    | _ => false
  | _ => false
def pureL (o : Oper) : Bool := match o.op with
  | .indexAddr _ _ _ => true
  | .fieldAddr _ _ _ => true
  | .binOp _ _ _ _ _ => true
  | .load _ _ => true
  | _ => pureO o
def floats (fl : Option (List Nat)) (j : Nat) (o : Oper) : Bool := match fl with
  | none => pureO o
  | some l => l.contains j && pureL o
def floatB (fl : Option (List Nat)) (all : List Oper) (p j : Nat) : Bool := Nat.blt j p && match nthO all j with
  | some o => floats fl j o && o.guard.isNone && upTo all.length (fun k => Nat.beq k j || match nthO all k with
    | some y => bindOn y j || bindOn o k || o.apart all.toArray y
    | none => true)
  | none => false
def sufOK (fl : Option (List Nat)) (all : List Oper) (p : Nat) : Nat → List Oper → Bool
  | 0, _ => true
  | j + 1, ms => match anyOn ms j, nthO all j with
    | true, some o => sufOK fl all p j (o :: ms)
    | _, _ => floatB fl all p j && sufOK fl all p j ms
def drawOKs (fl : Option (List Nat)) (all : List Oper) (p : Nat) : Nat → List Oper → Bool
  | _, [] => true
  | i, o :: r => (o.after.toList.all fun e => !(Region.binds .any e) || Nat.blt e.on i) && (match Nat.blt i p with
    | true => frontOK all p i o
    | false => sufOK fl all p i [o]) && noDefer o && drawOKs fl all p (i + 1) r
def drawOK (all : List Oper) (p : Nat) (fl : Option (List Nat) := none) : Bool := Nat.ble p all.length && drawOKs fl all p 0 all && mapsOK all p
inductive HOLD (p q : Prop) : Prop where
  | mk (h : p) (hk : q)
def heldI (S0 : St) : List Nat → St → Prop
  | [], _ => True
  | d :: r, S => (lookC S.ce d = lookC S0.ce d ∧ look S.tm d = .ptr 0 d 0) ∧ heldI S0 r S
def isIntAt (S : St) : Option Nat → Bool
  | some d => match look S.tm d with
    | .int _ _ => true
    | _ => false
  | none => false
def pinI : IV → Option Value
  | .int k n => some (.int k n)
  | .row _ _ n c b => some (.slice (some ⟨b, 0, none⟩) n c)
  | _ => none
def isPinAt (S : St) : Option Nat → Bool
  | some d => match look S.tm d with
    | .int _ _ => true
    | .row _ _ _ _ _ => true
    | _ => false
  | none => false
def allIntC (S : St) (d : Nat) : Bool := match lookC S.ce d with
  | some c => allInt c
  | none => false
def floatsOK (Γ : Env) (S : St) (all : List Oper) (hd : List Nat) (vp : Bool) : List Nat → Bool
  | [] => true
  | j :: r => (match nthO all j with
    | some o => match o.op with
      | .load _ x => match evo Γ S x with
        | .ptr 0 d _ => isInH hd d && (isPinAt S o.dst || allIntC S d)
        | .vptr _ _ _ _ _ => vp && isIntAt S o.dst
        | _ => false
      | .binOp _ _ _ _ _ => isIntAt S o.dst
      | _ => true
    | none => false) && floatsOK Γ S all hd vp r
where
  isInH : List Nat → Nat → Bool
  | [], _ => false
  | x :: r, i => Nat.beq x i || isInH r i
def rootsB (fl : Option (List Nat)) (all : List Oper) (p : Nat) : List Nat → List Nat → Bool
  | _, [] => true
  | dn, i :: r => !dn.contains i && floatB fl all p i && (match nthO all i with
    | some o => upTo all.length (fun j => !(bindOn o j) || dn.contains j)
    | none => false) && rootsB fl all p (i :: dn) r
def iopsH (C : Con) (Γ : Env) (all : List Oper) (H : St → Prop) : List Oper → (St → Prop) → St → Prop
  | [], K, S => K S
  | o :: r, K, S => iops C Γ all [o] (fun S' => HOLD (H S') (iopsH C Γ all H r K S')) S
def drawnH (C : Con) (Γ : Env) (all : List Oper) (p : Nat) (hd rl fl : List Nat) (K : St → Prop) (S : St) : Prop :=
  untagL (creators (all.take p)) (fun S0 => HOLD (heldI S0 hd S0) (pres C Γ all (creators (all.take p)) (all.take p) (fun Se => match floatsOK Γ Se all hd true rl && floatsOK Γ Se all hd false fl with
    | true => adopt Γ (all.take p) (all.take p) (iopsH C Γ all (heldI S0 hd) (all.drop p) K) Se
    | false => False) S0)) S
structure Sp where
  q : Nat
  t : Nat
  e : Nat
  k : Nat
  f : Nat → List IV
def pv (s : Sp) (bc : Nat × Nat) : Value := .slice (some ⟨bc.1, 0, none⟩) (s.k + 1) bc.2
mutual
def pinV (t : Nat) (u : Value) : IV → IV
  | .lst (some t') e n f => match Nat.beq t' t with
    | true => (match n with
      | 0 => .dead
      | _ + 1 => .lit u)
    | false => .lst (some t') e n f
  | .agg xs => .agg (pinVL t u xs)
  | .tup xs => .tup (pinVL t u xs)
  | .mp ks xs => .mp ks (pinVL t u xs)
  | .fn f a c => .fn f (pinVL t u a) (pinVL t u c)
  | .raw t' e n => match Nat.beq t' t with
    | true => .dead
    | false => .raw t' e n
  | v => v
def pinVL (t : Nat) (u : Value) : List IV → List IV
  | [] => []
  | x :: r => pinV t u x :: pinVL t u r
end
def pinT (t : Nat) (u : Value) : Tms → Tms
  | [] => []
  | (i, v) :: r => (i, pinV t u v) :: pinT t u r
def pinC (t : Nat) (u : Value) : Ces → Ces
  | [] => []
  | (i, c) :: r => (i, pinVL t u c) :: pinC t u r
def pinTs (bc : Nat → Nat × Nat) : List Sp → Tms → Tms
  | [], tm => tm
  | s :: r, tm => pinTs bc r (pinT s.t (pv s (bc s.q)) tm)
def pinCs (bc : Nat → Nat × Nat) : List Sp → Ces → Ces
  | [], ce => ce
  | s :: r, ce => pinCs bc r (pinC s.t (pv s (bc s.q)) ce)
def locS (S : St) (s : Sp) : Prop := ∃ (c j : Nat) (xs : List IV), lookC S.ce c = some xs ∧ xs[j]? = some (.lst (some s.t) s.e (s.k + 1) s.f)
def qstep (Γ : Env) (S : St) (o : Oper) (s : Sp) (u : Value) (K : St → Prop) : Prop :=
  match o.op, o.guard with
  | .call c, none => match c.callee, c.args.toList, o.dst, c.argTypes.toList with
    | .builtin .append, [.tmp y, x], some d, [t, t'] => match Nat.beq d s.t && Nat.beq t t', (Γ.T t).k with
      | true, .slice el => match Nat.beq (Γ.T el).size s.e with
        | true => match evo Γ S x with
          | .lst _ e2 m g => match Nat.beq e2 s.e with
            | true => chk (decide (s.k + 1 + m ≤ 1073741824)) (HOLD (look S.tm y = .lit u) (putT Γ S (some d) (.lst (some d) s.e (s.k + 1 + m) (appF (s.k + 1) s.f g)) K))
            | false => False
          | _ => False
        | false => False
      | _, _ => False
    | _, _, _, _ => False
  | _, _ => False
def spAt : List Sp → Nat → Option Sp
  | [], _ => none
  | s :: r, i => match Nat.beq s.q i with
    | true => some s
    | false => spAt r i
def presQ (C : Con) (Γ : Env) (all : List Oper) (cr : List Nat) (sps : List Sp) (bc : Nat → Nat × Nat) : Nat → List Oper → (St → Prop) → St → Prop
  | _, [], K, S => K S
  | i, o :: r, K, S => match spAt sps i with
    | some s => qstep Γ S o s (pv s (bc s.q)) (presQ C Γ all cr sps bc (i + 1) r K)
    | none => pres C Γ all cr [o] (presQ C Γ all cr sps bc (i + 1) r K) S
def drawnQ (C : Con) (Γ : Env) (all : List Oper) (p : Nat) (sps : List Sp) (bc : Nat → Nat × Nat) (K : St → Prop) (S : St) : Prop :=
  untagL (creators (all.take p)) (presQ C Γ all (creators (all.take p)) sps bc 0 (all.take p) (adopt Γ (all.take p) (all.take p) (iops C Γ all (all.drop p) K))) S
inductive DRAW (C : Con) (Γ : Env) (all : List Oper) (K : St → Prop) (S : St) : Prop where
  | mk (p : Nat) (h : drawOK all p = true) (hk : drawn C Γ all p K S)
  | mkH (p : Nat) (hd rl fl : List Nat) (h : (drawOK all p (some (rl ++ fl)) && rootsB (some (rl ++ fl)) all p [] rl && all.all (fun o => match o.dst with | some d => !hd.contains d | none => true)) = true) (hk : drawnH C Γ all p hd rl fl K S)
  | mkS (c : Nat) (xs : List IV) (hc : lookC S.ce c = some xs) (hn : noPtrL xs = true) (p : Nat) (h : drawOK all p = true)
    (hk : fvL (noOwnL xs) fun xs => fps (stT c xs S.tm) fun tm => fcs (stC c xs S.ce) fun ce => drawn C Γ all p K ⟨tm, ce, S.up⟩)
  | mkF (d e n : Nat) (g : Nat → List IV) (junk : List IV) (hc : lookC S.ce d = some (flatR e n g ++ junk)) (hg : ∀ i, i < n → (g i).length = e ∧ allInt (g i) = true) (p : Nat) (h : drawOK all p = true)
    (hk : fps (frzT d e n g S.tm) fun tm => fcs (frzC d e n g S.ce) fun ce => drawn C Γ all p K ⟨tm, ce, S.up⟩)
  | mkFH (d e n : Nat) (g : Nat → List IV) (junk : List IV) (hc : lookC S.ce d = some (flatR e n g ++ junk)) (hg : ∀ i, i < n → (g i).length = e ∧ allInt (g i) = true) (p : Nat) (hd rl fl : List Nat)
    (h : (drawOK all p (some (rl ++ fl)) && rootsB (some (rl ++ fl)) all p [] rl && all.all (fun o => match o.dst with | some d => !hd.contains d | none => true)) = true)
    (hk : fps (frzT d e n g S.tm) fun tm => fcs (frzC d e n g S.ce) fun ce => drawnH C Γ all p hd rl fl K ⟨tm, ce, S.up⟩)
  | mkQ (sps : List Sp) (hl : ∀ s ∈ sps, locS S s) (hq : (sps.map Sp.q).Nodup) (ht : (sps.map Sp.t).Nodup) (p : Nat) (hp : sps.all (fun s => Nat.blt s.q p) = true) (h : drawOK all p = true)
    (hk : ∀ bc : Nat → Nat × Nat, fps (pinTs bc sps S.tm) fun tm => fcs (pinCs bc sps S.ce) fun ce => drawnQ C Γ all p sps bc K ⟨tm, ce, S.up⟩)
def dsts : List Oper → List Nat
  | [] => []
  | o :: r => match o.dst with
    | some d => d :: dsts r
    | none => dsts r
def wrs : Code → List Nat
  | .region _ ops _ => dsts ops.toList
  | .seq a b => wrs a ++ wrs b
  | .cond _ a b => wrs a ++ wrs b
  | .block _ c => wrs c
  | .loop c => wrs c
  | .rangeFunc _ ps a b => ps.toList ++ (wrs a ++ wrs b)
  | .scope c => wrs c
  | _ => []
def isIn (l : List Nat) (i : Nat) : Bool := match l with
  | [] => false
  | x :: r => Nat.beq x i || isIn r i
def dropW (wr : List Nat) : Tms → Tms
  | [] => []
  | (i, v) :: r => match isIn wr i with
    | true => dropW wr r
    | false => (i, v) :: dropW wr r
def okW (wr : List Nat) : Tms → Bool
  | [] => true
  | (i, _) :: r => !(isIn wr i) && okW wr r
def noRange : Code → Bool
  | .seq a b => noRange a && noRange b
  | .cond _ a b => noRange a && noRange b
  | .block _ c => noRange c
  | .loop c => noRange c
  | .scope c => noRange c
  | .rangeFunc _ _ _ _ => false
  | _ => true
def roundT : List Nat → List IV → Tms → Tms
  | p :: ps, x :: xs, tm => roundT ps xs ((p, x) :: tm)
  | _, _, tm => tm
def rangeQ {α : Type} (wr : List Nat) (Inv : α → St) (ix : α → Nat) (Q : Ex → St → Prop) (a : α) : Ex → St → Prop
  | .normal, S' => ∃ a', ix a' = ix a + 1 ∧ leS S' (Inv a')
  | e, S' => Q e ⟨dropW wr S'.tm, S'.ce, S'.up⟩
def heldC (ce : Ces) : List Nat → List (List IV) → Prop
  | [], [] => True
  | k :: ks, c :: cs => (∃ c0, lookC ce k = some c0 ∧ noPtrL c0 = true ∧ noOwnL c0 = c) ∧ heldC ce ks cs
  | _, _ => False
inductive RANGE (C : Con) (Γ : Env) (asg body : (Ex → St → Prop) → St → Prop) (f : Operand) (ps wr : List Nat) (ok : Bool) (Q : Ex → St → Prop) (S : St) : Prop where
  | mk (g : Nat) (c : List IV) (n : Nat) (xs : Nat → List IV) (hf : evo Γ S f = .fn g [] c) (hp : noPtrL c = true) (hv : Γ.vis g (noOwnL c) n xs) (hok : ok = true) (hlen : ∀ i, i < n → (xs i).length = ps.length)
      {α : Type} (Inv : α → St) (ix : α → Nat) (a0 : α) (h0 : leS S (Inv a0)) (i0 : ix a0 = 0) (hw : ∀ a, okW wr (Inv a).tm = true)
      (hr : ∀ a, ix a < n → asg (Ex.seq (body (rangeQ wr Inv ix Q a)) (fun _ _ => False)) ⟨roundT ps (xs (ix a)) (Inv a).tm, (Inv a).ce, (Inv a).up⟩)
      (hd : ∀ a, ix a = n → Q .normal (Inv a))
  | own (g : Nat) (ks : List Nat) (cs : List (List IV)) (n : Nat) (xs : Nat → List IV) (hf : evo Γ S f = .fn g [] (ptrsI ks)) (hc : heldC S.ce ks cs) (hn : freshB [] ks = true) (hv : C.v g cs n xs) (hok : ok = true) (hlen : ∀ i, i < n → (xs i).length = ps.length)
      {α : Type} (Inv : α → St) (ix : α → Nat) (a0 : α) (h0 : leS S (Inv a0)) (hdrop : (ks.all fun k => !hasKey (Inv a0).ce k) = true) (i0 : ix a0 = 0) (hw : ∀ a, okW wr (Inv a).tm = true)
      (hr : ∀ a, ix a < n → asg (Ex.seq (body (rangeQ wr Inv ix Q a)) (fun _ _ => False)) ⟨roundT ps (xs (ix a)) (Inv a).tm, (Inv a).ce, (Inv a).up⟩)
      (hd : ∀ a, ix a = n → Q .normal (Inv a))
inductive DRAWY (C : Con) (Γ : Env) (all : List Oper) (K : St → Prop) (S : St) : Prop where
  | mk (p : Nat) (h : drawOK all p = true) (hk : drawn C Γ all p K S)
def DRAWR (C : Con) (Γ : Env) (all : List Oper) (K : St → Prop) (S : St) : Prop := match Γ.yld with
  | none => DRAW C Γ all K S
  | some _ => DRAWY C ⟨Γ.P, Γ.T, Γ.gl, Γ.nt, Γ.vis, none, Γ.ds, Γ.rw⟩ all K S
def mapHd : List Oper → Option Nat
  | o :: _ => match o.op, o.dst, o.guard with
    | .makeMap _ none, some d, none => some d
    | _, _, _ => none
  | [] => none
def mapTy : List Oper → Nat
  | o :: _ => match o.op with
    | .makeMap t _ => t
    | _ => 0
  | [] => 0
def hasB (k : ByteArray) : List ByteArray → Bool
  | [] => false
  | x :: r => sameB k x || hasB k r
def lookL (tm : Tms) : List Nat → List IV
  | [] => []
  | u :: r => look tm u :: lookL tm r
def mapR (C : Con) (Γ : Env) (all : List Oper) (t d : Nat) (K : St → Prop) : List Oper → List ByteArray → List Nat → St → Prop
  | [], _, _, _ => False
  | o :: r, ks, us, S => match o.guard with
    | some _ => False
    | none => match o.op, o.dst with
      | .insert t' (.tmp d') (.const (.string k)) (.tmp u), none => match Nat.beq t t' && (Nat.beq d d' && !hasB k ks) with
        | true => mapR C Γ all t d K r (ks ++ [k]) (us ++ [u]) S
        | false => False
      | .move (.tmp d'), some e => match Nat.beq d d' with
        | true => match ks with
          | [] => False
          | _ => fvL (lookL S.tm us) fun xs => putT Γ S (some d) (.mp ks xs) fun S => iops C Γ all (o :: r) K S
        | false => match Nat.beq e d || hasN us e with
          | true => False
          | false => iop C Γ S o fun S => mapR C Γ all t d K r ks us S
      | .makeFunc _ _ _, some e => match Nat.beq e d || hasN us e with
        | true => False
        | false => iop C Γ S o fun S => mapR C Γ all t d K r ks us S
      | .build _ _, some e => match Nat.beq e d || hasN us e with
        | true => False
        | false => iop C Γ S o fun S => mapR C Γ all t d K r ks us S
      | _, _ => False
def MAPR (C : Con) (Γ : Env) (all : List Oper) (d : Nat) (K : St → Prop) (S : St) : Prop := match Γ.yld, (Γ.T (mapTy all)).k with
  | none, .mapv kt _ => match (Γ.T kt).k with
    | .str => putT Γ S (some d) .dead fun S => mapR C Γ all (mapTy all) d K all.tail [] [] S
    | _ => False
  | _, _ => False
def iwp (C : Con) (Γ : Env) : Code → (Ex → St → Prop) → St → Prop
  | .skip, Q, S => Q .normal S
  | .region _ ops d, Q, S => match d with
    | false => match mapHd ops.toList with
      | none => iops C Γ ops.toList ops.toList (Q .normal) S
      | some d => MAPR C Γ ops.toList d (Q .normal) S
    | true => DRAWR C Γ ops.toList (Q .normal) S
  | .seq a b, Q, S => iwp C Γ a (Ex.seq (iwp C Γ b Q) Q) S
  | .cond c x y, Q, S => match evo Γ S c with
    | .bool b => brk b fun b => match b with
      | true => iwp C Γ x Q S
      | false => iwp C Γ y Q S
    | _ => False
  | .block id c, Q, S => iwp C Γ c (Ex.blk id Q) S
  | .loop c, Q, S => LOOP (iwp C Γ c) Q S
  | .scope c, Q, S => iwp C Γ c Q S
  | .exit id, Q, S => Q (.exit id) S
  | .label _, Q, S => Q .normal S
  | .ret, Q, S => Q .ret S
  | .rangeFunc f ps asg body, Q, S => RANGE C Γ (iwp C Γ asg) (iwp C Γ body) f ps.toList (ps.toList ++ (wrs asg ++ wrs body)) (noRange asg && noRange body && ps.toList.all fun t => Nat.blt t Γ.nt) Q S
  | _, _, _ => False
def resI (Γ : Env) (S : St) : ResultVar → (IV → Prop) → Prop
  | .tmp t, K => fv (look S.tm t) K
  | .cell a t, K => tyK Γ t (loadI S (Γ.T t) (look S.tm a) fun v => fv v K)
def resL (Γ : Env) (S : St) : List ResultVar → (List IV → Prop) → Prop
  | [], K => K []
  | r :: rs, K => resI Γ S r fun v => resL Γ S rs fun vs => K (v :: vs)
def one : List IV → IV
  | [v] => v
  | vs => .tup vs
def params : Nat → List IV → Tms
  | _, [] => []
  | i, x :: r => (i, x) :: params (i + 1) r
mutual
def freeze (ce : Ces) : IV → IV
  | .ptr 0 d off => match lookC ce d with
    | some c => match noPtrL c with
      | true => .vptr c.length 1 (fun _ => noOwnL c) 0 off
      | false => .ptr 0 d off
    | none => .ptr 0 d off
  | .row _ _ _ _ _ => .dead
  | .agg xs => .agg (freezeL ce xs)
  | .tup xs => .tup (freezeL ce xs)
  | .mp ks xs => .mp ks (freezeL ce xs)
  | .fn f a c => .fn f (freezeL ce a) (freezeL ce c)
  | v => v
def freezeL (ce : Ces) : List IV → List IV
  | [] => []
  | x :: r => freeze ce x :: freezeL ce r
end
def ibody (C : Con) (Γ : Env) (fn : Func) (up : List Ces) (args : List IV) (R : IV → List Ces → Prop) : Prop :=
  match fn.body with
  | none => False
  | some c => fps (params 0 args) fun tm => iwp C ⟨Γ.P, Γ.T, Γ.gl, fn.ntmps, Γ.vis, none, none, Γ.rw⟩ c (fun e S => match e with
    | .exit _ => False
    | _ => resL ⟨Γ.P, Γ.T, Γ.gl, fn.ntmps, Γ.vis, none, none, Γ.rw⟩ S fn.results.toList fun vs => fv (freeze S.ce (one vs)) fun v => match clV [] v with
      | true => R v S.up
      | false => False) ⟨tm, [], up⟩
def ivis (C : Con) (Γ : Env) (fn : Func) (args : List IV) (n : Nat) (xs : Nat → List IV) : Prop :=
  match fn.body with
  | none => False
  | some c => ∀ l, iwp C ⟨Γ.P, Γ.T, Γ.gl, fn.ntmps, Γ.vis, some (l, n, xs), some [], Γ.rw⟩ c (fun e S => match e with
    | .exit _ => False
    | _ => resL ⟨Γ.P, Γ.T, Γ.gl, fn.ntmps, Γ.vis, some (l, n, xs), some [], Γ.rw⟩ S fn.results.toList fun _ => n ≤ S.up.length) ⟨params 0 (.lit (.func (.yield l) #[] #[]) :: args), [], []⟩
def ivisO (C : Con) (Γ : Env) (fn : Func) (ks : List Nat) (cs : List (List IV)) (n : Nat) (xs : Nat → List IV) : Prop :=
  match fn.body with
  | none => False
  | some c => ∀ l, iwp C ⟨Γ.P, Γ.T, Γ.gl, fn.ntmps, Γ.vis, some (l, n, xs), some [], Γ.rw⟩ c (fun e S => match e with
    | .exit _ => False
    | _ => resL ⟨Γ.P, Γ.T, Γ.gl, fn.ntmps, Γ.vis, some (l, n, xs), some [], Γ.rw⟩ S fn.results.toList fun _ => n ≤ S.up.length) ⟨params 0 (.lit (.func (.yield l) #[] #[]) :: ptrsI ks), addC ks cs [], []⟩
def ibodyO (C : Con) (Γ : Env) (fn : Func) (args : List IV) (k : Nat) (cs : List (List IV)) : Prop :=
  match fn.body with
  | none => False
  | some c => ∀ up, fps (params 0 args) fun tm => iwp C ⟨Γ.P, Γ.T, Γ.gl, fn.ntmps, Γ.vis, none, none, Γ.rw⟩ c (fun e S => match e with
    | .exit _ => False
    | _ => resL ⟨Γ.P, Γ.T, Γ.gl, fn.ntmps, Γ.vis, none, none, Γ.rw⟩ S fn.results.toList fun vs => S.up = up ∧ ∃ ks, vs = [.fn k [] (ptrsI ks)] ∧ heldC S.ce ks cs ∧ freshB [] ks = true) ⟨tm, [], up⟩
end Go.Proofs.YtfoenhiohhmnlaaGreatDoor.Ix

namespace Go.Proofs.YtfoenhiohhmnlaaGreatDoor.Ix
abbrev Imm := Addr → Option Value
def hcell (w : World) (a : Addr) : Option Value := match w.heap[a.block]? with
  | some (.cells c _ _) => if a.spot.isSome then none else c[a.off]?
  | some (.map es _) => match a.spot with
    | some k => if es.size = k then (es[a.off]?).map fun e => .tuple #[e.key, e.val] else none
    | none => none
  | _ => none
theorem hcell_of_block {w w' : World} {a : Addr} (h : w'.heap[a.block]? = w.heap[a.block]?) : hcell w' a = hcell w a := by unfold hcell; rw [h]
theorem hcell_lt {w : World} {a : Addr} {v : Value} (h : hcell w a = some v) : a.block < w.heap.size := by
  rcases Nat.lt_or_ge a.block w.heap.size with k | k
  · exact k
  · unfold hcell at h; rw [Array.getElem?_eq_none k] at h; cases h
theorem hcell_cells {w : World} {a : Addr} {v : Value} {c : Array Value} {el : Nat} {f : Nat × Nat} (h : hcell w a = some v) (hb : w.heap[a.block]? = some (.cells c el f)) : a.spot = none ∧ c[a.off]? = some v := by
  unfold hcell at h
  rw [hb] at h
  simp only at h
  split at h
  · cases h
  · rename_i k; exact ⟨by simpa using k, h⟩
theorem hcell_none (w : World) (b j : Nat) : hcell w ⟨b, j, none⟩ = w.cell? ⟨b, j, none⟩ := by
  unfold hcell World.cell?
  cases w.heap[b]? with
  | none => rfl
  | some o => cases o <;> rfl
theorem hcell_of_cell {w : World} {a : Addr} {v : Value} (h : w.cell? a = some v) : hcell w a = some v := by
  unfold World.cell? at h
  unfold hcell
  split at h
  · rename_i c x y hb; rw [hb]; exact h
  · cases h
abbrev Beta := Nat → Nat → Option Nat
structure Tag where
  b : Nat
  el : Nat
  e : Nat
  n : Nat
  c : Nat
abbrev Sig := Nat → Option Tag
def scal : Value → Bool
  | .func (.yield _) a b => a.size == 0 && b.size == 0
  | .slice .. | .float .. | .complex .. | .pointer none | .nilFunc | .nilIface | .map none | .chan none => true
  | _ => false
inductive D (I : Imm) : IV → Value → Prop
  | int (k : IntKind) (n : Int) : D I (.int k n) (.int k n)
  | bool (b : Bool) : D I (.bool b) (.bool b)
  | str (s : ByteArray) : D I (.str s) (.string s)
  | lit (v : Value) (h : scal v = true) : D I (.lit v) v
  | nilS {p : Option Addr} : D I .nilS (.slice p 0 0)
  | lstN {p : Option Addr} (e : Nat) (f : Nat → List IV) : D I (.lst none e 0 f) (.slice p 0 0)
  | lst (e n : Nat) (f : Nat → List IV) (b off c : Nat) (g : Nat → Nat → Value) (hc : n ≤ c) (hl : ∀ i, i < n → (f i).length = e)
      (hI : ∀ i j, i < n → j < e → I ⟨b, off + i * e + j, none⟩ = some (g i j))
      (h1 : ∀ i j, i < n → j < e → (g i j).oneCell' = true)
      (h : ∀ i j x, i < n → (f i)[j]? = some x → D I x (g i j)) : D I (.lst none e n f) (.slice (some ⟨b, off, none⟩) n c)
  | vptr (e n : Nat) (f : Nat → List IV) (i j b off : Nat) (g : Nat → Nat → Value) (hi : i < n) (hl : ∀ i, i < n → (f i).length = e)
      (hI : ∀ i j, i < n → j < e → I ⟨b, off + i * e + j, none⟩ = some (g i j))
      (h1 : ∀ i j, i < n → j < e → (g i j).oneCell' = true)
      (h : ∀ i j x, i < n → (f i)[j]? = some x → D I x (g i j)) : D I (.vptr e n f i j) (.pointer (some ⟨b, off + i * e + j, none⟩))
  | agg (xs : List IV) (vs : Array Value) (hl : xs.length = vs.size) (h1 : ∀ (j : Nat) (u : Value), vs[j]? = some u → u.oneCell' = true) (h : ∀ j x, xs[j]? = some x → D I x (vs.getD j undef)) : D I (.agg xs) (.agg vs)
  | tup (xs : List IV) (vs : Array Value) (hl : xs.length = vs.size) (h : ∀ j x, xs[j]? = some x → D I x (vs.getD j undef)) : D I (.tup xs) (.tuple vs)
  | fn (f : Nat) (xs ys : List IV) (vs us : Array Value) (hl : xs.length = vs.size) (hk : ys.length = us.size)
      (h : ∀ j x, xs[j]? = some x → D I x (vs.getD j undef)) (h' : ∀ j x, ys[j]? = some x → D I x (us.getD j undef)) : D I (.fn f xs ys) (.func (.func f) vs us)
  | ifc (d : TypeId) (x : Value) : D I .ifc (.iface d x)
  | dead (v : Value) : D I .dead v
def MapAt (I : Imm) (b : Nat) (ks : List ByteArray) (us : Array Value) : Prop :=
  ks.length = us.size ∧ 0 < ks.length ∧ (∀ i j : Nat, ∀ k, ks[i]? = some k → ks[j]? = some k → i = j) ∧ ∃ π : Nat → Nat, (∀ i k, ks[i]? = some k → I ⟨b, π i, some ks.length⟩ = some (.tuple #[.string k, us.getD i undef])) ∧
    ∀ j, j < ks.length → ∃ i, i < ks.length ∧ π i = j
theorem MapAt.mono {I I' : Imm} (hI : ∀ a v, I a = some v → I' a = some v) {b : Nat} {ks : List ByteArray} {us : Array Value} (h : MapAt I b ks us) : MapAt I' b ks us :=
  let ⟨h1, h2, h3, π, h4, h5⟩ := h
  ⟨h1, h2, h3, π, fun i k hk => hI _ _ (h4 i k hk), h5⟩
inductive V (I : Imm) (β : Beta) (σ : Sig) : IV → Value → Prop
  | data {x : IV} {v : Value} (h : D I x v) : V I β σ x v
  | ptr (l d off b : Nat) (h : β l d = some b) : V I β σ (.ptr l d off) (.pointer (some ⟨b, off, none⟩))
  | ownN {p : Option Addr} (t e : Nat) (f : Nat → List IV) : V I β σ (.lst (some t) e 0 f) (.slice p 0 0)
  | own (t e n : Nat) (f : Nat → List IV) (b el c : Nat) (g : Nat → Nat → Value) (ht : σ t = some ⟨b, el, e, n, c⟩) (hc : n ≤ c) (hl : ∀ i, i < n → (f i).length = e)
      (hI : ∀ i j, i < n → j < e → I ⟨b, i * e + j, none⟩ = some (g i j))
      (h1 : ∀ i j, i < n → j < e → (g i j).oneCell' = true)
      (h : ∀ i j x, i < n → (f i)[j]? = some x → D I x (g i j)) : V I β σ (.lst (some t) e n f) (.slice (some ⟨b, 0, none⟩) n c)
  | raw (t e n b el : Nat) (ht : σ t = some ⟨b, el, e, 0, n⟩) : V I β σ (.raw t e n) (.slice (some ⟨b, 0, none⟩) n n)
  | row (d e n b c : Nat) (h : β 0 d = some b) (hc : n ≤ c) : V I β σ (.row d e n c b) (.slice (some ⟨b, 0, none⟩) n c)
  | agg (xs : List IV) (vs : Array Value) (hl : xs.length = vs.size) (h1 : ∀ (j : Nat) (u : Value), vs[j]? = some u → u.oneCell' = true) (h : ∀ j x, xs[j]? = some x → V I β σ x (vs.getD j undef)) : V I β σ (.agg xs) (.agg vs)
  | tup (xs : List IV) (vs : Array Value) (hl : xs.length = vs.size) (h : ∀ j x, xs[j]? = some x → V I β σ x (vs.getD j undef)) : V I β σ (.tup xs) (.tuple vs)
  | mp (ks : List ByteArray) (xs : List IV) (b : Nat) (vs : Array Value) (hm : MapAt I b ks vs) (hl : xs.length = vs.size) (h : ∀ j x, xs[j]? = some x → V I β σ x (vs.getD j undef)) : V I β σ (.mp ks xs) (.map (some b))
  | fn (f : Nat) (xs ys : List IV) (vs us : Array Value) (hl : xs.length = vs.size) (hk : ys.length = us.size)
      (h : ∀ j x, xs[j]? = some x → V I β σ x (vs.getD j undef)) (h' : ∀ j x, ys[j]? = some x → V I β σ x (us.getD j undef)) : V I β σ (.fn f xs ys) (.func (.func f) vs us)
theorem D.mono {I I' : Imm} (hI : ∀ a v, I a = some v → I' a = some v) {x : IV} {v : Value} (h : D I x v) : D I' x v := by
  induction h with
  | int k n => exact .int k n
  | bool b => exact .bool b
  | str s => exact .str s
  | lit v h => exact .lit v h
  | nilS => exact .nilS
  | lstN e f => exact .lstN e f
  | lst e n f b off c g hc hl hi h1 _ ih => exact .lst e n f b off c g hc hl (fun i j h h' => hI _ _ (hi i j h h')) h1 ih
  | vptr e n f i j b off g hi0 hl hi h1 _ ih => exact .vptr e n f i j b off g hi0 hl (fun i j h h' => hI _ _ (hi i j h h')) h1 ih
  | agg xs vs hl h1 _ ih => exact .agg xs vs hl h1 ih
  | tup xs vs hl _ ih => exact .tup xs vs hl ih
  | fn f xs ys vs us hl hk _ _ ih ih' => exact .fn f xs ys vs us hl hk ih ih'
  | ifc d x => exact .ifc d x
  | dead v => exact .dead v
theorem V.mono {I I' : Imm} {β β' : Beta} {σ σ' : Sig} (hI : ∀ a v, I a = some v → I' a = some v) (hb : ∀ l d b, β l d = some b → β' l d = some b)
    (hs : ∀ t g, σ t = some g → σ' t = some g) {x : IV} {v : Value} (h : V I β σ x v) : V I' β' σ' x v := by
  induction h with
  | data h => exact .data (h.mono hI)
  | ptr l d off b h => exact .ptr l d off b (hb _ _ _ h)
  | ownN t e f => exact .ownN t e f
  | own t e n f b el c g ht hc hl hi h1 h => exact .own t e n f b el c g (hs _ _ ht) hc hl (fun i j h h' => hI _ _ (hi i j h h')) h1 (fun i j x a b => (h i j x a b).mono hI)
  | raw t e n b el ht => exact .raw t e n b el (hs _ _ ht)
  | row d e n b c h hc => exact .row d e n b c (hb _ _ _ h) hc
  | agg xs vs hl h1 _ ih => exact .agg xs vs hl h1 ih
  | tup xs vs hl _ ih => exact .tup xs vs hl ih
  | mp ks xs b vs hm hl _ ih => exact .mp ks xs b vs (hm.mono hI) hl ih
  | fn f xs ys vs us hl hk _ _ ih ih' => exact .fn f xs ys vs us hl hk ih ih'
def Gsz (gl : Nat → IV) (w : World) : Prop := ∀ g e n f i j, gl g = .vptr e n f i j → 0 < n → 0 < e → ∃ arr el m, w.heap[g]? = some (.cells arr el m) ∧ arr.size = n * e
theorem Gsz.of {gl : Nat → IV} {w w' : World} (h : Gsz gl w) (k : ∀ (g : Nat) arr el m, w.heap[g]? = some (.cells arr el m) → ∃ arr' el' m', w'.heap[g]? = some (.cells arr' el' m') ∧ arr'.size = arr.size) : Gsz gl w' := fun g e n f i j hg hn he =>
  let ⟨arr, el, m, h1, h2⟩ := h g e n f i j hg hn he
  let ⟨arr', el', m', k1, k2⟩ := k g arr el m h1
  ⟨arr', el', m', k1, k2.trans h2⟩
theorem Gsz.ne {gl : Nat → IV} {I : Imm} (glo : ∀ g, D I (gl g) (.pointer (some ⟨g, 0, none⟩))) {g e n : Nat} {f : Nat → List IV} {i j : Nat} (hg : gl g = .vptr e n f i j) (hn : 0 < n) (he : 0 < e) :
    ∃ x v, I ⟨g, x, none⟩ = some v := by
  have h := glo g
  rw [hg] at h
  generalize hv : Value.pointer (some ⟨g, 0, none⟩) = v at h
  cases h with
  | vptr e n f i j b off gg hi hl hI h1 h =>
    simp at hv
    obtain ⟨rfl, _⟩ := hv
    exact ⟨_, _, hI 0 0 hn he⟩
theorem Gsz.one {gl : Nat → IV} {I : Imm} {w w' : World} (h : Gsz gl w) (glo : ∀ g, D I (gl g) (.pointer (some ⟨g, 0, none⟩))) (b : Nat) (hb : ∀ j, I ⟨b, j, none⟩ = none) (hold : ∀ k, k ≠ b → w'.heap[k]? = w.heap[k]?) : Gsz gl w' := fun g e n f i j hg hn he => by
  obtain ⟨x, v, hx⟩ := Gsz.ne glo hg hn he
  have hne : g ≠ b := by rintro rfl; rw [hb x] at hx; cases hx
  obtain ⟨arr, el, m, h1, h2⟩ := h g e n f i j hg hn he
  exact ⟨arr, el, m, by rw [hold g hne]; exact h1, h2⟩
structure MemR (gl : Nat → IV) (cs : List Ces) (w : World) (I : Imm) (X : Nat → Prop) (β : Beta) (σ : Nat → Sig) : Prop where
  cell : ∀ l d c, lookC (upC cs l) d = some c → ∃ b arr el, β l d = some b ∧ w.heap[b]? = some (.cells arr el (0, 0)) ∧ arr.size = c.length ∧
    (∀ (j : Nat) (u : Value), arr[j]? = some u → u.oneCell' = true) ∧ (∀ j x, c[j]? = some x → V I (fun l' => β (l + l')) (σ l) x (arr.getD j undef)) ∧ (∀ j, I ⟨b, j, none⟩ = none) ∧ ¬ X b
  inj : ∀ l d l' d' b, β l d = some b → β l' d' = some b → l = l' ∧ d = d'
  keys : ∀ l d b, β l d = some b → ∃ c, lookC (upC cs l) d = some c
  im : ∀ a v, I a = some v → hcell w a = some v
  glo : ∀ g, D I (gl g) (.pointer (some ⟨g, 0, none⟩))
  xb : ∀ b, X b → b < w.heap.size
  gz : Gsz gl w
def Room (cur : Array Value) (n c : Nat) : Prop := n ≤ c ∧ ∀ (j : Nat) (u : Value), cur[j]? = some u → u.oneCell' = true
structure OwnR (w : World) (I : Imm) (X : Nat → Prop) (β : Beta) (σ : Sig) : Prop where
  row : ∀ t g, σ t = some g → ∃ cur, w.heap[g.b]? = some (.cells cur g.el (0, 0)) ∧ Room cur g.n g.c ∧ g.c ≤ maxLen ∧ cur.size = g.c * g.e ∧ (∀ j, g.n * g.e ≤ j → I ⟨g.b, j, none⟩ = none) ∧
    ¬ X g.b ∧ ∀ l d, β l d ≠ some g.b
  inj : ∀ t t' g g', σ t = some g → σ t' = some g' → g.b = g'.b → t = t'
def fixed : Obj → Bool
  | .deferred _ => true
  | .loop _ => true
  | _ => false
structure Ext (I : Imm) (X : Nat → Prop) (w : World) (I' : Imm) (w' : World) : Prop where
  os : w'.os = w.os
  tape : w'.tape = w.tape
  output : w'.output = w.output
  size : w.heap.size ≤ w'.heap.size
  keep : ∀ b, X b → w'.heap[b]? = w.heap[b]?
  imm : ∀ a v, I a = some v → I' a = some v
  new : ∀ a, X a.block → I' a = I a
  fix : ∀ (k : Nat) o, w.heap[k]? = some o → fixed o = true → w'.heap[k]? = some o
def Marks (ds : List Deferred) (w : World) (X : Nat → Prop) : Prop := ∃ Ds : List Nat, ds = Ds.map (fun D => { target := .collected D, args := #[] }) ∧ Ds.Nodup ∧ ∀ D ∈ Ds, w.heap[D]? = some (.deferred (some [])) ∧ ¬ X D
theorem Ext.refl (I : Imm) (X : Nat → Prop) (w : World) : Ext I X w I w := ⟨rfl, rfl, rfl, Nat.le_refl _, fun _ _ => rfl, fun _ _ h => h, fun _ _ => rfl, fun _ _ h _ => h⟩
theorem Ext.trans {I : Imm} {X : Nat → Prop} {w : World} {I' : Imm} {w' : World} {I'' : Imm} {w'' : World} (h : Ext I X w I' w') (k : Ext I' X w' I'' w'') : Ext I X w I'' w'' :=
  ⟨k.os.trans h.os, k.tape.trans h.tape, k.output.trans h.output, Nat.le_trans h.size k.size, fun b hb => (k.keep b hb).trans (h.keep b hb),
    fun a v e => k.imm a v (h.imm a v e), fun a ha => (k.new a ha).trans (h.new a ha), fun b o hb ho => k.fix b o (h.fix b o hb ho) ho⟩
theorem Ext.sub {I : Imm} {X Y : Nat → Prop} {w : World} {I' : Imm} {w' : World} (h : Ext I X w I' w') (hs : ∀ b, Y b → X b) : Ext I Y w I' w' :=
  ⟨h.os, h.tape, h.output, h.size, fun b hb => h.keep b (hs b hb), h.imm, fun a ha => h.new a (hs _ ha), h.fix⟩
theorem Marks.ext {ds : List Deferred} {I : Imm} {X : Nat → Prop} {w : World} {I' : Imm} {w' : World} (m : Marks ds w X) (h : Ext I X w I' w') : Marks ds w' X :=
  let ⟨Ds, h1, h2, h3⟩ := m; ⟨Ds, h1, h2, fun D hD => ⟨h.fix D _ (h3 D hD).1 rfl, (h3 D hD).2⟩⟩
theorem Marks.nil (w : World) (X : Nat → Prop) : Marks [] w X := ⟨[], rfl, List.nodup_nil, fun D hD => by cases hD⟩
theorem Marks.to {ds : List Deferred} {w w' : World} {X Y : Nat → Prop} (m : Marks ds w X) (hf : ∀ (k : Nat) o, w.heap[k]? = some o → fixed o = true → w'.heap[k]? = some o) (hx : ∀ D, w.heap[D]? = some (.deferred (some [])) → ¬ X D → ¬ Y D) : Marks ds w' Y :=
  let ⟨Ds, h1, h2, h3⟩ := m; ⟨Ds, h1, h2, fun D hD => ⟨hf D _ (h3 D hD).1 rfl, hx D (h3 D hD).1 (h3 D hD).2⟩⟩
structure Dfs (d0 : Option (List Deferred)) (ds : List Deferred) (w : World) (X : Nat → Prop) : Prop where
  m : Marks ds w X
  e : ∀ d, d0 = some d → ds = d
theorem Dfs.ext {d0 : Option (List Deferred)} {ds : List Deferred} {I : Imm} {X : Nat → Prop} {w : World} {I' : Imm} {w' : World} (m : Dfs d0 ds w X) (h : Ext I X w I' w') : Dfs d0 ds w' X := ⟨m.m.ext h, m.e⟩
theorem Dfs.to {d0 : Option (List Deferred)} {ds : List Deferred} {w w' : World} {X Y : Nat → Prop} (m : Dfs d0 ds w X) (hf : ∀ (k : Nat) o, w.heap[k]? = some o → fixed o = true → w'.heap[k]? = some o) (hx : ∀ D, w.heap[D]? = some (.deferred (some [])) → ¬ X D → ¬ Y D) : Dfs d0 ds w' Y := ⟨m.m.to hf hx, m.e⟩
structure Rel (Γ : Env) (S : St) (a : Act) (w : World) (I : Imm) (X : Nat → Prop) (β : Beta) (σ : Nat → Sig) : Prop where
  tm : ∀ i, V I β (σ 0) (look S.tm i) (a.tmps.getD i undef)
  df : Dfs Γ.ds a.defers w X
  nt : Γ.nt ≤ a.tmps.size
  mem : MemR Γ.gl (S.ce :: S.up) w I X β σ
  own : OwnR w I X β (σ 0)
def Above (β β' : Beta) (σ σ' : Nat → Sig) : Prop := (∀ l, β' (l + 1) = β (l + 1)) ∧ ∀ l, σ' (l + 1) = σ (l + 1)
theorem Above.refl (β : Beta) (σ : Nat → Sig) : Above β β σ σ := ⟨fun _ => rfl, fun _ => rfl⟩
theorem Above.trans {β β' β'' : Beta} {σ σ' σ'' : Nat → Sig} (h : Above β β' σ σ') (k : Above β' β'' σ' σ'') : Above β β'' σ σ'' :=
  ⟨fun l => (k.1 l).trans (h.1 l), fun l => (k.2 l).trans (h.2 l)⟩
def under (β : Beta) : Beta := fun l d => match l with | 0 => none | l + 1 => β l d
def noSig : Sig := fun _ => none
def Comp (P : Program) (gl : Nat → IV) : Nat → List Ces → List IV → IV → List Ces → Prop := fun g up args r up' =>
  (∃ fn c, P.funcs[g]? = some fn ∧ fn.body = some c ∧ (fn.name == "runtime.NumGoroutine") = false) ∧
  ∀ (vals : Array Value) (w : World) (I : Imm) (X : Nat → Prop) (β : Beta) (σ : Nat → Sig), MemR gl up w I X β σ → args.length = vals.size →
    (∀ (j : Nat) x, args[j]? = some x → V I (under β) noSig x (vals.getD j undef)) →
    Calls P g vals w fun e w' => ∃ v I' s, e = .returned v ∧ V I' (under β) s r v ∧ OwnR w' I' X (under β) s ∧ MemR gl up' w' I' X β σ ∧ Ext I X w I' w'
def OwnC (w : World) (I : Imm) (X : Nat → Prop) (b : Nat) (c : List IV) : Prop := ∃ arr el, w.heap[b]? = some (.cells arr el (0, 0)) ∧ arr.size = c.length ∧ (∀ (j : Nat) (u : Value), arr[j]? = some u → u.oneCell' = true) ∧
  (∀ j x, c[j]? = some x → D I x (arr.getD j undef)) ∧ (∀ j, I ⟨b, j, none⟩ = none) ∧ ¬ X b
def ptrV (b : Nat) : Value := .pointer (some ⟨b, 0, none⟩)
def oneB (d b : Nat) : Beta := fun l e => if l = 0 ∧ e = d then some b else none
def lvl0 (s : Sig) : Nat → Sig := fun l => match l with
  | 0 => s
  | _ + 1 => noSig
def CompL (P : Program) (gl : Nat → IV) : Nat → Nat → List IV → List IV → List IV → Prop := fun g d c rest c' =>
  (∃ fn code, P.funcs[g]? = some fn ∧ fn.body = some code ∧ (fn.name == "runtime.NumGoroutine") = false) ∧
  ∀ (b : Nat) (vals : Array Value) (w : World) (I : Imm) (X : Nat → Prop) (s : Sig), MemR gl [[(d, c)]] w I X (oneB d b) (lvl0 s) → OwnR w I X (oneB d b) s → rest.length + 1 = vals.size → vals.getD 0 undef = ptrV b →
    (∀ (j : Nat) x, rest[j]? = some x → D I x (vals.getD (j + 1) undef)) →
    Calls P g vals w fun e w' => ∃ I' s', e = .returned (.tuple #[]) ∧ MemR gl [[(d, c')]] w' I' X (oneB d b) (lvl0 s') ∧ OwnR w' I' X (oneB d b) s' ∧ Ext I X w I' w'
def CompO (P : Program) (gl : Nat → IV) : Nat → List IV → Nat → List (List IV) → Prop := fun g args k cs =>
  (∃ fn c, P.funcs[g]? = some fn ∧ fn.body = some c ∧ (fn.name == "runtime.NumGoroutine") = false) ∧
  ∀ (up : List Ces) (vals : Array Value) (w : World) (I : Imm) (X : Nat → Prop) (β : Beta) (σ : Nat → Sig), MemR gl up w I X β σ → args.length = vals.size →
    (∀ (j : Nat) x, args[j]? = some x → V I (under β) noSig x (vals.getD j undef)) →
    Calls P g vals w fun e w' => ∃ (bs : List Nat) (I' : Imm), e = .returned (.func (.func k) #[] (bs.map ptrV).toArray) ∧ bs.length = cs.length ∧ bs.Nodup ∧
      (∀ (i b : Nat) c, bs[i]? = some b → cs[i]? = some c → OwnC w' I' X b c ∧ ∀ l d, β l d ≠ some b) ∧ MemR gl up w' I' X β σ ∧ Ext I X w I' w'
end Go.Proofs.YtfoenhiohhmnlaaGreatDoor.Ix

namespace Go.Proofs.YtfoenhiohhmnlaaGreatDoor.Ix
mutual
theorem fv_eq : ∀ (v : IV) (K : IV → Prop), fv v K = K v
  | .int _ _, _ | .bool _, _ | .str _, _ | .lit _, _ | .nilS, _ | .lst _ _ _ _, _ | .ptr _ _ _, _ | .vptr _ _ _ _ _, _ | .raw _ _ _, _ | .row _ _ _ _ _, _ | .ifc, _ | .dead, _ => by simp [fv]
  | .agg xs, K => by simp only [fv]; rw [fvL_eq xs]
  | .tup xs, K => by simp only [fv]; rw [fvL_eq xs]
  | .mp ks xs, K => by simp only [fv]; rw [fvL_eq xs]
  | .fn f a c, K => by simp only [fv]; rw [fvL_eq a, fvL_eq c]
theorem fvL_eq : ∀ (v : List IV) (K : List IV → Prop), fvL v K = K v
  | [], _ => by simp [fvL]
  | x :: r, K => by simp only [fvL]; rw [fv_eq x, fvL_eq r]
end
theorem ev_eq (Γ : Env) (S : St) (x : Operand) (K : IV → Prop) : ev Γ S x K = K (evo Γ S x) := fv_eq _ _
theorem fps_eq : ∀ (l : Tms) (K : Tms → Prop), fps l K = K l
  | [], _ => rfl
  | (i, v) :: r, K => by simp only [fps]; rw [fv_eq, fps_eq r]
theorem fcs_eq : ∀ (l : Ces) (K : Ces → Prop), fcs l K = K l
  | [], _ => rfl
  | (i, v) :: r, K => by simp only [fcs]; rw [fvL_eq, fcs_eq r]
theorem nthI_eq : ∀ (l : List IV) (i : Nat), nthI l i = l[i]?
  | [], _ => by simp [nthI]
  | _ :: _, 0 => by simp [nthI]
  | _ :: r, n + 1 => by simp [nthI, nthI_eq r n]
theorem dropN_eq : ∀ (n : Nat) (l : List IV), dropN n l = l.drop n
  | 0, _ => rfl
  | _ + 1, [] => rfl
  | n + 1, _ :: r => by simp [dropN, dropN_eq n r]
theorem takeN_spec : ∀ (n : Nat) (l t : List IV), takeN n l = some t → t = l.take n ∧ n ≤ l.length
  | 0, l, t, h => by simp [takeN] at h; simp [h]
  | _ + 1, [], t, h => by simp [takeN] at h
  | n + 1, x :: r, t, h => by
    simp only [takeN] at h
    split at h
    · rename_i u hu
      obtain ⟨rfl, hn⟩ := takeN_spec n r u hu
      simp at h
      simp [← h, hn]
    · cases h
theorem lay_spec : ∀ (l : List IV) (off : Nat) (vs r : List IV), lay l off vs = some r →
    off + vs.length ≤ l.length ∧ r.length = l.length ∧ ∀ j, r[j]? = if off ≤ j ∧ j < off + vs.length then vs[j - off]? else l[j]?
  | l, 0, [], r, h => by simp [lay] at h; subst h; simp
  | [], 0, _ :: _, r, h => by simp [lay] at h
  | x :: l, 0, v :: vs, r, h => by
    simp only [lay] at h
    split at h
    · rename_i t ht
      obtain ⟨h1, h2, h3⟩ := lay_spec l 0 vs t ht
      simp at h; subst h
      refine ⟨by simp at *; omega, by simp [h2], fun j => ?_⟩
      cases j with
      | zero => simp
      | succ j =>
        have := h3 j
        simp at this
        simp [this]
    · cases h
  | [], _ + 1, vs, r, h => by simp [lay] at h
  | x :: l, off + 1, vs, r, h => by
    simp only [lay] at h
    split at h
    · rename_i t ht
      obtain ⟨h1, h2, h3⟩ := lay_spec l off vs t ht
      simp at h; subst h
      refine ⟨by simp at *; omega, by simp [h2], fun j => ?_⟩
      cases j with
      | zero => simp
      | succ j =>
        have := h3 j
        simp only [List.getElem?_cons_succ, this]
        by_cases hj : off ≤ j ∧ j < off + vs.length
        · rw [if_pos hj, if_pos (by omega)]
          congr 1; omega
        · rw [if_neg hj, if_neg (by omega)]
    · cases h
theorem fieldAt_eq : ∀ (l : List (Nat × Nat × Bool)) (i : Nat), fieldAt l i = l[i]?
  | [], _ => by simp [fieldAt]
  | _ :: _, 0 => by simp [fieldAt]
  | _ :: r, n + 1 => by simp [fieldAt, fieldAt_eq r n]
theorem chk_spec {b : Bool} {p : Prop} (h : chk b p) : b = true ∧ p := by
  cases b
  · exact h.elim
  · exact ⟨rfl, h⟩
theorem look_cons (d : Nat) (v : IV) (r : Tms) (i : Nat) : look ((d, v) :: r) i = if d = i then v else look r i := by
  simp only [look]
  by_cases h : d = i
  · subst h; simp
  · have : Nat.beq d i = false := by rw [Bool.eq_false_iff]; intro e; exact h (Nat.eq_of_beq_eq_true e)
    simp [this, h]
theorem beq_iff (a b : Nat) : Nat.beq a b = true ↔ a = b := ⟨Nat.eq_of_beq_eq_true, fun h => by subst h; simp⟩
theorem beq_false {a b : Nat} (h : Nat.beq a b = false) : a ≠ b := fun e => by subst e; simp at h
theorem lookC_cons (d : Nat) (c : List IV) (r : Ces) (i : Nat) : lookC ((d, c) :: r) i = if d = i then some c else lookC r i := by
  simp only [lookC]
  by_cases h : d = i
  · subst h; simp
  · have : Nat.beq d i = false := by rw [Bool.eq_false_iff]; intro e; exact h (Nat.eq_of_beq_eq_true e)
    simp [this, h]
theorem lookC_putC : ∀ (l : Ces) (d : Nat) (c : List IV) (i : Nat), lookC (putC l d c) i = if d = i ∧ (lookC l d).isSome then some c else lookC l i
  | [], d, c, i => by simp [putC, lookC]
  | (k, x) :: r, d, c, i => by
    by_cases hk : k = d
    · subst hk
      have : Nat.beq k k = true := by simp
      simp only [putC, this, lookC_cons]
      by_cases hi : k = i <;> simp [hi]
    · have : Nat.beq k d = false := by rw [Bool.eq_false_iff]; intro e; exact hk (Nat.eq_of_beq_eq_true e)
      simp only [putC, this, lookC_cons, lookC_putC r d c i, if_neg hk]
      by_cases hi : k = i
      · subst hi; simp [Ne.symm hk]
      · simp [hi]
theorem hasKey_spec : ∀ (l : Ces) (d : Nat), hasKey l d = false → lookC l d = none
  | [], _, _ => rfl
  | (k, x) :: r, d, h => by
    simp [hasKey] at h
    rw [lookC_cons, if_neg, hasKey_spec r d h.2]
    intro e; subst e; simp at h
theorem upC_putUp : ∀ (u : List Ces) (l d : Nat) (c : List IV) (k : Nat), upC (putUp u l d c) k = if k = l then putC (upC u k) d c else upC u k
  | [], l, d, c, k => by simp [putUp, upC, putC]
  | x :: r, 0, d, c, k => by cases k <;> simp [putUp, upC]
  | x :: r, l + 1, d, c, k => by
    cases k with
    | zero => simp [putUp, upC]
    | succ k => simp [putUp, upC, upC_putUp r l d c k]
end Go.Proofs.YtfoenhiohhmnlaaGreatDoor.Ix

namespace Go.Proofs.YtfoenhiohhmnlaaGreatDoor.Ix
theorem noOwnL_eq : ∀ l, noOwnL l = l.map noOwn
  | [] => rfl
  | x :: r => by simp [noOwnL, noOwnL_eq r]
theorem shiftL_eq : ∀ l, shiftL l = l.map shift
  | [] => rfl
  | x :: r => by simp [shiftL, shiftL_eq r]
theorem liftL_eq (k : Nat) : ∀ l, liftL k l = l.map (lift k)
  | [] => rfl
  | x :: r => by simp [liftL, liftL_eq k r]
theorem dropTagL_eq (k : Nat) : ∀ l, dropTagL k l = l.map (dropTag k)
  | [] => rfl
  | x :: r => by simp [dropTagL, dropTagL_eq k r]
theorem hasTagL_spec (k : Nat) : ∀ l, hasTagL k l = false → ∀ (j : Nat) x, l[j]? = some x → hasTag k x = false
  | [], _, j, x, h => by simp at h
  | y :: r, h, j, x, hx => by
    simp [hasTagL] at h
    cases j with
    | zero => simp at hx; subst hx; exact h.1
    | succ j => exact hasTagL_spec k r h.2 j x (by simpa using hx)
theorem unshiftL_spec : ∀ l l', unshiftL l = some l' → l'.length = l.length ∧ ∀ (j : Nat) y, l'[j]? = some y → ∃ x, l[j]? = some x ∧ unshift x = some y
  | [], l', h => by simp [unshiftL] at h; subst h; simp
  | x :: r, l', h => by
    simp only [unshiftL] at h
    split at h
    · rename_i y s h1 h2
      obtain ⟨e1, e2⟩ := unshiftL_spec r s h2
      simp at h; subst h
      refine ⟨by simp [e1], fun j z hz => ?_⟩
      cases j with
      | zero => simp at hz; subst hz; exact ⟨x, by simp, h1⟩
      | succ j => simpa using e2 j z (by simpa using hz)
    · cases h
theorem lowerL_spec (k : Nat) : ∀ l l', lowerL k l = some l' → l'.length = l.length ∧ ∀ (j : Nat) y, l'[j]? = some y → ∃ x, l[j]? = some x ∧ lower k x = some y
  | [], l', h => by simp [lowerL] at h; subst h; simp
  | x :: r, l', h => by
    simp only [lowerL] at h
    split at h
    · rename_i y s h1 h2
      obtain ⟨e1, e2⟩ := lowerL_spec k r s h2
      simp at h; subst h
      refine ⟨by simp [e1], fun j z hz => ?_⟩
      cases j with
      | zero => simp at hz; subst hz; exact ⟨x, by simp, h1⟩
      | succ j => simpa using e2 j z (by simpa using hz)
    · cases h
theorem map_get {f : IV → IV} {xs : List IV} {j : Nat} {x : IV} (h : (xs.map f)[j]? = some x) : ∃ y, xs[j]? = some y ∧ f y = x := by
  simpa using h
theorem D.noOwn {I : Imm} {x : IV} {v : Value} (h : D I x v) : D I (noOwn x) v := by
  induction h with
  | int k n => exact .int k n
  | bool b => exact .bool b
  | str s => exact .str s
  | lit v h => exact .lit v h
  | nilS => exact .nilS
  | lstN e f => exact .lstN e f
  | lst e n f b off c g hc hl hi h1 h ih => exact .lst e n f b off c g hc hl hi h1 h
  | vptr e n f i j b off g hi0 hl hi h1 h ih => exact .vptr e n f i j b off g hi0 hl hi h1 h
  | agg xs vs hl h1 _ ih =>
    simp only [Ix.noOwn, noOwnL_eq]
    exact .agg _ vs (by simpa using hl) h1 fun j x hx => by obtain ⟨y, hy, rfl⟩ := map_get hx; exact ih j y hy
  | tup xs vs hl _ ih =>
    simp only [Ix.noOwn, noOwnL_eq]
    exact .tup _ vs (by simpa using hl) fun j x hx => by obtain ⟨y, hy, rfl⟩ := map_get hx; exact ih j y hy
  | fn f xs ys vs us hl hk _ _ ih ih' =>
    simp only [Ix.noOwn, noOwnL_eq]
    exact .fn f _ _ vs us (by simpa using hl) (by simpa using hk) (fun j x hx => by obtain ⟨y, hy, rfl⟩ := map_get hx; exact ih j y hy)
      (fun j x hx => by obtain ⟨y, hy, rfl⟩ := map_get hx; exact ih' j y hy)
  | ifc d x => exact .ifc d x
  | dead v => exact .dead v
theorem V.noOwn {I : Imm} {β : Beta} {σ σ' : Sig} {x : IV} {v : Value} (h : V I β σ x v) : V I β σ' (noOwn x) v := by
  induction h with
  | data h => exact .data h.noOwn
  | ptr l d off b h => exact .ptr l d off b h
  | ownN t e f => exact .data (.lstN e f)
  | own t e n f b el c g ht hc hl hi h1 h => exact .data (.lst e n f b 0 c g hc hl (fun i j a b => by simpa using hi i j a b) h1 h)
  | raw t e n b el ht => exact .data (.dead _)
  | row d e n b c h hc => exact .data (.dead _)
  | agg xs vs hl h1 _ ih =>
    simp only [Ix.noOwn, noOwnL_eq]
    exact .agg _ vs (by simpa using hl) h1 fun j x hx => by obtain ⟨y, hy, rfl⟩ := map_get hx; exact ih j y hy
  | tup xs vs hl _ ih =>
    simp only [Ix.noOwn, noOwnL_eq]
    exact .tup _ vs (by simpa using hl) fun j x hx => by obtain ⟨y, hy, rfl⟩ := map_get hx; exact ih j y hy
  | mp ks xs b vs hm hl _ ih =>
    simp only [Ix.noOwn, noOwnL_eq]
    exact .mp ks _ b vs hm (by simpa using hl) fun j x hx => by obtain ⟨y, hy, rfl⟩ := map_get hx; exact ih j y hy
  | fn f xs ys vs us hl hk _ _ ih ih' =>
    simp only [Ix.noOwn, noOwnL_eq]
    exact .fn f _ _ vs us (by simpa using hl) (by simpa using hk) (fun j x hx => by obtain ⟨y, hy, rfl⟩ := map_get hx; exact ih j y hy)
      (fun j x hx => by obtain ⟨y, hy, rfl⟩ := map_get hx; exact ih' j y hy)
theorem D.shift {I : Imm} {x : IV} {v : Value} (h : D I x v) : D I (shift x) v := by
  induction h with
  | int k n => exact .int k n
  | bool b => exact .bool b
  | str s => exact .str s
  | lit v h => exact .lit v h
  | nilS => exact .nilS
  | lstN e f => exact .lstN e f
  | lst e n f b off c g hc hl hi h1 h ih => exact .lst e n f b off c g hc hl hi h1 h
  | vptr e n f i j b off g hi0 hl hi h1 h ih => exact .vptr e n f i j b off g hi0 hl hi h1 h
  | agg xs vs hl h1 _ ih =>
    simp only [Ix.shift, shiftL_eq]
    exact .agg _ vs (by simpa using hl) h1 fun j x hx => by obtain ⟨y, hy, rfl⟩ := map_get hx; exact ih j y hy
  | tup xs vs hl _ ih =>
    simp only [Ix.shift, shiftL_eq]
    exact .tup _ vs (by simpa using hl) fun j x hx => by obtain ⟨y, hy, rfl⟩ := map_get hx; exact ih j y hy
  | fn f xs ys vs us hl hk _ _ ih ih' =>
    simp only [Ix.shift, shiftL_eq]
    exact .fn f _ _ vs us (by simpa using hl) (by simpa using hk) (fun j x hx => by obtain ⟨y, hy, rfl⟩ := map_get hx; exact ih j y hy)
      (fun j x hx => by obtain ⟨y, hy, rfl⟩ := map_get hx; exact ih' j y hy)
  | ifc d x => exact .ifc d x
  | dead v => exact .dead v
theorem V.shift {I : Imm} {β : Beta} {σ σ' : Sig} {x : IV} {v : Value} (h : V I β σ x v) : V I (under β) σ' (shift x) v := by
  induction h with
  | data h => exact .data h.shift
  | ptr l d off b h => exact .ptr (l + 1) d off b h
  | ownN t e f => exact .data (.lstN e f)
  | own t e n f b el c g ht hc hl hi h1 h => exact .data (.lst e n f b 0 c g hc hl (fun i j a b => by simpa using hi i j a b) h1 h)
  | raw t e n b el ht => exact .data (.dead _)
  | row d e n b c h hc => exact .data (.dead _)
  | agg xs vs hl h1 _ ih =>
    simp only [Ix.shift, shiftL_eq]
    exact .agg _ vs (by simpa using hl) h1 fun j x hx => by obtain ⟨y, hy, rfl⟩ := map_get hx; exact ih j y hy
  | tup xs vs hl _ ih =>
    simp only [Ix.shift, shiftL_eq]
    exact .tup _ vs (by simpa using hl) fun j x hx => by obtain ⟨y, hy, rfl⟩ := map_get hx; exact ih j y hy
  | mp ks xs b vs hm hl _ ih =>
    simp only [Ix.shift, shiftL_eq]
    exact .mp ks _ b vs hm (by simpa using hl) fun j x hx => by obtain ⟨y, hy, rfl⟩ := map_get hx; exact ih j y hy
  | fn f xs ys vs us hl hk _ _ ih ih' =>
    simp only [Ix.shift, shiftL_eq]
    exact .fn f _ _ vs us (by simpa using hl) (by simpa using hk) (fun j x hx => by obtain ⟨y, hy, rfl⟩ := map_get hx; exact ih j y hy)
      (fun j x hx => by obtain ⟨y, hy, rfl⟩ := map_get hx; exact ih' j y hy)
theorem D.unshift {I : Imm} {x : IV} {v : Value} (h : D I x v) : ∀ y, unshift x = some y → D I y v := by
  induction h with
  | int k n => intro y e; simp [Ix.unshift] at e; subst e; exact .int k n
  | bool b => intro y e; simp [Ix.unshift] at e; subst e; exact .bool b
  | str s => intro y e; simp [Ix.unshift] at e; subst e; exact .str s
  | lit v h => intro y e; simp [Ix.unshift] at e; subst e; exact .lit v h
  | nilS => intro y e; simp [Ix.unshift] at e; subst e; exact .nilS
  | lstN e f => intro y e; simp [Ix.unshift] at e; subst e; exact .lstN _ f
  | lst e n f b off c g hc hl hi h1 h ih => intro y e; simp [Ix.unshift] at e; subst e; exact .lst _ n f b off c g hc hl hi h1 h
  | vptr e n f i j b off g hi0 hl hi h1 h ih => intro y e; simp [Ix.unshift] at e; subst e; exact .vptr _ n f i j b off g hi0 hl hi h1 h
  | agg xs vs hl h1 _ ih =>
    intro y e
    simp only [Ix.unshift] at e
    split at e
    · rename_i ys hy
      obtain ⟨e1, e2⟩ := unshiftL_spec _ _ hy
      simp at e; subst e
      exact .agg _ vs (by rw [e1, hl]) h1 fun j x hx => by obtain ⟨z, hz, hu⟩ := e2 j x hx; exact ih j z hz x hu
    · cases e
  | tup xs vs hl _ ih =>
    intro y e
    simp only [Ix.unshift] at e
    split at e
    · rename_i ys hy
      obtain ⟨e1, e2⟩ := unshiftL_spec _ _ hy
      simp at e; subst e
      exact .tup _ vs (by rw [e1, hl]) fun j x hx => by obtain ⟨z, hz, hu⟩ := e2 j x hx; exact ih j z hz x hu
    · cases e
  | fn f xs ys vs us hl hk _ _ ih ih' =>
    intro y e
    simp only [Ix.unshift] at e
    split at e
    · rename_i aa cs ha hc
      obtain ⟨e1, e2⟩ := unshiftL_spec _ _ ha
      obtain ⟨e3, e4⟩ := unshiftL_spec _ _ hc
      simp at e; subst e
      exact .fn f _ _ vs us (by rw [e1, hl]) (by rw [e3, hk]) (fun j x hx => by obtain ⟨z, hz, hu⟩ := e2 j x hx; exact ih j z hz x hu)
        (fun j x hx => by obtain ⟨z, hz, hu⟩ := e4 j x hx; exact ih' j z hz x hu)
    · cases e
  | ifc d x => intro y e; simp [Ix.unshift] at e; subst e; exact .ifc d x
  | dead v => intro y e; simp [Ix.unshift] at e; subst e; exact .dead v
theorem V.unshift {I : Imm} {β : Beta} {σ σ' : Sig} {x : IV} {v : Value} (h : V I (under β) σ x v) : ∀ y, unshift x = some y → V I β σ' y v := by
  generalize hb : under β = β' at h
  induction h with
  | data h => exact fun y e => .data (h.unshift y e)
  | ptr l d off b h =>
    subst hb
    intro y e
    cases l with
    | zero => simp [Ix.unshift] at e
    | succ l => simp [Ix.unshift] at e; subst e; exact .ptr l d off b h
  | ownN t e f => intro y e; simp [Ix.unshift] at e; subst e; exact .data (.lstN _ f)
  | own t e n f b el c g ht hc hl hi h1 h => intro y e; simp [Ix.unshift] at e; subst e; exact .data (.lst _ n f b 0 c g hc hl (fun i j a b => by simpa using hi i j a b) h1 h)
  | raw t e n b el ht => intro y e; simp [Ix.unshift] at e; subst e; exact .data (.dead _)
  | row d e' n b c h hc => intro y e; simp [Ix.unshift] at e; subst e; exact .data (.dead _)
  | agg xs vs hl h1 _ ih =>
    intro y e
    simp only [Ix.unshift] at e
    split at e
    · rename_i ys hy
      obtain ⟨e1, e2⟩ := unshiftL_spec _ _ hy
      simp at e; subst e
      exact .agg _ vs (by rw [e1, hl]) h1 fun j x hx => by obtain ⟨z, hz, hu⟩ := e2 j x hx; exact ih j z hz x hu
    · cases e
  | tup xs vs hl _ ih =>
    intro y e
    simp only [Ix.unshift] at e
    split at e
    · rename_i ys hy
      obtain ⟨e1, e2⟩ := unshiftL_spec _ _ hy
      simp at e; subst e
      exact .tup _ vs (by rw [e1, hl]) fun j x hx => by obtain ⟨z, hz, hu⟩ := e2 j x hx; exact ih j z hz x hu
    · cases e
  | mp ks xs b vs hm hl _ ih =>
    intro y e
    simp only [Ix.unshift] at e
    split at e
    · rename_i ys hy
      obtain ⟨e1, e2⟩ := unshiftL_spec _ _ hy
      simp at e; subst e
      exact .mp ks _ b vs hm (by rw [e1, hl]) fun j x hx => by obtain ⟨z, hz, hu⟩ := e2 j x hx; exact ih j z hz x hu
    · cases e
  | fn f xs ys vs us hl hk _ _ ih ih' =>
    intro y e
    simp only [Ix.unshift] at e
    split at e
    · rename_i aa cs ha hc
      obtain ⟨e1, e2⟩ := unshiftL_spec _ _ ha
      obtain ⟨e3, e4⟩ := unshiftL_spec _ _ hc
      simp at e; subst e
      exact .fn f _ _ vs us (by rw [e1, hl]) (by rw [e3, hk]) (fun j x hx => by obtain ⟨z, hz, hu⟩ := e2 j x hx; exact ih j z hz x hu)
        (fun j x hx => by obtain ⟨z, hz, hu⟩ := e4 j x hx; exact ih' j z hz x hu)
    · cases e
theorem D.lift {I : Imm} (k : Nat) {x : IV} {v : Value} (h : D I x v) : D I (lift k x) v := by
  induction h with
  | int k n => exact .int k n
  | bool b => exact .bool b
  | str s => exact .str s
  | lit v h => exact .lit v h
  | nilS => exact .nilS
  | lstN e f => exact .lstN e f
  | lst e n f b off c g hc hl hi h1 h ih => exact .lst e n f b off c g hc hl hi h1 h
  | vptr e n f i j b off g hi0 hl hi h1 h ih => exact .vptr e n f i j b off g hi0 hl hi h1 h
  | agg xs vs hl h1 _ ih =>
    simp only [Ix.lift, liftL_eq]
    exact .agg _ vs (by simpa using hl) h1 fun j x hx => by obtain ⟨y, hy, rfl⟩ := map_get hx; exact ih j y hy
  | tup xs vs hl _ ih =>
    simp only [Ix.lift, liftL_eq]
    exact .tup _ vs (by simpa using hl) fun j x hx => by obtain ⟨y, hy, rfl⟩ := map_get hx; exact ih j y hy
  | fn f xs ys vs us hl hk _ _ ih ih' =>
    simp only [Ix.lift, liftL_eq]
    exact .fn f _ _ vs us (by simpa using hl) (by simpa using hk) (fun j x hx => by obtain ⟨y, hy, rfl⟩ := map_get hx; exact ih j y hy)
      (fun j x hx => by obtain ⟨y, hy, rfl⟩ := map_get hx; exact ih' j y hy)
  | ifc d x => exact .ifc d x
  | dead v => exact .dead v
theorem V.lift {I : Imm} {β : Beta} {σ σ' : Sig} (k : Nat) {x : IV} {v : Value} (h : V I (fun l => β (k + l)) σ x v) : V I β σ' (lift k (Ix.noOwn x)) v := by
  generalize hb : (fun l => β (k + l)) = β' at h
  induction h with
  | data h => exact .data (h.noOwn.lift k)
  | ptr l d off b h => subst hb; exact .ptr _ d off b h
  | ownN t e f => exact .data (.lstN e f)
  | own t e n f b el c g ht hc hl hi h1 h => exact .data (.lst e n f b 0 c g hc hl (fun i j a b => by simpa using hi i j a b) h1 h)
  | raw t e n b el ht => exact .data (.dead _)
  | row d e n b c h hc => exact .data (.dead _)
  | agg xs vs hl h1 _ ih =>
    simp only [Ix.noOwn, noOwnL_eq, Ix.lift, liftL_eq, List.map_map]
    exact .agg _ vs (by simpa using hl) h1 fun j x hx => by obtain ⟨y, hy, rfl⟩ := map_get hx; exact ih j y hy
  | tup xs vs hl _ ih =>
    simp only [Ix.noOwn, noOwnL_eq, Ix.lift, liftL_eq, List.map_map]
    exact .tup _ vs (by simpa using hl) fun j x hx => by obtain ⟨y, hy, rfl⟩ := map_get hx; exact ih j y hy
  | mp ks xs b vs hm hl _ ih =>
    simp only [Ix.noOwn, noOwnL_eq, Ix.lift, liftL_eq, List.map_map]
    exact .mp ks _ b vs hm (by simpa using hl) fun j x hx => by obtain ⟨y, hy, rfl⟩ := map_get hx; exact ih j y hy
  | fn f xs ys vs us hl hk _ _ ih ih' =>
    simp only [Ix.noOwn, noOwnL_eq, Ix.lift, liftL_eq, List.map_map]
    exact .fn f _ _ vs us (by simpa using hl) (by simpa using hk) (fun j x hx => by obtain ⟨y, hy, rfl⟩ := map_get hx; exact ih j y hy)
      (fun j x hx => by obtain ⟨y, hy, rfl⟩ := map_get hx; exact ih' j y hy)
theorem D.lower {I : Imm} (k : Nat) {x : IV} {v : Value} (h : D I x v) : ∀ y, lower k x = some y → D I y v := by
  induction h with
  | int k n => intro y e; simp [Ix.lower] at e; subst e; exact .int k n
  | bool b => intro y e; simp [Ix.lower] at e; subst e; exact .bool b
  | str s => intro y e; simp [Ix.lower] at e; subst e; exact .str s
  | lit v h => intro y e; simp [Ix.lower] at e; subst e; exact .lit v h
  | nilS => intro y e; simp [Ix.lower] at e; subst e; exact .nilS
  | lstN e f => intro y e; simp [Ix.lower] at e; subst e; exact .lstN _ f
  | lst e n f b off c g hc hl hi h1 h ih => intro y e; simp [Ix.lower] at e; subst e; exact .lst _ n f b off c g hc hl hi h1 h
  | vptr e n f i j b off g hi0 hl hi h1 h ih => intro y e; simp [Ix.lower] at e; subst e; exact .vptr _ n f i j b off g hi0 hl hi h1 h
  | agg xs vs hl h1 _ ih =>
    intro y e
    simp only [Ix.lower] at e
    split at e
    · rename_i ys hy
      obtain ⟨e1, e2⟩ := lowerL_spec _ _ _ hy
      simp at e; subst e
      exact .agg _ vs (by rw [e1, hl]) h1 fun j x hx => by obtain ⟨z, hz, hu⟩ := e2 j x hx; exact ih j z hz x hu
    · cases e
  | tup xs vs hl _ ih =>
    intro y e
    simp only [Ix.lower] at e
    split at e
    · rename_i ys hy
      obtain ⟨e1, e2⟩ := lowerL_spec _ _ _ hy
      simp at e; subst e
      exact .tup _ vs (by rw [e1, hl]) fun j x hx => by obtain ⟨z, hz, hu⟩ := e2 j x hx; exact ih j z hz x hu
    · cases e
  | fn f xs ys vs us hl hk _ _ ih ih' =>
    intro y e
    simp only [Ix.lower] at e
    split at e
    · rename_i aa cs ha hc
      obtain ⟨e1, e2⟩ := lowerL_spec _ _ _ ha
      obtain ⟨e3, e4⟩ := lowerL_spec _ _ _ hc
      simp at e; subst e
      exact .fn f _ _ vs us (by rw [e1, hl]) (by rw [e3, hk]) (fun j x hx => by obtain ⟨z, hz, hu⟩ := e2 j x hx; exact ih j z hz x hu)
        (fun j x hx => by obtain ⟨z, hz, hu⟩ := e4 j x hx; exact ih' j z hz x hu)
    · cases e
  | ifc d x => intro y e; simp [Ix.lower] at e; subst e; exact .ifc d x
  | dead v => intro y e; simp [Ix.lower] at e; subst e; exact .dead v
theorem V.lower {I : Imm} {β : Beta} {σ σ' : Sig} (k : Nat) {x : IV} {v : Value} (h : V I β σ x v) : ∀ y, lower k (Ix.noOwn x) = some y → V I (fun l => β (k + l)) σ' y v := by
  induction h with
  | data h => exact fun y e => .data (h.noOwn.lower k y e)
  | ptr l d off b h =>
    intro y e
    simp only [Ix.noOwn, Ix.lower] at e
    split at e
    · rename_i hle
      have hle := Nat.le_of_ble_eq_true hle
      simp at e; subst e
      exact .ptr _ d off b (by show β (k + (l - k)) d = some b; rw [Nat.add_sub_cancel' hle]; exact h)
    · cases e
  | ownN t e f => intro y e; simp [Ix.noOwn, Ix.lower] at e; subst e; exact .data (.lstN _ f)
  | own t e n f b el c g ht hc hl hi h1 h => intro y e; simp [Ix.noOwn, Ix.lower] at e; subst e; exact .data (.lst _ n f b 0 c g hc hl (fun i j a b => by simpa using hi i j a b) h1 h)
  | raw t e n b el ht => intro y e; simp [Ix.noOwn, Ix.lower] at e; subst e; exact .data (.dead _)
  | row d e' n b c h hc => intro y e; simp [Ix.noOwn, Ix.lower] at e; subst e; exact .data (.dead _)
  | agg xs vs hl h1 _ ih =>
    intro y e
    simp only [Ix.noOwn, noOwnL_eq, Ix.lower] at e
    split at e
    · rename_i ys hy
      obtain ⟨e1, e2⟩ := lowerL_spec _ _ _ hy
      simp at e; subst e
      exact .agg _ vs (by rw [e1, List.length_map, hl]) h1 fun j x hx => by obtain ⟨z, hz, hu⟩ := e2 j x hx; obtain ⟨z', hz', rfl⟩ := map_get hz; exact ih j z' hz' x hu
    · cases e
  | tup xs vs hl _ ih =>
    intro y e
    simp only [Ix.noOwn, noOwnL_eq, Ix.lower] at e
    split at e
    · rename_i ys hy
      obtain ⟨e1, e2⟩ := lowerL_spec _ _ _ hy
      simp at e; subst e
      exact .tup _ vs (by rw [e1, List.length_map, hl]) fun j x hx => by obtain ⟨z, hz, hu⟩ := e2 j x hx; obtain ⟨z', hz', rfl⟩ := map_get hz; exact ih j z' hz' x hu
    · cases e
  | mp ks xs b vs hm hl _ ih =>
    intro y e
    simp only [Ix.noOwn, noOwnL_eq, Ix.lower] at e
    split at e
    · rename_i ys hy
      obtain ⟨e1, e2⟩ := lowerL_spec _ _ _ hy
      simp at e; subst e
      exact .mp ks _ b vs hm (by rw [e1, List.length_map, hl]) fun j x hx => by obtain ⟨z, hz, hu⟩ := e2 j x hx; obtain ⟨z', hz', rfl⟩ := map_get hz; exact ih j z' hz' x hu
    · cases e
  | fn f xs ys vs us hl hk _ _ ih ih' =>
    intro y e
    simp only [Ix.noOwn, noOwnL_eq, Ix.lower] at e
    split at e
    · rename_i aa cs ha hc
      obtain ⟨e1, e2⟩ := lowerL_spec _ _ _ ha
      obtain ⟨e3, e4⟩ := lowerL_spec _ _ _ hc
      simp at e; subst e
      exact .fn f _ _ vs us (by rw [e1, List.length_map, hl]) (by rw [e3, List.length_map, hk]) (fun j x hx => by obtain ⟨z, hz, hu⟩ := e2 j x hx; obtain ⟨z', hz', rfl⟩ := map_get hz; exact ih j z' hz' x hu)
        (fun j x hx => by obtain ⟨z, hz, hu⟩ := e4 j x hx; obtain ⟨z', hz', rfl⟩ := map_get hz; exact ih' j z' hz' x hu)
    · cases e
theorem D.dropTag {I : Imm} (t : Nat) {x : IV} {v : Value} (h : D I x v) : D I (dropTag t x) v := by
  induction h with
  | int k n => exact .int k n
  | bool b => exact .bool b
  | str s => exact .str s
  | lit v h => exact .lit v h
  | nilS => exact .nilS
  | lstN e f => exact .lstN e f
  | lst e n f b off c g hc hl hi h1 h ih => exact .lst e n f b off c g hc hl hi h1 h
  | vptr e n f i j b off g hi0 hl hi h1 h ih => exact .vptr e n f i j b off g hi0 hl hi h1 h
  | agg xs vs hl h1 _ ih =>
    simp only [Ix.dropTag, dropTagL_eq]
    exact .agg _ vs (by simpa using hl) h1 fun j x hx => by obtain ⟨y, hy, rfl⟩ := map_get hx; exact ih j y hy
  | tup xs vs hl _ ih =>
    simp only [Ix.dropTag, dropTagL_eq]
    exact .tup _ vs (by simpa using hl) fun j x hx => by obtain ⟨y, hy, rfl⟩ := map_get hx; exact ih j y hy
  | fn f xs ys vs us hl hk _ _ ih ih' =>
    simp only [Ix.dropTag, dropTagL_eq]
    exact .fn f _ _ vs us (by simpa using hl) (by simpa using hk) (fun j x hx => by obtain ⟨y, hy, rfl⟩ := map_get hx; exact ih j y hy)
      (fun j x hx => by obtain ⟨y, hy, rfl⟩ := map_get hx; exact ih' j y hy)
  | ifc d x => exact .ifc d x
  | dead v => exact .dead v
theorem V.dropTag {I : Imm} {β : Beta} {σ σ' : Sig} (t : Nat) (hs : ∀ u g, u ≠ t → σ u = some g → σ' u = some g) {x : IV} {v : Value} (h : V I β σ x v) : V I β σ' (dropTag t x) v := by
  induction h with
  | data h => exact .data (h.dropTag t)
  | ptr l d off b h => exact .ptr l d off b h
  | ownN u e f =>
    simp only [Ix.dropTag]
    split
    · exact .data (.lstN e f)
    · exact .ownN u e f
  | own u e n f b el c g ht hc hl hi h1 h =>
    simp only [Ix.dropTag]
    split
    · exact .data (.lst e n f b 0 c g hc hl (fun i j a b => by simpa using hi i j a b) h1 h)
    · rename_i hne
      exact .own u e n f b el c g (hs _ _ (beq_false hne) ht) hc hl hi h1 h
  | raw u e n b el ht =>
    simp only [Ix.dropTag]
    split
    · exact .data (.dead _)
    · rename_i hne
      exact .raw u e n b el (hs _ _ (beq_false hne) ht)
  | row d e n b c h hc => exact .row d e n b c h hc
  | agg xs vs hl h1 _ ih =>
    simp only [Ix.dropTag, dropTagL_eq]
    exact .agg _ vs (by simpa using hl) h1 fun j x hx => by obtain ⟨y, hy, rfl⟩ := map_get hx; exact ih j y hy
  | tup xs vs hl _ ih =>
    simp only [Ix.dropTag, dropTagL_eq]
    exact .tup _ vs (by simpa using hl) fun j x hx => by obtain ⟨y, hy, rfl⟩ := map_get hx; exact ih j y hy
  | mp ks xs b vs hm hl _ ih =>
    simp only [Ix.dropTag, dropTagL_eq]
    exact .mp ks _ b vs hm (by simpa using hl) fun j x hx => by obtain ⟨y, hy, rfl⟩ := map_get hx; exact ih j y hy
  | fn f xs ys vs us hl hk _ _ ih ih' =>
    simp only [Ix.dropTag, dropTagL_eq]
    exact .fn f _ _ vs us (by simpa using hl) (by simpa using hk) (fun j x hx => by obtain ⟨y, hy, rfl⟩ := map_get hx; exact ih j y hy)
      (fun j x hx => by obtain ⟨y, hy, rfl⟩ := map_get hx; exact ih' j y hy)
theorem V.noTag {I : Imm} {β : Beta} {σ σ' : Sig} (t : Nat) (hs : ∀ u g, u ≠ t → σ u = some g → σ' u = some g) {x : IV} {v : Value} (h : V I β σ x v) :
    hasTag t x = false → V I β σ' x v := by
  induction h with
  | data h => exact fun _ => .data h
  | ptr l d off b h => exact fun _ => .ptr l d off b h
  | ownN u e f => exact fun _ => .ownN u e f
  | own u e n f b el c g ht hc hl hi h1 h => exact fun hn => .own u e n f b el c g (hs _ _ (beq_false hn) ht) hc hl hi h1 h
  | raw u e n b el ht => exact fun hn => .raw u e n b el (hs _ _ (beq_false hn) ht)
  | row d e n b c h hc => exact fun _ => .row d e n b c h hc
  | agg xs vs hl h1 _ ih => exact fun hn => .agg _ vs hl h1 fun j x hx => ih j x hx (hasTagL_spec t _ hn j x hx)
  | tup xs vs hl _ ih => exact fun hn => .tup _ vs hl fun j x hx => ih j x hx (hasTagL_spec t _ hn j x hx)
  | mp ks xs b vs hm hl _ ih => exact fun hn => .mp ks _ b vs hm hl fun j x hx => ih j x hx (hasTagL_spec t _ hn j x hx)
  | fn f xs ys vs us hl hk _ _ ih ih' =>
    intro hn
    simp [hasTag] at hn
    exact .fn f _ _ vs us hl hk (fun j x hx => ih j x hx (hasTagL_spec t _ hn.1 j x hx)) (fun j x hx => ih' j x hx (hasTagL_spec t _ hn.2 j x hx))
theorem V.row_inv {I : Imm} {β : Beta} {σ : Sig} {d e n k q : Nat} {v : Value} (h : V I β σ (.row d e n k q) v) : ∃ b c, v = .slice (some ⟨b, 0, none⟩) n c ∧ β 0 d = some b ∧ n ≤ c := by
  cases h with
  | data h => cases h
  | row _ _ _ _ _ h hc => exact ⟨_, _, rfl, h, hc⟩
theorem V.row_pin {I : Imm} {β : Beta} {σ : Sig} {d e n k q : Nat} {v : Value} (h : V I β σ (.row d e n k q) v) : v = .slice (some ⟨q, 0, none⟩) n k := by
  cases h with
  | data h => cases h
  | row d e n b c h hc => rfl
end Go.Proofs.YtfoenhiohhmnlaaGreatDoor.Ix

namespace Go.Proofs.YtfoenhiohhmnlaaGreatDoor.Ix
def aggOf (P : Program) (t : Nat) : Option Bool :=
  match P.underlying t with
  | some (.struct _) | some (.array _ _) => some true
  | some _ => some false
  | none => none
def eqVal : LK → Value → Value → Option Bool
  | .int, .int k a, .int k' b => if k = k' then some (a == b) else none
  | .bool, .bool a, .bool b => some (a == b)
  | .str, .string a, .string b => some (a.toList == b.toList)
  | .flt, .float k a, .float k' b => if k = k' then some (k.format.order a b == some .eq) else none
  | .cpx, .complex k a b, .complex k' c d => if k = k' then some ((k.format.order a c == some .eq) && (k.format.order b d == some .eq)) else none
  | _, _, _ => none
def eqVals : List LK → List Value → List Value → Option Bool
  | [], [], [] => some true
  | k :: ks, x :: xs, y :: ys => andO (eqVal k x y) (eqVals ks xs ys)
  | _, _, _ => none
def EqOK (P : Program) (t : Nat) (ks : List LK) : Prop := ∀ (op : BinOp) (ox oy : Operand) (vs us : Array Value) (b : Bool) (w : World), eqVals ks vs.toList us.toList = some b →
  (eqGuard op t ox oy (.agg vs) (.agg us)).run P w = .ok () w ∧ (Op.equal t (.agg vs) (.agg us)).run P w = .ok b w
structure TOK1 (P : Program) (T : Nat → Ty) (t : Nat) (inf : TypeInfo) (d : TypeDesc) (z : Value) : Prop where
  info : P.info? t = some inf
  und : P.underlying t = some d
  size : inf.size = (T t).size
  pos : 0 < (T t).size
  bytes : inf.bytes ≤ 131072
  agg : aggOf P t = some (T t).agg
  zero : inf.zero = some z
  zsize : z.cells.size = (T t).size
  zlen : (T t).zero.length = (T t).size
  zone : ∀ (j : Nat) u, z.cells[j]? = some u → u.oneCell' = true
  zval : ∀ (I : Imm) j x, (T t).zero[j]? = some x → D I x (z.cells.getD j undef)
  kind : match (T t).k with
    | .other => True
    | .struct fs => ∃ fields, d = .struct fields ∧ fields.size = fs.length ∧ ∀ (i : Nat) off sz ag, fs[i]? = some (off, sz, ag) →
        ∃ f, fields[i]? = some f ∧ f.offset = off ∧ (P.info? f.type).map (·.size) = some sz ∧ 0 < sz ∧ aggOf P f.type = some ag ∧ (ag = false → sz = 1)
    | .array n e => d = .array n e ∧ (T e).size ≠ 0
    | .slice e => d = .slice e ∧ (T e).size ≠ 0
    | .str => d = .string
    | .map k e => d = .map k e ∧ ∃ i, P.info? e = some i ∧ i.zero = some (.bool false)
    | .mapv k e => d = .map k e ∧ ∃ i vs, P.info? e = some i ∧ i.zero = some (.agg vs)
    | .iface => ∃ ms, d = .interface ms
  one : (T t).agg = false → (T t).size = 1
  eqs : (T t).eq ≠ [] → EqOK P t (T t).eq
  boo : (T t).k = .other → ∀ b, (T t).zero = [.bool b] → d = .bool
  int : (T t).k = .other → ∀ k m, (T t).zero = [.int k m] → d = .int k
  flt : (T t).k = .other → ∀ k b, (T t).zero = [.lit (.float k b)] → d = .float k
  cpx : (T t).k = .other → ∀ k a b, (T t).zero = [.lit (.complex k a b)] → d = .complex k
def TOK (P : Program) (T : Nat → Ty) : Prop := ∀ t, T t = Ty.none ∨ ∃ inf d z, TOK1 P T t inf d z
theorem add_none (b off n : Nat) : (⟨b, off, none⟩ : Addr).add n = ⟨b, off + n, none⟩ := by
  unfold Addr.add; split <;> simp_all
section
variable {P : Program} {T : Nat → Ty}
theorem run_sz {t : Nat} {n : Nat} (h : (P.info? t).map (·.size) = some n) (w : World) : (sizeOf t).run P w = .ok n w := by
  cases hi : P.info? t with
  | none => simp [hi] at h
  | some i => simp [hi] at h; simp [sizeOf, typeInfo, hi, h]
theorem run_isAgg' {t : Nat} {b : Bool} (h : aggOf P t = some b) (w : World) : (isAgg t).run P w = .ok b w := by
  unfold aggOf at h
  cases hu : P.underlying t with
  | none => simp [hu] at h
  | some d => cases d <;> simp [hu] at h <;> subst h <;> simp [isAgg, run_underlying hu]
theorem run_loadVar' {t n : Nat} {ag : Bool} (hs : (P.info? t).map (·.size) = some n) (ha : aggOf P t = some ag) {w : World} {b off : Nat} {f : Nat → Value}
    (h0 : 0 < n) (h : ∀ j, j < n → w.cell? ⟨b, off + j, none⟩ = some (f j)) :
    (loadVar t ⟨b, off, none⟩).run P w = .ok (if ag then .agg ((List.range n).map f).toArray else f 0) w := by
  have hl := run_loadCells (P := P) w ⟨b, off, none⟩ n f (fun j hj => by rw [add_none]; exact h j hj)
  have h1 : w.cell? ⟨b, off, none⟩ = some (f 0) := h 0 h0
  cases ag
  · simp [loadVar, run_isAgg' ha, h1]
  · simp [loadVar, run_isAgg' ha, run_sz hs, hl]
theorem V.int_inv {I : Imm} {β : Beta} {σ : Sig} {k : IntKind} {n : Int} {v : Value} (h : V I β σ (.int k n) v) : v = .int k n := by cases h with | data h => cases h; rfl
theorem V.bool_inv {I : Imm} {β : Beta} {σ : Sig} {b : Bool} {v : Value} (h : V I β σ (.bool b) v) : v = .bool b := by cases h with | data h => cases h; rfl
theorem V.lit_inv {I : Imm} {β : Beta} {σ : Sig} {u v : Value} (h : V I β σ (.lit u) v) : v = u := by cases h with | data h => cases h; rfl
theorem V.str_inv {I : Imm} {β : Beta} {σ : Sig} {b : ByteArray} {v : Value} (h : V I β σ (.str b) v) : v = .string b := by cases h with | data h => cases h; rfl
theorem V.nilS_inv {I : Imm} {β : Beta} {σ : Sig} {v : Value} (h : V I β σ .nilS v) : ∃ p, v = .slice p 0 0 := by cases h with | data h => cases h; exact ⟨_, rfl⟩
theorem V.agg_inv {I : Imm} {β : Beta} {σ : Sig} {xs : List IV} {v : Value} (h : V I β σ (.agg xs) v) : ∃ vs, v = .agg vs ∧ xs.length = vs.size ∧ (∀ (j : Nat) u, vs[j]? = some u → u.oneCell' = true) ∧ ∀ (j : Nat) x, xs[j]? = some x → V I β σ x (vs.getD j undef) := by
  cases h with
  | data h => cases h with | agg _ vs hl h1 h => exact ⟨vs, rfl, hl, h1, fun j x hx => .data (h j x hx)⟩
  | agg _ vs hl h1 h => exact ⟨vs, rfl, hl, h1, h⟩
theorem V.tup_inv {I : Imm} {β : Beta} {σ : Sig} {xs : List IV} {v : Value} (h : V I β σ (.tup xs) v) : ∃ vs, v = .tuple vs ∧ xs.length = vs.size ∧ ∀ (j : Nat) x, xs[j]? = some x → V I β σ x (vs.getD j undef) := by
  cases h with
  | data h => cases h with | tup _ vs hl h => exact ⟨vs, rfl, hl, fun j x hx => .data (h j x hx)⟩
  | tup _ vs hl h => exact ⟨vs, rfl, hl, h⟩
theorem V.ptr_inv {I : Imm} {β : Beta} {σ : Sig} {l d off : Nat} {v : Value} (h : V I β σ (.ptr l d off) v) : ∃ b, v = .pointer (some ⟨b, off, none⟩) ∧ β l d = some b := by
  cases h with
  | data h => cases h
  | ptr _ _ _ b h => exact ⟨b, rfl, h⟩
theorem V.fn_inv {I : Imm} {β : Beta} {σ : Sig} {f : Nat} {xs ys : List IV} {v : Value} (h : V I β σ (.fn f xs ys) v) : ∃ vs us, v = .func (.func f) vs us ∧ xs.length = vs.size ∧ ys.length = us.size ∧
    (∀ (j : Nat) x, xs[j]? = some x → V I β σ x (vs.getD j undef)) ∧ ∀ (j : Nat) x, ys[j]? = some x → V I β σ x (us.getD j undef) := by
  cases h with
  | data h => cases h with | fn _ _ _ vs us hl hk h h' => exact ⟨vs, us, rfl, hl, hk, fun j x hx => .data (h j x hx), fun j x hx => .data (h' j x hx)⟩
  | fn _ _ _ vs us hl hk h h' => exact ⟨vs, us, rfl, hl, hk, h, h'⟩
theorem V.vptr_inv {I : Imm} {β : Beta} {σ : Sig} {e n i j : Nat} {f : Nat → List IV} {v : Value} (h : V I β σ (.vptr e n f i j) v) : ∃ (b off : Nat) (g : Nat → Nat → Value), v = .pointer (some ⟨b, off + i * e + j, none⟩) ∧ i < n ∧
    (∀ i, i < n → (f i).length = e) ∧ (∀ i j, i < n → j < e → I ⟨b, off + i * e + j, none⟩ = some (g i j)) ∧ (∀ i j, i < n → j < e → (g i j).oneCell' = true) ∧ ∀ i (j : Nat) x, i < n → (f i)[j]? = some x → D I x (g i j) := by
  cases h with
  | data h => cases h with | vptr _ _ _ _ _ b off g hi hl hI h1 h => exact ⟨b, off, g, rfl, hi, hl, hI, h1, h⟩
theorem V.lst_inv {I : Imm} {β : Beta} {σ : Sig} {o : Option Nat} {e n : Nat} {f : Nat → List IV} {v : Value} (h : V I β σ (.lst o e n f) v) : (∃ p, v = .slice p 0 0 ∧ n = 0) ∨
    ∃ (b off c : Nat) (g : Nat → Nat → Value), v = .slice (some ⟨b, off, none⟩) n c ∧ n ≤ c ∧ (∀ t, o = some t → off = 0 ∧ ∃ el, σ t = some ⟨b, el, e, n, c⟩) ∧
    (∀ i, i < n → (f i).length = e) ∧ (∀ i j, i < n → j < e → I ⟨b, off + i * e + j, none⟩ = some (g i j)) ∧ (∀ i j, i < n → j < e → (g i j).oneCell' = true) ∧ ∀ i (j : Nat) x, i < n → (f i)[j]? = some x → D I x (g i j) := by
  cases h with
  | data h => cases h with
    | lstN => exact .inl ⟨_, rfl, rfl⟩
    | lst _ _ _ b off c g hc hl hI h1 h => exact .inr ⟨b, off, c, g, rfl, hc, nofun, hl, hI, h1, h⟩
  | ownN => exact .inl ⟨_, rfl, rfl⟩
  | own t _ _ _ b el c g ht hc hl hI h1 h => exact .inr ⟨b, 0, c, g, rfl, hc, fun t' ht' => (by cases ht'; exact ⟨rfl, el, ht⟩), hl, fun i j a b => by simpa using hI i j a b, h1, h⟩
end
def CV (I : Imm) (β : Beta) (σ : Sig) (xs : List IV) (vs : Array Value) : Prop :=
  xs.length = vs.size ∧ (∀ (j : Nat) u, vs[j]? = some u → u.oneCell' = true) ∧ ∀ (j : Nat) x, xs[j]? = some x → V I β σ x (vs.getD j undef)
theorem D.one {I : Imm} {x : IV} {v : Value} (h : D I x v) : (∀ xs, x ≠ .agg xs) → (∀ xs, x ≠ .tup xs) → x ≠ .dead → v.oneCell' = true := by
  cases h <;> intro h1 h2 h3 <;> first | rfl | (exact absurd rfl (h1 _)) | (exact absurd rfl (h2 _)) | (exact absurd rfl h3) | skip
  rename_i hs
  cases v <;> first | rfl | (simp [scal] at hs)
theorem V.cells {I : Imm} {β : Beta} {σ : Sig} {x : IV} {v : Value} (h : V I β σ x v) {c : List IV} (hc : cellsI x = some c) : CV I β σ c v.cells := by
  have one : ∀ (x : IV), V I β σ x v → cellsI x = some [x] → v.oneCell' = true → CV I β σ [x] v.cells := by
    intro x hx _ ho
    have hv : v.cells = #[v] := by cases v <;> first | rfl | (simp [Value.oneCell'] at ho)
    rw [hv]
    refine ⟨rfl, fun j u hu => ?_, fun j y hy => ?_⟩
    · cases j <;> simp at hu; subst hu; exact ho
    · cases j <;> simp at hy; subst hy; simpa using hx
  cases x with
  | agg xs =>
    simp [cellsI] at hc; subst hc
    obtain ⟨vs, rfl, hl, h1, h2⟩ := h.agg_inv
    exact ⟨hl, h1, h2⟩
  | tup xs => simp [cellsI] at hc
  | dead => simp [cellsI] at hc
  | _ =>
    simp [cellsI] at hc; subst hc
    refine one _ h rfl ?_
    cases h with
    | data h => exact h.one (fun _ h => by cases h) (fun _ h => by cases h) (fun h => by cases h)
    | _ => rfl
theorem CV.val {I : Imm} {β : Beta} {σ : Sig} {xs : List IV} {vs : Array Value} (h : CV I β σ xs vs) : V I β σ (.agg xs) (.agg vs) := .agg xs vs h.1 h.2.1 h.2.2
theorem part1_sound {I : Imm} {β : Beta} {σ : Sig} {ag : Bool} {off size : Nat} {c : List IV} {K : IV → Prop} (h : part1 ag off size c K) {f : Nat → Value}
    (h1 : ∀ j, j < c.length → (f j).oneCell' = true) (hV : ∀ (j : Nat) x, c[j]? = some x → V I β σ x (f j)) (hp : 0 < size) :
    ∃ v, K v ∧ (ag = true → off + size ≤ c.length) ∧ (ag = false → off < c.length) ∧ V I β σ v (if ag then .agg ((List.range size).map fun j => f (off + j)).toArray else f off) := by
  cases ag
  · simp only [part1, nthI_eq] at h
    split at h
    · rename_i v hv
      have := (List.getElem?_eq_some_iff.1 hv).1
      exact ⟨v, h, nofun, fun _ => this, by simpa using hV off v hv⟩
    · exact h.elim
  · simp only [part1, dropN_eq] at h
    split at h
    · rename_i t ht
      obtain ⟨rfl, hn⟩ := takeN_spec _ _ _ ht
      simp only [List.length_drop] at hn
      refine ⟨_, h, fun _ => (by omega), nofun, ?_⟩
      simp only [if_true]
      refine .agg _ _ (by simp; omega) (fun j u hu => ?_) (fun j x hx => ?_)
      · simp at hu
        obtain ⟨a, ha, rfl⟩ := hu
        obtain ⟨hj, rfl⟩ := List.getElem?_eq_some_iff.1 ha
        simp at hj ⊢
        exact h1 _ (by omega)
      · simp only [List.getElem?_take, List.getElem?_drop] at hx
        split at hx
        · rename_i hj
          have := hV _ _ hx
          simpa [hj] using this
        · cases hx
    · exact h.elim
end Go.Proofs.YtfoenhiohhmnlaaGreatDoor.Ix

namespace Go.Proofs.YtfoenhiohhmnlaaGreatDoor.Ix
section
variable {Γ : Env} {S : St} {a : Act} {w : World} {I : Imm} {X : Nat → Prop} {β : Beta} {σ : Nat → Sig} {K : St → Prop}
def Aft (Γ : Env) (K : St → Prop) (I : Imm) (X : Nat → Prop) (w : World) (β : Beta) (σ : Nat → Sig) : Act → World → Prop :=
  fun a' w' => ∃ S' I' β' σ', K S' ∧ Rel Γ S' a' w' I' X β' σ' ∧ Ext I X w I' w' ∧ Above β β' σ σ'
theorem ofConst_V (I : Imm) (β : Beta) (s : Sig) (v : Value) : V I β s (ofConst v) v := by
  unfold ofConst
  split
  · exact .data (.int _ _)
  · exact .data (.bool _)
  · exact .data (.str _)
  · exact .data .nilS
  · exact .data (.lit _ rfl)
  · exact .data (.lit _ rfl)
  · exact .data (.lit _ rfl)
  · exact .data (.lit _ rfl)
  · exact .data (.lit _ rfl)
  · exact .data (.dead _)
theorem evo_V (r : Rel Γ S a w I X β σ) (x : Operand) : V I β (σ 0) (evo Γ S x) (a.eval x) := by
  cases x with
  | tmp t => exact r.tm t
  | const v => exact ofConst_V _ _ _ v
  | global g => exact .data (r.mem.glo g)
  | func f => exact .data (.fn f [] [] #[] #[] rfl rfl (fun j x h => by simp at h) (fun j x h => by simp at h))
theorem evoB_V (r : Rel Γ S a w I X β σ) (x : Operand) : V I β (σ 0) (evoB Γ S x) (a.eval x) := by
  unfold evoB
  split
  · exact .data (.lit _ rfl)
  · exact evo_V r x
theorem evoB_congr {S' : St} {x : Operand} (h : evo Γ S x = evo Γ S' x) : evoB Γ S x = evoB Γ S' x := by
  unfold evoB
  split
  · rfl
  · exact h
theorem getD_set (v : Array Value) (d i : Nat) (x : Value) (hd : d < v.size) : (v.setIfInBounds d x).getD i undef = if d = i then x else v.getD i undef := by
  simp only [Array.getD_eq_getD_getElem?, Array.getElem?_setIfInBounds]
  by_cases h : d = i
  · subst h; simp [hd]
  · simp [h]
theorem blt_lt {a b : Nat} (h : Nat.blt a b = true) : a < b := by
  unfold Nat.blt at h
  exact Nat.le_of_ble_eq_true h
theorem Rel.put (r : Rel Γ S a w I X β σ) {d : Nat} {iv : IV} {v : Value} (hd : d < Γ.nt) (hv : V I β (σ 0) iv v) :
    Rel Γ ⟨(d, iv) :: S.tm, S.ce, S.up⟩ (a.put (some d) v) w I X β σ := by
  refine ⟨fun i => ?_, r.df, ?_, r.mem, r.own⟩
  · simp only [look_cons, Act.put]
    rw [getD_set _ _ _ _ (by have := r.nt; omega)]
    split
    · exact hv
    · exact r.tm i
  · simp only [Act.put, Array.size_setIfInBounds]; exact r.nt
theorem putT_sound {d : Option Nat} {iv : IV} {v : Value} (h : putT Γ S d iv K) (r : Rel Γ S a w I X β σ) (hv : V I β (σ 0) iv v) :
    ∃ S', K S' ∧ Rel Γ S' (a.put d v) w I X β σ := by
  cases d with
  | none => exact ⟨S, by simpa [putT] using h, r⟩
  | some d =>
    simp only [putT] at h
    split at h
    · rename_i hd
      exact ⟨_, h, r.put (blt_lt hd) hv⟩
    · exact h.elim
theorem put_aft {d : Option Nat} {iv : IV} {v : Value} (h : putT Γ S d iv K) (r : Rel Γ S a w I X β σ) (hv : V I β (σ 0) iv v) :
    Aft Γ K I X w β σ (a.put d v) w :=
  let ⟨S', hk, r'⟩ := putT_sound h r hv
  ⟨S', I, β, σ, hk, r', .refl _ _ _, .refl _ _⟩
def setSig (σ : Nat → Sig) (s : Sig) : Nat → Sig := fun l => match l with | 0 => s | l + 1 => σ (l + 1)
theorem tmTag_spec (t : Nat) : ∀ (l : Tms), tmTag t l = false → ∀ i, hasTag t (look l i) = false
  | [], _, i => rfl
  | (k, v) :: r, h, i => by
    simp [tmTag] at h
    rw [look_cons]
    split
    · exact h.1
    · exact tmTag_spec t r h.2 i
theorem ceTag_spec (t : Nat) : ∀ (l : Ces), ceTag t l = false → ∀ d c, lookC l d = some c → hasTagL t c = false
  | [], _, d, c, hc => by simp [lookC] at hc
  | (k, v) :: r, h, d, c, hc => by
    simp [ceTag] at h
    rw [lookC_cons] at hc
    split at hc
    · simp at hc; subst hc; exact h.1
    · exact ceTag_spec t r h.2 d c hc
theorem tmDrop_look (t : Nat) : ∀ (l : Tms) i, look (tmDrop t l) i = dropTag t (look l i)
  | [], i => rfl
  | (k, v) :: r, i => by
    simp only [tmDrop, look_cons, tmDrop_look t r i]
    split <;> rfl
theorem ceDrop_look (t : Nat) : ∀ (l : Ces) d, lookC (ceDrop t l) d = (lookC l d).map (dropTagL t)
  | [], d => rfl
  | (k, v) :: r, d => by
    simp only [ceDrop, lookC_cons, ceDrop_look t r d]
    split <;> rfl
theorem untag_sound {t : Nat} (h : untag t S K) (r : Rel Γ S a w I X β σ) :
    ∃ S', K S' ∧ Rel Γ S' a w I X β (setSig σ fun u => if u = t then none else σ 0 u) ∧ S'.up = S.up ∧ (∀ d, (lookC S'.ce d).isSome = (lookC S.ce d).isSome) := by
  have hs : ∀ u g, u ≠ t → σ 0 u = some g → (if u = t then none else σ 0 u) = some g := fun u g hu hg => by rw [if_neg hu]; exact hg
  have own : OwnR w I X β (setSig σ (fun u => if u = t then none else σ 0 u) 0) := by
    refine ⟨fun u g hu => ?_, fun u u' g g' hu hu' hb => ?_⟩
    · simp only [setSig] at hu
      split at hu
      · cases hu
      · exact r.own.row u g hu
    · simp only [setSig] at hu hu'
      split at hu
      · cases hu
      · split at hu'
        · cases hu'
        · exact r.own.inj u u' g g' hu hu' hb
  obtain ⟨tm, ce, up⟩ := S
  simp only [untag] at h
  split at h
  · refine ⟨_, h, ⟨fun i => ?_, r.df, r.nt, ⟨fun l d c hc => ?_, r.mem.inj, fun l d b hb => ?_, r.mem.im, r.mem.glo, r.mem.xb, r.mem.gz⟩, own⟩, rfl, fun d => by simp [ceDrop_look]⟩
    · simp only [tmDrop_look]; exact (r.tm i).dropTag t hs
    · cases l with
      | zero =>
        simp only [upC, ceDrop_look] at hc
        cases hl : lookC ce d with
        | none => simp [hl] at hc
        | some c0 =>
          simp [hl] at hc; subst hc
          obtain ⟨b, arr, el, h1, h2, h3, h4, h5, h6⟩ := r.mem.cell 0 d c0 hl
          refine ⟨b, arr, el, h1, h2, by simp [dropTagL_eq, h3], h4, fun j x hx => ?_, h6⟩
          rw [dropTagL_eq] at hx
          obtain ⟨y, hy, rfl⟩ := map_get hx
          exact (h5 j y hy).dropTag t hs
      | succ l => exact r.mem.cell (l + 1) d c hc
    · cases l with
      | zero =>
        obtain ⟨c, hc⟩ := r.mem.keys 0 d b hb
        exact ⟨_, by simp only [upC, ceDrop_look]; rw [show lookC ce d = some c from hc]; rfl⟩
      | succ l => exact r.mem.keys (l + 1) d b hb
  · rename_i hn
    simp at hn
    refine ⟨_, h, ⟨fun i => ?_, r.df, r.nt, ⟨fun l d c hc => ?_, r.mem.inj, r.mem.keys, r.mem.im, r.mem.glo, r.mem.xb, r.mem.gz⟩, own⟩, rfl, fun d => rfl⟩
    · exact (r.tm i).noTag t hs (tmTag_spec t tm hn.1 i)
    · cases l with
      | zero =>
        obtain ⟨b, arr, el, h1, h2, h3, h4, h5, h6⟩ := r.mem.cell 0 d c hc
        exact ⟨b, arr, el, h1, h2, h3, h4, fun j x hx => (h5 j x hx).noTag t hs (hasTagL_spec t c (ceTag_spec t ce hn.2 d c hc) j x hx), h6⟩
      | succ l => exact r.mem.cell (l + 1) d c hc
theorem Above.setSig (β : Beta) (σ : Nat → Sig) (s : Sig) : Above β β σ (setSig σ s) := ⟨fun _ => rfl, fun _ => rfl⟩
theorem heap_lt {w : World} {b : Nat} {o : Obj} (h : w.heap[b]? = some o) : b < w.heap.size := (Array.getElem?_eq_some_iff.1 h).1
theorem Ext.alloc (I : Imm) (X : Nat → Prop) (w : World) (o : Obj) (hX : ∀ b, X b → b < w.heap.size) : Ext I X w I (w.alloc o) :=
  ⟨rfl, rfl, rfl, by simp, fun b hb => heap_alloc_old w o b (hX b hb), fun _ _ h => h, fun _ _ => rfl, fun k o' hk _ => by rw [heap_alloc_old w o k (heap_lt hk)]; exact hk⟩
theorem MemR.alloc {cs : List Ces} (m : MemR Γ.gl cs w I X β σ) (o : Obj) : MemR Γ.gl cs (w.alloc o) I X β σ := by
  refine ⟨fun l d c hc => ?_, m.inj, m.keys, fun x v hx => ?_, m.glo, fun b hb => by have := m.xb b hb; simp; omega, m.gz.of fun g arr el mm hg => ⟨arr, el, mm, by rw [heap_alloc_old w o g (heap_lt hg)]; exact hg, rfl⟩⟩
  · obtain ⟨b, arr, el, h1, h2, h3⟩ := m.cell l d c hc
    exact ⟨b, arr, el, h1, by rw [heap_alloc_old w o b (heap_lt h2)]; exact h2, h3⟩
  · have := m.im x v hx
    rw [hcell_of_block (heap_alloc_old w o x.block (hcell_lt this))]
    exact this
theorem OwnR.alloc {s : Sig} (m : OwnR w I X β s) (o : Obj) : OwnR (w.alloc o) I X β s := by
  refine ⟨fun t g hg => ?_, m.inj⟩
  obtain ⟨cur, h1, h2⟩ := m.row t g hg
  exact ⟨cur, by rw [heap_alloc_old w o g.b (heap_lt h1)]; exact h1, h2⟩
theorem Rel.alloc (r : Rel Γ S a w I X β σ) (o : Obj) : Rel Γ S a (w.alloc o) I X β σ := ⟨r.tm, r.df.ext (.alloc I X w o r.mem.xb), r.nt, r.mem.alloc o, r.own.alloc o⟩
theorem mentL_get {c : Nat} : ∀ {xs : List IV}, mentL c xs = false → ∀ (j : Nat) x, xs[j]? = some x → ment c x = false
  | [], _, j, x, h => by simp at h
  | y :: r, h, j, x, hx => by
    simp [mentL] at h
    cases j with
    | zero => simp at hx; subst hx; exact h.1
    | succ j => exact mentL_get h.2 j x (by simpa using hx)
theorem V.nomen {I I2 : Imm} {β β' : Beta} {s : Sig} {c : Nat} (hI : ∀ a v, I a = some v → I2 a = some v) (hb : ∀ l d b, β l d = some b → (l = 0 → d ≠ c) → β' l d = some b) {x : IV} {v : Value} (h : V I β s x v) : ment c x = false → V I2 β' s x v := by
  induction h with
  | data h => exact fun _ => .data (h.mono hI)
  | ptr l d off b h => exact fun hc => .ptr l d off b (hb l d b h (fun e => by subst e; simp only [ment] at hc; exact beq_false hc))
  | ownN t e f => exact fun _ => .ownN t e f
  | own t e n f b el c g ht hc hl hi h1 h => exact fun _ => .own t e n f b el c g ht hc hl (fun i j h h' => hI _ _ (hi i j h h')) h1 (fun i j x a b => (h i j x a b).mono hI)
  | raw t e n b el ht => exact fun _ => .raw t e n b el ht
  | row d e n b k h hk => exact fun hc => .row d e n b k (hb 0 d b h (fun _ => by simp only [ment] at hc; exact beq_false hc)) hk
  | agg xs vs hl h1 _ ih => exact fun hc => .agg xs vs hl h1 fun j x hx => ih j x hx (mentL_get (by simpa [ment] using hc) j x hx)
  | tup xs vs hl _ ih => exact fun hc => .tup xs vs hl fun j x hx => ih j x hx (mentL_get (by simpa [ment] using hc) j x hx)
  | mp ks xs b vs hm hl _ ih => exact fun hc => .mp ks xs b vs (hm.mono hI) hl fun j x hx => ih j x hx (mentL_get (by simpa [ment] using hc) j x hx)
  | fn f xs ys vs us hl hk _ _ ih ih' =>
    intro hc
    simp [ment] at hc
    exact .fn f xs ys vs us hl hk (fun j x hx => ih j x hx (mentL_get hc.1 j x hx)) (fun j x hx => ih' j x hx (mentL_get hc.2 j x hx))
theorem V.kill {I I2 : Imm} {β β' : Beta} {s : Sig} {c : Nat} (hI : ∀ a v, I a = some v → I2 a = some v) (hb : ∀ l d b, β l d = some b → (l = 0 → d ≠ c) → β' l d = some b) {x : IV} {v : Value} (h : V I β s x v) : V I2 β' s (kill c x) v := by
  unfold Ix.kill
  cases hm : ment c x with
  | true => exact .data (.dead _)
  | false => exact h.nomen hI hb hm
theorem killT_look (c : Nat) : ∀ (l : Tms) i, look (killT c l) i = kill c (look l i)
  | [], i => by simp [killT, look, kill, ment]
  | (k, v) :: r, i => by
    simp only [killT, look_cons, killT_look c r]
    split <;> rfl
theorem killL_eq (c : Nat) : ∀ l, killL c l = l.map (kill c)
  | [] => rfl
  | x :: r => by simp only [killL, List.map_cons, killL_eq c r]
theorem killC_look (c : Nat) : ∀ (l : Ces) d, lookC (killC c l) d = if d = c then none else (lookC l d).map (killL c)
  | [], d => by simp [killC, lookC]
  | (k, v) :: r, d => by
    have ih := killC_look c r d
    by_cases hk : k = c
    · subst hk
      have : Nat.beq k k = true := by simp
      simp only [killC, this, lookC_cons, ih]
      by_cases hd : d = k
      · simp [hd]
      · simp [hd, Ne.symm hd]
    · have : Nat.beq k c = false := by rw [Bool.eq_false_iff]; intro e; exact hk (Nat.eq_of_beq_eq_true e)
      simp only [killC, this, lookC_cons, ih]
      by_cases hd : k = d
      · subst hd; simp [hk]
      · simp [hd]
def unB (β : Beta) (d : Nat) : Beta := fun l d' => if l = 0 ∧ d' = d then none else β l d'
theorem unB_sub {β : Beta} {d l d' b : Nat} (h : unB β d l d' = some b) : β l d' = some b ∧ (l = 0 → d' ≠ d) := by
  unfold unB at h
  split at h
  · cases h
  · rename_i hn; exact ⟨h, fun e1 e2 => hn ⟨e1, e2⟩⟩
theorem unB_mk {β : Beta} {d l d' b : Nat} (h : β l d' = some b) (hk : l = 0 → d' ≠ d) : unB β d l d' = some b := by
  unfold unB
  rw [if_neg]; exact h
  rintro ⟨e1, e2⟩; exact hk e1 e2
theorem unB_above (β : Beta) (d : Nat) (σ : Nat → Sig) : Above β (unB β d) σ σ := ⟨fun l => by
  funext d'
  show (if _ then _ else _) = _
  rw [if_neg (by omega)], fun _ => rfl⟩
theorem forget_rel {tm : Tms} {ce : Ces} {up : List Ces} (d : Nat) (r : Rel Γ ⟨tm, ce, up⟩ a w I X β σ) : Rel Γ ⟨killT d tm, killC d ce, up⟩ a w I X (unB β d) σ := by
  have hmk : ∀ l d' b0, β l d' = some b0 → (l = 0 → d' ≠ d) → unB β d l d' = some b0 := fun _ _ _ h hk => unB_mk h hk
  refine ⟨fun i => ?_, r.df, r.nt, ⟨fun l d' c' hc => ?_, fun l d1 l' d2 b0 k1 k2 => r.mem.inj _ _ _ _ _ (unB_sub k1).1 (unB_sub k2).1, fun l d' b0 hb0 => ?_, r.mem.im, r.mem.glo, r.mem.xb, r.mem.gz⟩, ⟨fun t g hg => ?_, r.own.inj⟩⟩
  · rw [killT_look]; exact (r.tm i).kill (fun _ _ h => h) hmk
  · cases l with
    | zero =>
      simp only [upC, killC_look] at hc
      split at hc
      · cases hc
      · rename_i hdc
        simp only [Option.map_eq_some_iff] at hc
        obtain ⟨y, hy, rfl⟩ := hc
        obtain ⟨b0, arr0, el0, k1, k2, k3, k4, k5, k6, k7⟩ := r.mem.cell 0 d' y hy
        refine ⟨b0, arr0, el0, hmk 0 d' b0 k1 fun _ => hdc, k2, by simp [killL_eq, k3], k4, fun j z hz => ?_, k6, k7⟩
        rw [killL_eq] at hz
        obtain ⟨z0, hz0, rfl⟩ := map_get hz
        exact (k5 j z0 hz0).kill (fun _ _ h => h) fun l' d1 b' hb' hk => hmk (0 + l') d1 b' hb' fun e => hk (by omega)
    | succ l =>
      obtain ⟨b0, arr0, el0, k1, k2, k3, k4, k5, k6, k7⟩ := r.mem.cell (l + 1) d' c' hc
      exact ⟨b0, arr0, el0, hmk _ d' b0 k1 fun e => by omega, k2, k3, k4, fun j z hz => (k5 j z hz).mono (fun _ _ h => h) (fun l' d1 b' hb' => hmk (l + 1 + l') d1 b' hb' (fun e => by omega)) (fun _ _ h => h), k6, k7⟩
  · obtain ⟨g1, g2⟩ := unB_sub hb0
    obtain ⟨y, hy⟩ := r.mem.keys l d' b0 g1
    cases l with
    | zero =>
      simp only [upC] at hy
      simp only [upC, killC_look, if_neg (g2 rfl), hy]
      exact ⟨_, rfl⟩
    | succ l => exact ⟨y, hy⟩
  · obtain ⟨cur, k1, k2, k3, k4, k5, k6, k7⟩ := r.own.row t g hg
    exact ⟨cur, k1, k2, k3, k4, k5, k6, fun l d' hb => k7 l d' (unB_sub hb).1⟩
theorem CV.kill {s : Sig} {c : List IV} {vs : Array Value} (d : Nat) (h : CV I β s c vs) : CV I (unB β d) s (killL d c) vs := by
  refine ⟨by rw [killL_eq, List.length_map]; exact h.1, h.2.1, fun j z hz => ?_⟩
  rw [killL_eq] at hz
  obtain ⟨z0, hz0, rfl⟩ := map_get hz
  exact (h.2.2 j z0 hz0).kill (fun _ _ h => h) fun l d1 b hb hk => unB_mk hb hk
theorem Aft.unB {d : Nat} {a' : Act} {w' : World} {K : St → Prop} (h : Aft Γ K I X w (unB β d) σ a' w') : Aft Γ K I X w β σ a' w' := by
  obtain ⟨S', I', β', σ', h1, h2, h3, h4⟩ := h
  exact ⟨S', I', β', σ', h1, h2, h3, (unB_above β d σ).trans h4⟩
theorem newC0_sound {d : Nat} {c : List IV} {vs : Array Value} {el : Nat} (h : newC0 Γ S d c K) (r : Rel Γ S a w I X β σ) (hc : CV I β (σ 0) c vs) :
    Aft Γ K I X w β σ (a.put (some d) (.pointer (some ⟨w.heap.size, 0, none⟩))) (w.alloc (.cells vs el)) := by
  have hX := r.mem.xb
  obtain ⟨tm, ce, up⟩ := S
  simp only [newC0] at h
  split at h
  · exact h.elim
  rename_i hk
  split at h
  case h_2 => exact h.elim
  rename_i hd
  have hno := hasKey_spec ce d hk
  have hb0 : β 0 d = none := by
    cases hb : β 0 d with
    | none => rfl
    | some b => obtain ⟨c, hc⟩ := r.mem.keys 0 d b hb; simp [upC, hno] at hc
  let β' : Beta := fun l d' => if l = 0 ∧ d' = d then some w.heap.size else β l d'
  have hle : ∀ l d' b, β l d' = some b → β' l d' = some b := by
    intro l d' b hb
    show (if l = 0 ∧ d' = d then _ else _) = _
    rw [if_neg]; exact hb
    rintro ⟨rfl, rfl⟩; rw [hb0] at hb; cases hb
  have hnew : ∀ l d' b, β l d' = some b → b < w.heap.size := by
    intro l d' b hb
    obtain ⟨c, hc⟩ := r.mem.keys l d' b hb
    obtain ⟨b', arr, el, h1, h2, _⟩ := r.mem.cell l d' c hc
    rw [hb] at h1; cases h1; exact heap_lt h2
  have hmem := r.mem.alloc (.cells vs el)
  have hrel : Rel Γ ⟨(d, .ptr 0 d 0) :: tm, (d, c) :: ce, up⟩ (a.put (some d) (.pointer (some ⟨w.heap.size, 0, none⟩))) (w.alloc (.cells vs el)) I X β' σ := by
    have base : Rel Γ ⟨tm, (d, c) :: ce, up⟩ a (w.alloc (.cells vs el)) I X β' σ := by
      refine ⟨fun i => (r.tm i).mono (fun _ _ h => h) hle (fun _ _ h => h), r.df.ext (.alloc I X w _ hX), r.nt, ⟨fun l d' c' hc' => ?_, fun l d' l' d'' b hb hb' => ?_, fun l d' b hb => ?_, hmem.im, hmem.glo, hmem.xb, hmem.gz⟩, ?_⟩
      · by_cases hld : l = 0 ∧ d' = d
        · obtain ⟨rfl, rfl⟩ := hld
          simp [upC, lookC_cons] at hc'; subst hc'
          refine ⟨w.heap.size, vs, el, by show (if _ then _ else _) = _; simp, heap_alloc_new w _, hc.1.symm, hc.2.1, fun j x hx => ?_, fun j => ?_, fun hx => Nat.lt_irrefl _ (hX _ hx)⟩
          · have := (hc.2.2 j x hx).mono (fun _ _ h => h) hle (fun _ _ h => h)
            simpa using this
          · cases hI : I ⟨w.heap.size, j, none⟩ with
            | none => rfl
            | some v => exact absurd (hcell_lt (r.mem.im _ _ hI)) (Nat.lt_irrefl _)
        · have hc'' : lookC (upC (ce :: up) l) d' = some c' := by
            cases l with
            | zero => simp only [upC, lookC_cons] at hc' ⊢; rw [if_neg (fun e => hld ⟨rfl, e.symm⟩)] at hc'; exact hc'
            | succ l => exact hc'
          obtain ⟨b, arr, el', h1, h2, h3, h4, h5, h6⟩ := hmem.cell l d' c' hc''
          refine ⟨b, arr, el', hle _ _ _ h1, h2, h3, h4, fun j x hx => (h5 j x hx).mono (fun _ _ h => h) (fun l' d0 b0 h => hle _ _ _ h) (fun _ _ h => h), h6⟩
      · have hb : (if l = 0 ∧ d' = d then some w.heap.size else β l d') = some b := hb
        have hb' : (if l' = 0 ∧ d'' = d then some w.heap.size else β l' d'') = some b := hb'
        split at hb <;> split at hb'
        · rename_i h1 h2; exact ⟨by omega, by omega⟩
        · cases hb; exact absurd (hnew _ _ _ hb') (Nat.lt_irrefl _)
        · cases hb'; exact absurd (hnew _ _ _ hb) (Nat.lt_irrefl _)
        · exact r.mem.inj _ _ _ _ _ hb hb'
      · have hb : (if l = 0 ∧ d' = d then some w.heap.size else β l d') = some b := hb
        split at hb
        · rename_i h; obtain ⟨rfl, rfl⟩ := h; exact ⟨c, by simp [upC, lookC_cons]⟩
        · obtain ⟨c', hc'⟩ := r.mem.keys l d' b hb
          cases l with
          | zero => simp only [upC] at hc' ⊢; rw [lookC_cons]; split <;> exact ⟨_, by first | rfl | exact hc'⟩
          | succ l => exact ⟨c', hc'⟩
      · refine ⟨fun t g hg => ?_, r.own.inj⟩
        obtain ⟨cur, h1, h2, h3, h4, h5, h6, h7⟩ := (r.own.alloc (.cells vs el)).row t g hg
        refine ⟨cur, h1, h2, h3, h4, h5, h6, fun l d' hb => ?_⟩
        have hb : (if l = 0 ∧ d' = d then some w.heap.size else β l d') = some g.b := hb
        split at hb
        · obtain ⟨cur', h1', _⟩ := r.own.row t g hg
          have := heap_lt h1'
          simp at hb; omega
        · exact h7 l d' hb
    exact base.put (blt_lt hd) (.ptr 0 d 0 _ (by show (if _ then _ else _) = _; simp))
  refine ⟨_, I, β', σ, h, hrel, .alloc _ _ _ _ hX, ⟨fun l => ?_, fun _ => rfl⟩⟩
  funext d'
  show (if l + 1 = 0 ∧ d' = d then _ else _) = _
  rw [if_neg (by omega)]
theorem newC_sound {d : Nat} {c : List IV} {vs : Array Value} {el : Nat} (h : newC Γ S d c K) (r : Rel Γ S a w I X β σ) (hc : CV I β (σ 0) c vs) :
    Aft Γ K I X w β σ (a.put (some d) (.pointer (some ⟨w.heap.size, 0, none⟩))) (w.alloc (.cells vs el)) := by
  obtain ⟨tm, ce, up⟩ := S
  simp only [newC] at h
  split at h
  · rw [fps_eq, fcs_eq] at h
    exact (newC0_sound h (forget_rel d r) (hc.kill d)).unB
  · exact newC0_sound h r hc
theorem I_none {l d b : Nat} {c : List IV} {cs : List Ces} (m : MemR Γ.gl cs w I X β σ) (hc : lookC (upC cs l) d = some c) (hb : β l d = some b) {x : Addr} {v : Value} (hx : I x = some v) :
    x.block ≠ b := by
  have h1 := m.im x v hx
  obtain ⟨b', arr, el, h2, hh, _, _, _, h3, _⟩ := m.cell l d c hc
  rw [hb] at h2; cases h2
  intro e
  obtain ⟨xb, xo, xs⟩ := x
  simp only at e; subst e
  have hs := (hcell_cells h1 hh).1
  simp only at hs; subst hs
  rw [h3 xo] at hx; cases hx
theorem MemR.store {cs cs' : List Ces} (m : MemR Γ.gl cs w I X β σ) {l d b el : Nat} {c c' : List IV} {arr arr' : Array Value} (hc : lookC (upC cs l) d = some c)
    (hcs : ∀ l' d', lookC (upC cs' l') d' = if l' = l ∧ d' = d then some c' else lookC (upC cs l') d') (hb : β l d = some b) (hh : w.heap[b]? = some (.cells arr el (0, 0)))
    (hs : arr'.size = c'.length) (h1 : ∀ (j : Nat) u, arr'[j]? = some u → u.oneCell' = true) (hV : ∀ (j : Nat) x, c'[j]? = some x → V I (fun l' => β (l + l')) (σ l) x (arr'.getD j undef)) :
    MemR Γ.gl cs' (w.setRow b arr') I X β σ := by
  refine ⟨fun l' d' c0 hc0 => ?_, m.inj, fun l' d' b' hb' => ?_, fun x v hx => ?_, m.glo, fun b hb => by have := m.xb b hb; simpa using this, m.gz.one m.glo b (by obtain ⟨b0, _, _, g1, _, _, _, _, g6, _⟩ := m.cell _ _ _ hc; rw [hb] at g1; cases g1; exact g6) (fun k hk => setRow_other w b k arr' hk)⟩
  · rw [hcs] at hc0
    by_cases hld : l' = l ∧ d' = d
    · obtain ⟨rfl, rfl⟩ := hld
      simp at hc0; subst hc0
      obtain ⟨b', arr0, el0, g1, g2, g3, g4, g5, g6⟩ := m.cell _ _ _ hc
      rw [hb] at g1; cases g1
      exact ⟨b, arr', el, hb, setRow_heap w b arr arr' el _ hh, hs, h1, hV, g6⟩
    · rw [if_neg hld] at hc0
      obtain ⟨b', arr0, el0, g1, g2, g3⟩ := m.cell _ _ _ hc0
      refine ⟨b', arr0, el0, g1, ?_, g3⟩
      rw [setRow_other w b b' arr' (fun e => hld (by subst e; exact m.inj _ _ _ _ _ g1 hb))]
      exact g2
  · rw [hcs]
    split
    · exact ⟨_, rfl⟩
    · exact m.keys l' d' b' hb'
  · have hne := I_none m hc hb hx
    rw [hcell_of_block (w := w) (setRow_other w b x.block arr' hne)]
    exact m.im x v hx
theorem setRow_fix (w : World) (b : Nat) (arr : Array Value) (k : Nat) (o : Obj) (hk : w.heap[k]? = some o) (ho : fixed o = true) : (w.setRow b arr).heap[k]? = some o := by
  by_cases e : k = b
  · subst e
    unfold World.setRow
    simp only [Array.getElem?_modify, if_true, hk, Option.map_some]
    cases o <;> first | rfl | (cases ho)
  · rw [setRow_other w b k arr e]; exact hk
theorem Ext.setRow {b : Nat} (hX : ¬ X b) (arr : Array Value) : Ext I X w I (w.setRow b arr) :=
  ⟨rfl, rfl, rfl, by simp, fun k hk => setRow_other w b k arr (fun e => hX (e ▸ hk)), fun _ _ h => h, fun _ _ => rfl, fun k o hk ho => setRow_fix w b arr k o hk ho⟩
theorem OwnR.setRow {s : Sig} (m : OwnR w I X β s) {l d b : Nat} (hb : β l d = some b) (arr : Array Value) : OwnR (w.setRow b arr) I X β s := by
  refine ⟨fun t g hg => ?_, m.inj⟩
  obtain ⟨cur, h1, h2, h3, h4, h5, h6, h7⟩ := m.row t g hg
  exact ⟨cur, by rw [setRow_other w b g.b arr (fun e => h7 l d (e ▸ hb))]; exact h1, h2, h3, h4, h5, h6, h7⟩
theorem lay_vals {β0 : Beta} {s : Sig} {c x c' : List IV} {arr vs : Array Value} {off : Nat} (hl : lay c off x = some c') (hsz : arr.size = c.length)
    (h1 : ∀ (j : Nat) (u : Value), arr[j]? = some u → u.oneCell' = true) (hV : ∀ (j : Nat) y, c[j]? = some y → V I β0 s y (arr.getD j undef)) (hx : CV I β0 s x vs) :
    CV I β0 s c' (arr.toList.take off ++ vs.toList ++ arr.toList.drop (off + vs.toList.length)).toArray ∧ off + vs.toList.length ≤ arr.size := by
  obtain ⟨g1, g2, g3⟩ := lay_spec c off x c' hl
  obtain ⟨e1, e2, e3⟩ := hx
  have hlen : vs.toList.length = x.length := by simp [e1]
  have key : ∀ j, (arr.toList.take off ++ vs.toList ++ arr.toList.drop (off + vs.toList.length))[j]? = if off ≤ j ∧ j < off + x.length then vs[j - off]? else arr[j]? := by
    intro j
    have ht : (arr.toList.take off).length = off := by simp; omega
    by_cases hj : j < off
    · rw [List.append_assoc, List.getElem?_append_left (by omega), List.getElem?_take, if_pos hj, if_neg (by omega)]; simp
    · by_cases hj2 : j < off + x.length
      · rw [List.append_assoc, List.getElem?_append_right (by omega), ht, List.getElem?_append_left (by omega), if_pos (by omega)]; simp
      · rw [List.getElem?_append_right (by simp; omega), if_neg (by omega), List.getElem?_drop]
        simp only [List.length_append, ht, hlen, Array.getElem?_toList]
        congr 1; omega
  refine ⟨⟨by simp; omega, fun j u hu => ?_, fun j y hy => ?_⟩, by omega⟩
  · rw [List.getElem?_toArray, key] at hu
    split at hu
    · exact e2 _ _ hu
    · exact h1 _ _ hu
  · rw [g3] at hy
    simp only [Array.getD_eq_getD_getElem?, List.getElem?_toArray, key] at hV e3 ⊢
    split at hy
    · rename_i h; rw [if_pos h]; exact e3 _ _ hy
    · rename_i h; rw [if_neg h]; exact hV _ _ hy
theorem cellsK_spec {v : IV} {n : Nat} {K : List IV → Prop} (h : cellsK v n K) : ∃ c, cellsI v = some c ∧ c.length = n ∧ K c := by
  unfold cellsK at h
  split at h
  · rename_i c hc
    split at h
    · rename_i hn; exact ⟨c, hc, (beq_iff _ _).1 hn, h⟩
    · exact h.elim
  · exact h.elim
theorem run_storeAt {P : Program} {t n : Nat} (hs : (P.info? t).map (·.size) = some n) {w : World} {b off el : Nat} {arr : Array Value} {v : Value}
    (hh : w.heap[b]? = some (.cells arr el (0, 0))) (hn : v.cells.size = n) (h1 : ∀ (j : Nat) (u : Value), v.cells[j]? = some u → u.oneCell' = true) (hl : off + v.cells.toList.length ≤ arr.size) :
    (Instr.storeAt t (.pointer (some ⟨b, off, none⟩)) v).run P w = .ok () (w.setRow b (arr.toList.take off ++ v.cells.toList ++ arr.toList.drop (off + v.cells.toList.length)).toArray) := by
  have hst := run_storeCells_at P b off el v.cells.toList 0 arr w hh (by simpa using hl) (fun u hu => by
    obtain ⟨j, hj⟩ := List.getElem?_of_mem hu
    exact h1 j u (by simpa using hj))
  simp only [Nat.add_zero] at hst
  simp [Instr.storeAt, Instr.sureAddr, storeVar, run_sz hs, hn, hst]
theorem storeI_sound {t : Nat} {p v : IV} {vp vv : Value} (hs : (Γ.P.info? t).map (·.size) = some (Γ.T t).size) (h : storeI S (Γ.T t).size p v K)
    (r : Rel Γ S a w I X β σ) (hp : V I β (σ 0) p vp) (hv : V I β (σ 0) v vv) :
    ∃ w', (Instr.storeAt t vp vv).run Γ.P w = .ok () w' ∧ Aft Γ K I X w β σ a w' := by
  obtain ⟨tm, ce, up⟩ := S
  cases p with
  | ptr l d off =>
    obtain ⟨b, rfl, hb⟩ := hp.ptr_inv
    cases l with
    | zero =>
      simp only [storeI] at h
      split at h
      · rename_i c hc
        obtain ⟨x, hx, hn, h⟩ := cellsK_spec h
        split at h
        · rename_i c' hl
          obtain ⟨b', arr, el, g1, g2, g3, g4, g5, g6, g7⟩ := r.mem.cell 0 d c hc
          rw [hb] at g1; cases g1
          simp only [Nat.zero_add] at g5
          have hcv := hv.cells hx
          obtain ⟨k1, k2⟩ := lay_vals hl g3 g4 g5 hcv
          refine ⟨_, run_storeAt hs g2 (by rw [← hcv.1, hn]) hcv.2.1 k2, _, I, β, σ, h, ⟨r.tm, r.df.ext (I := I) (.setRow g7 _), r.nt, ?_, r.own.setRow hb _⟩, .setRow g7 _, .refl _ _⟩
          refine MemR.store (l := 0) (d := d) (c := c) r.mem (show lookC (upC (ce :: up) 0) d = some c from hc) (fun l' d' => ?_) hb g2 k1.1.symm k1.2.1 (by simpa using k1.2.2)
          cases l' with
          | zero => simp only [upC, lookC_putC, show lookC ce d = some c from hc]; by_cases e : d = d' <;> simp [e, eq_comm]
          | succ l' => simp [upC]
        · exact h.elim
      · exact h.elim
    | succ l =>
      simp only [storeI] at h
      split at h
      · rename_i c y hc hy
        obtain ⟨x, hx, hn, h⟩ := cellsK_spec h
        split at h
        · rename_i c' hl
          obtain ⟨b', arr, el, g1, g2, g3, g4, g5, g6, g7⟩ := r.mem.cell (l + 1) d c hc
          rw [hb] at g1; cases g1
          have hv' : V I (fun l' => β (l + 1 + l')) (σ (l + 1)) y vv := hv.lower (l + 1) y hy
          have hcv := hv'.cells hx
          obtain ⟨k1, k2⟩ := lay_vals hl g3 g4 g5 hcv
          refine ⟨_, run_storeAt hs g2 (by rw [← hcv.1, hn]) hcv.2.1 k2, _, I, β, σ, h, ⟨r.tm, r.df.ext (I := I) (.setRow g7 _), r.nt, ?_, r.own.setRow hb _⟩, .setRow g7 _, .refl _ _⟩
          refine MemR.store (l := l + 1) (d := d) (c := c) r.mem (show lookC (upC (ce :: up) (l + 1)) d = some c from hc) (fun l' d' => ?_) hb g2 k1.1.symm k1.2.1 k1.2.2
          cases l' with
          | zero => simp [upC]
          | succ l' =>
            simp only [upC, upC_putUp]
            by_cases e : l' = l
            · subst e; simp only [if_true, lookC_putC, show lookC (upC up l') d = some c from hc]; by_cases e : d = d' <;> simp [e, eq_comm]
            · simp [e]
        · exact h.elim
      · exact h.elim
  | _ => simp [storeI] at h
theorem loadI_sound {t : Nat} {p : IV} {vp : Value} {K : IV → Prop} (hs : (Γ.P.info? t).map (·.size) = some (Γ.T t).size) (ha : aggOf Γ.P t = some (Γ.T t).agg) (h0 : 0 < (Γ.T t).size)
    (h1 : (Γ.T t).agg = false → (Γ.T t).size = 1) (h : loadI S (Γ.T t) p K) (r : Rel Γ S a w I X β σ) (hp : V I β (σ 0) p vp) :
    ∃ v u, K v ∧ V I β (σ 0) v u ∧ (Instr.loadAt t vp).run Γ.P w = .ok u w := by
  have fin : ∀ (b off : Nat) (f : Nat → Value), (∀ j, j < (Γ.T t).size → w.cell? ⟨b, off + j, none⟩ = some (f j)) →
      (Instr.loadAt t (.pointer (some ⟨b, off, none⟩))).run Γ.P w = .ok (if (Γ.T t).agg then .agg ((List.range (Γ.T t).size).map f).toArray else f 0) w := by
    intro b off f hf
    simp [Instr.loadAt, Instr.sureAddr, run_loadVar' hs ha h0 hf]
  have bound : ∀ (off len : Nat), ((Γ.T t).agg = true → off + (Γ.T t).size ≤ len) → ((Γ.T t).agg = false → off < len) → off + (Γ.T t).size ≤ len := by
    intro off len g1 g2
    cases hag : (Γ.T t).agg
    · have := h1 hag; have := g2 hag; omega
    · exact g1 hag
  cases p with
  | ptr l d off =>
    obtain ⟨b, rfl, hb⟩ := hp.ptr_inv
    cases l with
    | zero =>
      simp only [loadI] at h
      split at h
      · rename_i c hc
        obtain ⟨b', arr, el, g1, g2, g3, g4, g5, g6, g7⟩ := r.mem.cell 0 d c hc
        rw [hb] at g1; cases g1
        simp only [Nat.zero_add] at g5
        have hone : ∀ j, j < c.length → (arr.getD j undef).oneCell' = true := by
          intro j hj
          have hj' : j < arr.size := by omega
          exact g4 j _ (by simp [Array.getD_eq_getD_getElem?, hj'])
        obtain ⟨v, hk, k1, k2, k3⟩ := part1_sound h hone g5 h0
        have hbd := bound off c.length k1 k2
        refine ⟨v, _, hk, k3, ?_⟩
        rw [fin b off (fun j => arr.getD (off + j) undef) (fun j hj => by rw [cell_of_row w b _ arr el _ g2]; have : off + j < arr.size := by omega
                                                                          simp [this])]
        simp
      · exact h.elim
    | succ l =>
      simp only [loadI] at h
      split at h
      · rename_i c hc
        obtain ⟨b', arr, el, g1, g2, g3, g4, g5, g6, g7⟩ := r.mem.cell (l + 1) d c hc
        rw [hb] at g1; cases g1
        have hone : ∀ j, j < c.length → (arr.getD j undef).oneCell' = true := by
          intro j hj
          have hj' : j < arr.size := by omega
          exact g4 j _ (by simp [Array.getD_eq_getD_getElem?, hj'])
        obtain ⟨v, hk, k1, k2, k3⟩ := part1_sound h hone g5 h0
        have hbd := bound off c.length k1 k2
        refine ⟨_, _, hk, k3.lift (l + 1), ?_⟩
        rw [fin b off (fun j => arr.getD (off + j) undef) (fun j hj => by rw [cell_of_row w b _ arr el _ g2]; have : off + j < arr.size := by omega
                                                                          simp [this])]
        simp
      · exact h.elim
  | vptr e n f i j =>
    obtain ⟨b, off, g, rfl, hi, hl, hI, hone, hD⟩ := hp.vptr_inv
    simp only [loadI] at h
    obtain ⟨v, hk, k1, k2, k3⟩ := part1_sound h (f := g i) (fun j hj => hone i j hi (by rw [hl i hi] at hj; exact hj)) (fun j x hx => .data (hD i j x hi hx)) h0
    have hbd := bound j _ k1 k2
    rw [hl i hi] at hbd
    refine ⟨v, _, hk, k3, ?_⟩
    rw [fin b (off + i * e + j) (fun j' => g i (j + j')) (fun j' hj' => by have := r.mem.im _ _ (hI i (j + j') hi (by omega)); rw [hcell_none] at this; rwa [← Nat.add_assoc] at this)]
    simp
  | _ => simp [loadI] at h
end
end Go.Proofs.YtfoenhiohhmnlaaGreatDoor.Ix

namespace Go.Proofs.YtfoenhiohhmnlaaGreatDoor.Ix
set_option linter.unusedVariables false
section
variable {Γ : Env} {S : St} {a : Act} {w : World} {I : Imm} {X : Nat → Prop} {β : Beta} {σ : Nat → Sig} {K : St → Prop}
theorem wp_val {P : Program} {o : Oper} {next : Act → World → Prop} {Q : Exit → Act → World → Prop} {v : Value} {w' : World}
    (h : (execOp a.eval o).run P w = .ok (.value v) w') (hn : next (a.put o.dst v) w') : o.wp P a w next Q := by
  unfold Oper.wp; rw [h]; exact hn
theorem wp_skp {P : Program} {o : Oper} {next : Act → World → Prop} {Q : Exit → Act → World → Prop} {w' : World}
    (h : (execOp a.eval o).run P w = .ok .skip w') (hn : next (a.put o.dst undef) w') : o.wp P a w next Q := by
  unfold Oper.wp; rw [h]; exact hn
theorem eqIV_val {s : Sig} {k : LK} {x y : IV} {vx vy : Value} {b : Bool} (h : eqIV k x y = some b) (hx : V I β s x vx) (hy : V I β s y vy) : eqVal k vx vy = some b := by
  unfold eqIV at h
  split at h
  · rename_i k a k' b
    have := hx.int_inv; have := hy.int_inv; subst vx vy
    split at h
    · rename_i hk; simp at hk; subst hk; simpa [eqVal] using h
    · cases h
  · have := hx.bool_inv; have := hy.bool_inv; subst vx vy; simpa [eqVal] using h
  · have := hx.str_inv; have := hy.str_inv; subst vx vy; simpa [eqVal] using h
  · have := hx.lit_inv; have := hy.lit_inv; subst vx vy
    split at h
    · rename_i hk; simp at hk; subst hk; simpa [eqVal] using h
    · cases h
  · have := hx.lit_inv; have := hy.lit_inv; subst vx vy
    split at h
    · rename_i hk; simp at hk; subst hk; simpa [eqVal] using h
    · cases h
  · cases h
theorem eqAll_vals {s : Sig} : ∀ {ks : List LK} {xs ys : List IV} {vs us : List Value} {b : Bool}, eqAll ks xs ys = some b → xs.length = vs.length → ys.length = us.length →
    (∀ (j : Nat) x, xs[j]? = some x → ∃ v, vs[j]? = some v ∧ V I β s x v) → (∀ (j : Nat) x, ys[j]? = some x → ∃ v, us[j]? = some v ∧ V I β s x v) → eqVals ks vs us = some b
  | [], [], [], [], [], b, h, _, _, _, _ => by simpa [eqAll, eqVals] using h
  | [], [], _ :: _, _, _, b, h, _, _, _, _ => by simp [eqAll] at h
  | [], _ :: _, _, _, _, b, h, _, _, _, _ => by simp [eqAll] at h
  | _ :: _, [], _, _, _, b, h, _, _, _, _ => by simp [eqAll] at h
  | _ :: _, _ :: _, [], _, _, b, h, _, _, _, _ => by simp [eqAll] at h
  | k :: ks, x :: xs, y :: ys, v :: vs, u :: us, b, h, hl, hk, hx, hy => by
    obtain ⟨v', e1, hv⟩ := hx 0 x (by simp)
    obtain ⟨u', e2, hu⟩ := hy 0 y (by simp)
    simp at e1 e2; subst e1 e2
    simp only [eqAll] at h
    simp only [eqVals]
    cases h1 : eqIV k x y with
    | none => simp [h1, andO] at h
    | some a =>
      cases h2 : eqAll ks xs ys with
      | none => simp [h1, h2, andO] at h
      | some c =>
        rw [eqIV_val h1 hv hu, eqAll_vals h2 (by simpa using hl) (by simpa using hk) (fun j z hz => by simpa using hx (j + 1) z (by simpa using hz))
          (fun j z hz => by simpa using hy (j + 1) z (by simpa using hz)), ← h, h1, h2]
theorem run_eqBool {P : Program} {t : Nat} (hu : P.underlying t = some .bool) (a b : Bool) (w : World) : (Op.equal t (.bool a) (.bool b)).run P w = .ok (a == b) w := by
  have : ∀ n, (Op.equalIn (n + 1) t (.bool a) (.bool b)).run P w = .ok (a == b) w := by
    intro n
    rw [Op.equalIn]
    simp only [Sem.run_bind, run_underlying hu, Result.andThen_ok]
    rfl
  exact this 9999
theorem run_eqNil {P : Program} {t e : Nat} (hu : P.underlying t = some (.slice e)) (p : Addr) (n c : Nat) (w : World) : (Op.equal t (.slice (some p) n c) (.slice none 0 0)).run P w = .ok false w := by
  have : ∀ k, (Op.equalIn (k + 1) t (.slice (some p) n c) (.slice none 0 0)).run P w = .ok false w := by
    intro k
    rw [Op.equalIn]
    simp only [Sem.run_bind, run_underlying hu, Result.andThen_ok]
    rfl
  exact this 9999
theorem run_cMul32 {P : Program} (w : World) (t : TypeId) {a b c d : Nat} {r : Nat × Nat} (h : cMul32 a b c d = some r) :
    (binOp .mul t (.complex .f32 a b) (.complex .f32 c d)).run P w = .ok (.complex .f32 r.1 r.2) w := by
  unfold cMul32 at h
  obtain ⟨a', ha, h⟩ := bind_some h
  obtain ⟨b', hb, h⟩ := bind_some h
  obtain ⟨c', hc, h⟩ := bind_some h
  obtain ⟨d', hd, h⟩ := bind_some h
  obtain ⟨m, hm, h⟩ := bind_some h
  unfold cConvBits at h
  obtain ⟨re, hre, h⟩ := bind_some h
  obtain ⟨im, him, h⟩ := bind_some h
  cases h
  have hp := run_complex_mul (P := P) w t a' b' c' d' m.1 m.2 hm
  have conv : ∀ {s k : FloatKind} {x y : Nat}, s ≠ k → floatToFloatBits s x k = some y → (Op.Complex.conv s x k).run P w = .ok y w := fun hne hx => by
    simp [Op.Complex.conv, hne, run_floatToFloat w hx]
  have same : ∀ x, (Op.Complex.conv .f64 x .f64).run P w = .ok x w := fun x => by simp [Op.Complex.conv]
  have hp2 : (Op.Complex.product a' b' c' d').run P w = .ok (m.1, m.2) w := by
    unfold cMulBits at hm
    obtain ⟨ac, e1, hm⟩ := bind_some hm
    obtain ⟨bd, e2, hm⟩ := bind_some hm
    obtain ⟨x, e3, hm⟩ := bind_some hm
    obtain ⟨ad, e4, hm⟩ := bind_some hm
    obtain ⟨bc, e5, hm⟩ := bind_some hm
    obtain ⟨y, e6, hm⟩ := bind_some hm
    cases hm
    simp [Op.Complex.product, Op.Complex.mul, Op.Complex.sub, Op.Complex.add, run_carith w e1, run_carith w e2, run_carith w e3, run_carith w e4, run_carith w e5, run_carith w e6]
  simp [binOp, Op.complexOp, conv (by decide) ha, conv (by decide) hb, conv (by decide) hc, conv (by decide) hd, hp2, conv (by decide) hre, conv (by decide) him]
theorem flV_run {P : Program} {t : Nat} {op : BinOp} {u v : Value} {r : IV} (h : flV op u v = some r) (I : Imm) (w : World) : ∃ x, D I r x ∧ (binOp op t u v).run P w = .ok x w := by
  unfold flV at h
  split at h
  · rename_i k a k' b
    split at h
    · cases h
    · rename_i hk
      have hk := of_decide_eq_true hk
      subst hk
      split at h
      · rename_i c hc
        cases h
        cases op <;> simp only [flC, Option.some.injEq, reduceCtorEq] at hc <;> subst hc
        · exact ⟨_, .bool _, by rw [binOp_float_cmp_eql]; rfl⟩
        · exact ⟨_, .bool _, by rw [binOp_float_cmp_neq]; rfl⟩
        · exact ⟨_, .bool _, by rw [binOp_float_cmp_lss]; rfl⟩
        · exact ⟨_, .bool _, by rw [binOp_float_cmp_leq]; rfl⟩
        · exact ⟨_, .bool _, by rw [binOp_float_cmp_gtr]; rfl⟩
        · exact ⟨_, .bool _, by rw [binOp_float_cmp_geq]; rfl⟩
      · split at h
        · rename_i n hn
          cases h
          exact ⟨_, .lit _ rfl, run_float_arith w op t k a b n hn⟩
        · cases h
  · rename_i k a b k' c d
    split at h
    · cases h
    · rename_i hk
      have hk := of_decide_eq_true hk
      subst hk
      split at h
      · cases h; exact ⟨_, .bool _, run_eql_complex w t k a b c d⟩
      · cases h; exact ⟨_, .bool _, run_neq_complex w t k a b c d⟩
      · split at h
        · rename_i r hr
          cases h
          cases op <;> simp only [cxA, reduceCtorEq] at hr
          · exact ⟨_, .lit _ rfl, run_complex_sum w .add (.inl rfl) t k a b c d r.1 r.2 hr⟩
          · exact ⟨_, .lit _ rfl, run_complex_sum w .sub (.inr rfl) t k a b c d r.1 r.2 hr⟩
          · cases k with
            | f64 => exact ⟨_, .lit _ rfl, run_complex_mul w t a b c d r.1 r.2 hr⟩
            | f32 => exact ⟨_, .lit _ rfl, run_cMul32 w t hr⟩
        · cases h
  · cases h
theorem flV_ne {op : BinOp} {u v : Value} {r : IV} (h : flV op u v = some r) : (∀ a b, (u, v) ≠ (.agg a, .agg b)) ∧ (u, v) ≠ (.nilIface, .nilIface) := by
  unfold flV at h
  split at h
  · exact ⟨nofun, nofun⟩
  · exact ⟨nofun, nofun⟩
  · cases h
theorem bin_sound {P : Program} {t : Nat} {s : Sig} {op : BinOp} {ty : Ty} {x y : IV} {vx vy : Value} {K : IV → Prop} (h : bin op ty x y K) (hx : V I β s x vx) (hy : V I β s y vy)
    (heq : ty.eq ≠ [] → EqOK P t ty.eq) (hbo : ty.k = .other → ∀ b, ty.zero = [.bool b] → P.underlying t = some .bool) (hsl : ∀ e, ty.k = .slice e → P.underlying t = some (.slice e)) (ox oy : Operand) :
    ∃ iv v, K iv ∧ V I β s iv v ∧ (do eqGuard op t ox oy vx vy; binOp op t vx vy : Sem Value).run P w = .ok v w := by
  have guard : ∀ vx vy, (∀ a b, (vx, vy) ≠ (.agg a, .agg b)) → (vx, vy) ≠ (.nilIface, .nilIface) → (eqGuard op t ox oy vx vy).run P w = .ok () w := by
    intro vx vy h1 h2
    have key : ∀ (A B : Sem Unit), (match vx, vy with | .nilIface, .nilIface => A | .agg _, .agg _ => B | _, _ => pure ()).run P w = .ok () w := by
      intro A B
      split
      · exact absurd rfl h2
      · exact absurd rfl (h1 _ _)
      · rfl
    cases op <;> first | rfl | exact key _ _
  unfold bin at h
  split at h
  · rename_i k a k' b
    have := hx.int_inv; have := hy.int_inv; subst vx vy
    have g := guard (.int k a) (.int k' b) (by simp) (by simp)
    have done : ∀ {iv : IV} {v : Value}, K iv → V I β s iv v → (binOp op t (.int k a) (.int k' b)).run P w = .ok v w →
        ∃ iv v, K iv ∧ V I β s iv v ∧ (do eqGuard op t ox oy (.int k a) (.int k' b); binOp op t (.int k a) (.int k' b) : Sem Value).run P w = .ok v w := by
      intro iv v hk hv hr
      exact ⟨iv, v, hk, hv, by simp [g, hr]⟩
    split at h
    · obtain ⟨h1, h2⟩ := chk_spec h
      simp at h1
      exact done h2 (.data (.int _ _)) (by simp [binOp, Op.shift, show ¬ b < 0 by omega])
    · obtain ⟨h1, h2⟩ := chk_spec h
      simp at h1
      exact done h2 (.data (.int _ _)) (by simp [binOp, Op.shift, show ¬ b < 0 by omega])
    · split at h
      · exact h.elim
      · rename_i hk
        simp at hk; subst hk
        split at h
        · exact done h (.data (.int _ _)) (by simp [binOp, Op.intArith])
        · exact done h (.data (.int _ _)) (by simp [binOp, Op.intArith])
        · exact done h (.data (.int _ _)) (by simp [binOp, Op.intArith])
        · obtain ⟨h1, h2⟩ := chk_spec h
          simp at h1
          exact done h2 (.data (.int _ _)) (by simp [binOp, Op.intDiv, h1])
        · obtain ⟨h1, h2⟩ := chk_spec h
          simp at h1
          exact done h2 (.data (.int _ _)) (by simp [binOp, Op.intDiv, h1])
        · exact done h (.data (.bool _)) (by simp [binOp, Op.intCmp])
        · exact done h (.data (.bool _)) (by simp [binOp, Op.intCmp])
        · exact done h (.data (.bool _)) (by simp [binOp, Op.intCmp])
        · exact done h (.data (.bool _)) (by simp [binOp, Op.intCmp])
        · exact done h (.data (.bool _)) (by simp [binOp, Op.intCmp])
        · exact done h (.data (.bool _)) (by simp [binOp, Op.intCmp])
        · exact h.elim
  · rename_i a b
    have := hx.str_inv; have := hy.str_inv; subst vx vy
    have g := guard (.string a) (.string b) (by simp) (by simp)
    split at h
    · obtain ⟨h1, h2⟩ := chk_spec h
      simp at h1
      refine ⟨_, .string (a ++ b), h2, .data (.str _), ?_⟩
      have : ¬ ((a.size + b.size : Nat) : Int) > IntKind.i64.max := by
        have : IntKind.i64.max = 9223372036854775807 := by decide
        omega
      simp only [Sem.run_bind, g, Result.andThen_ok, binOp, Op.stringOp]
      rw [if_neg this]; rfl
    · exact ⟨_, _, h, .data (.bool _), by simp [g, binOp, Op.stringOp]⟩
    · exact ⟨_, _, h, .data (.bool _), by simp [g, binOp, Op.stringOp]⟩
    · exact h.elim
  · rename_i a b
    have := hx.bool_inv; have := hy.bool_inv; subst vx vy
    have g := guard (.bool a) (.bool b) (by simp) (by simp)
    split at h
    · rename_i h1 h2
      exact ⟨_, _, h, .data (.bool _), by simp only [Sem.run_bind, g, Result.andThen_ok, binOp, run_eqBool (hbo h1 _ h2)]; rfl⟩
    · rename_i h1 h2
      exact ⟨_, _, h, .data (.bool _), by simp only [Sem.run_bind, g, Result.andThen_ok, binOp, run_eqBool (hbo h1 _ h2)]; rfl⟩
    · exact h.elim
  · rename_i xs ys
    obtain ⟨vs, rfl, hl, _, hv⟩ := hx.agg_inv
    obtain ⟨us, rfl, hk, _, hu⟩ := hy.agg_inv
    split at h
    · exact h.elim
    · rename_i k ks hks
      have e1 := heq (by rw [hks]; simp)
      rw [hks] at e1
      have key : ∀ b, eqAll (k :: ks) xs ys = some b → eqVals (k :: ks) vs.toList us.toList = some b := fun b hb =>
        eqAll_vals (vs := vs.toList) (us := us.toList) hb (by simpa using hl) (by simpa using hk)
          (fun j x hx => by have hj : j < vs.size := by rw [← hl]; exact (List.getElem?_eq_some_iff.1 hx).1
                            exact ⟨vs[j], by simp [hj], by have := hv j x hx; simpa [hj] using this⟩)
          (fun j x hx => by have hj : j < us.size := by rw [← hk]; exact (List.getElem?_eq_some_iff.1 hx).1
                            exact ⟨us[j], by simp [hj], by have := hu j x hx; simpa [hj] using this⟩)
      split at h
      · rename_i b hb
        obtain ⟨g1, g2⟩ := e1 .eql ox oy vs us b w (key b hb)
        exact ⟨_, .bool b, h, .data (.bool _), by simp [g1, binOp, g2]⟩
      · rename_i b hb
        obtain ⟨g1, g2⟩ := e1 .neq ox oy vs us b w (key b hb)
        exact ⟨_, .bool !b, h, .data (.bool _), by simp [g1, binOp, g2]⟩
      · exact h.elim
  · rename_i o e n f
    have hy : vy = .slice none 0 0 := by cases hy with | data h => cases h; rfl
    subst hy
    split at h
    · rename_i hk
      obtain ⟨h1, h2⟩ := chk_spec h
      simp at h1
      rcases hx.lst_inv with ⟨p, _, h0⟩ | ⟨b, off, c, g, rfl, _⟩
      · omega
      have g := guard (.slice (some ⟨b, off, none⟩) n c) (.slice none 0 0) (by simp) (by simp)
      exact ⟨_, .bool false, h2, .data (.bool _), by simp only [Sem.run_bind, g, Result.andThen_ok, binOp, run_eqNil (hsl _ hk)]; rfl⟩
    · rename_i hk
      obtain ⟨h1, h2⟩ := chk_spec h
      simp at h1
      rcases hx.lst_inv with ⟨p, _, h0⟩ | ⟨b, off, c, g, rfl, _⟩
      · omega
      have g := guard (.slice (some ⟨b, off, none⟩) n c) (.slice none 0 0) (by simp) (by simp)
      exact ⟨_, .bool true, h2, .data (.bool _), by simp only [Sem.run_bind, g, Result.andThen_ok, binOp, run_eqNil (hsl _ hk)]; rfl⟩
    · exact h.elim
  · rename_i u v
    have := hx.lit_inv; have := hy.lit_inv; subst vx vy
    split at h
    · rename_i r hr
      rw [frcV_eq] at h
      obtain ⟨n1, n2⟩ := flV_ne hr
      obtain ⟨x, hd, hrun⟩ := flV_run (P := P) (t := t) hr I w
      exact ⟨r, x, h, .data hd, by simp [guard u v n1 n2, hrun]⟩
    · exact h.elim
  · exact h.elim
end
end Go.Proofs.YtfoenhiohhmnlaaGreatDoor.Ix
