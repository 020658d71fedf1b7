import Derived.Test.YtllmejkmogepjaaDoorX1
namespace Go.Proofs.YtllmejkmogepjaaDoor.Ix

/-- What a call may come to: in the memory 'up', with these arguments, it hands back 'r' and leaves 'up''. -/
abbrev Con := Nat → List Ces → List IV → IV → List Ces → Prop

/-- What a call hands back, as the caller holds it (in the temporary 'd'). -/
def back (d : Option Nat) : IV → Option IV
  | .lst (some _) e n f => some (.lst d e n f)
  | .tup (.lst (some _) e n f :: r) => match unshiftL r with
    | some s => some (.tup (.lst d e n f :: s))
    | none => none
  | v => unshift v

inductive CALL0 (C : Con) (g : Nat) (tm : Tms) (ce0 : Ces) (up0 : List Ces) (args : List IV) (d : Option Nat) (K : IV → St → Prop) : Prop where
  | mk (args' : List IV) (r r' : IV) (ce : Ces) (up : List Ces) (hle : leL args args') (h : C g (ce0 :: up0) args' r (ce :: up)) (hr : back d r = some r') (hk : K r' ⟨tm, ce, up⟩)

abbrev CALL (C : Con) (g : Nat) (S : St) (args : List IV) (d : Option Nat) (K : IV → St → Prop) : Prop := match S with
  | ⟨tm, ce, up⟩ => CALL0 C g tm ce up args d K

def fieldAt : List (Nat × Nat × Bool) → Nat → Option (Nat × Nat × Bool)
  | [], _ => none
  | x :: _, 0 => some x
  | _ :: r, n + 1 => fieldAt r n

/-- An index against a length. -/
def idx (i : IV) (n : Nat) (K : Nat → Prop) : Prop :=
  match i with
  | .int _ i => chk (decide (0 ≤ i)) (chk (decide (i < (n : Int))) (K i.toNat))
  | _ => False

/-- The elements of a literal slice, as one function. -/
def litF (e : Nat) (xs : List IV) (i : Nat) : List IV := match takeN e (dropN (i * e) xs) with
  | some t => t
  | none => []

def minI (x y : IV) (K : IV → Prop) : Prop :=
  match x, y with
  | .int k a, .int _ b => K (.int k (if b < a then b else a))
  | _, _ => False
def maxI (x y : IV) (K : IV → Prop) : Prop :=
  match x, y with
  | .int k a, .int _ b => K (.int k (if b > a then b else a))
  | _, _ => False

def appF (n : Nat) (f g : Nat → List IV) (i : Nat) : List IV := if i < n then f i else g (i - n)

mutual
/-- What holds the tag holds it no more. -/
def dropTag (t : Nat) : IV → IV
  | .lst (some u) e n f => match Nat.beq u t with
    | true => .lst none e n f
    | false => .lst (some u) e n f
  | .agg xs => .agg (dropTagL t xs)
  | .tup xs => .tup (dropTagL t xs)
  | .fn f a c => .fn f (dropTagL t a) (dropTagL t c)
  | .raw u e n => match Nat.beq u t with
    | true => .dead
    | false => .raw u e n
  | v => v
def dropTagL (t : Nat) : List IV → List IV
  | [] => []
  | x :: r => dropTag t x :: dropTagL t r
end

mutual
def hasTag (t : Nat) : IV → Bool
  | .lst (some u) _ _ _ => Nat.beq u t
  | .agg xs => hasTagL t xs
  | .tup xs => hasTagL t xs
  | .fn _ a c => hasTagL t a || hasTagL t c
  | .raw u _ _ => Nat.beq u t
  | _ => false
def hasTagL (t : Nat) : List IV → Bool
  | [] => false
  | x :: r => hasTag t x || hasTagL t r
end
def tmTag (t : Nat) : Tms → Bool
  | [] => false
  | (_, v) :: r => hasTag t v || tmTag t r
def ceTag (t : Nat) : Ces → Bool
  | [] => false
  | (_, c) :: r => hasTagL t c || ceTag t r
def tmDrop (t : Nat) : Tms → Tms
  | [] => []
  | (i, v) :: r => (i, dropTag t v) :: tmDrop t r
def ceDrop (t : Nat) : Ces → Ces
  | [] => []
  | (i, c) :: r => (i, dropTagL t c) :: ceDrop t r

/-- The state without the tag: changed only where it occurs. -/
def untag (t : Nat) (S : St) (K : St → Prop) : Prop :=
  match S with
  | ⟨tm, ce, up⟩ => match tmTag t tm || ceTag t ce with
    | true => K ⟨tmDrop t tm, ceDrop t ce, up⟩
    | false => K ⟨tm, ce, up⟩

def untagO (d : Option Nat) (S : St) (K : St → Prop) : Prop :=
  match d with
  | some t => untag t S K
  | none => K S

def hasKey : Ces → Nat → Bool
  | [], _ => false
  | (i, _) :: r, d => Nat.beq i d || hasKey r d

/-- A new cell at 'd' (never made before in this run of the code; a loop forgets it between its rounds). -/
def newC (Γ : Env) (S : St) (d : Nat) (c : List IV) (K : St → Prop) : Prop :=
  match S with
  | ⟨tm, ce, up⟩ => match hasKey ce d with
    | true => False
    | false => match Nat.blt d Γ.nt with
      | true => K ⟨(d, .ptr 0 d 0) :: tm, (d, c) :: ce, up⟩
      | false => False

def appendI (Γ : Env) (S : St) (d : Nat) (e : Nat) (s x : IV) (K : St → Prop) : Prop :=
  match x with
  | .nilS => match s with
    | .lst _ e' n f => putT Γ S (some d) (.lst none e' n f) K
    | .nilS => putT Γ S (some d) .nilS K
    | _ => False
  | .lst _ e2 m g => match Nat.beq e2 e with
    | false => False
    | true => match s with
      | .nilS => chk (decide (m ≤ 1073741824)) (untag d S fun S => putT Γ S (some d) (.lst (some d) e m g) K)
      | .lst (some t) e1 n f => match Nat.beq e1 e with
        | false => False
        | true => chk (decide (n + m ≤ 1073741824)) (untag t S fun S => untag d S fun S => putT Γ S (some d) (.lst (some d) e (n + m) (appF n f g)) K)
      | _ => False
  | _ => False

def bnd (d : Int) : Option IV → Option Int
  | none => some d
  | some (.int _ n) => some n
  | _ => none

def sliceI (Γ : Env) (t : Ty) (x : IV) (lo hi : Option IV) (K : IV → Prop) : Prop :=
  match t.k, x with
  | .str, .str s => match bnd 0 lo, bnd s.size hi with
    | some l, some h => chk (decide (0 ≤ l)) (chk (decide (l ≤ h)) (chk (decide (h ≤ (s.size : Int))) (K (.str (s.extract l.toNat h.toNat)))))
    | _, _ => False
  | .slice el, .lst _ e n f => match bnd 0 lo, bnd n hi, Nat.beq e (Γ.T el).size with
    | some l, some h, true => chk (decide (0 ≤ l)) (chk (decide (l ≤ h)) (chk (decide (h ≤ (n : Int))) (K (.lst none e (h.toNat - l.toNat) fun i => f (l.toNat + i)))))
    | _, _, _ => False
  | _, _ => False

def fps : Tms → (Tms → Prop) → Prop
  | [], K => K []
  | (i, v) :: r, K => fv v fun v => fps r fun r => K ((i, v) :: r)

def fcs : Ces → (Ces → Prop) → Prop
  | [], K => K []
  | (i, v) :: r, K => fvL v fun v => fcs r fun r => K ((i, v) :: r)

mutual
/-- Does it hold an address of the own cell 'c'? -/
def ment (c : Nat) : IV → Bool
  | .ptr 0 d _ => Nat.beq d c
  | .agg xs => mentL c xs
  | .tup xs => mentL c xs
  | .fn _ a b => mentL c a || mentL c b
  | _ => false
def mentL (c : Nat) : List IV → Bool
  | [] => false
  | x :: r => ment c x || mentL c r
end
def kill (c : Nat) (v : IV) : IV := match ment c v with
  | true => .dead
  | false => v
def killL (c : Nat) : List IV → List IV
  | [] => []
  | x :: r => kill c x :: killL c r
def killT (c : Nat) : Tms → Tms
  | [] => []
  | (i, v) :: r => (i, kill c v) :: killT c r
def killC (c : Nat) : Ces → Ces
  | [] => []
  | (d, x) :: r => match Nat.beq d c with
    | true => killC c r
    | false => (d, killL c x) :: killC c r

/-- A slice of an own array: from now on nobody writes in it, and its cell is forgotten. -/
def sliceA (Γ : Env) (S : St) (o : Option Nat) (n e : Nat) (p : IV) (K : St → Prop) : Prop :=
  match S, p with
  | ⟨tm, ce, up⟩, .ptr 0 c 0 => match lookC ce c with
    | some xs => match Nat.beq xs.length (n * e) && noPtrL xs with
      | true => fvL (noOwnL xs) fun xs => fps (killT c tm) fun tm => fcs (killC c ce) fun ce => putT Γ ⟨tm, ce, up⟩ o (.lst none e n (litF e xs)) K
      | false => False
    | none => False
  | _, _ => False

mutual
/-- The row 't', full: what was told of it before is forgotten. -/
def settle (t e n : Nat) (g : Nat → List IV) : IV → IV
  | .raw u e' n' => match Nat.beq u t with
    | true => .lst (some t) e n g
    | false => .raw u e' n'
  | .lst (some u) e' n' f => match Nat.beq u t with
    | true => .dead
    | false => .lst (some u) e' n' f
  | .agg xs => .agg (settleL t e n g xs)
  | .tup xs => .tup (settleL t e n g xs)
  | .fn f a c => .fn f (settleL t e n g a) (settleL t e n g c)
  | v => v
def settleL (t e n : Nat) (g : Nat → List IV) : List IV → List IV
  | [] => []
  | x :: r => settle t e n g x :: settleL t e n g r
end
def settleT (t e n : Nat) (g : Nat → List IV) : Tms → Tms
  | [] => []
  | (i, v) :: r => (i, settle t e n g v) :: settleT t e n g r
def settleC (t e n : Nat) (g : Nat → List IV) : Ces → Ces
  | [] => []
  | (i, c) :: r => (i, settleL t e n g c) :: settleC t e n g r

/-- A copy into a row just made, as long as the row. -/
def copyI (Γ : Env) (S : St) (o : Option Nat) (t e n : Nat) (x : IV) (K : St → Prop) : Prop :=
  match S, x with
  | ⟨tm, ce, up⟩, .lst _ e2 m g => match Nat.beq e2 e with
    | true => chk (decide (m = n)) (fps (settleT t e n g tm) fun tm => fcs (settleC t e n g ce) fun ce => putT Γ ⟨tm, ce, up⟩ o (.int .i64 n) K)
    | false => False
  | _, _ => False

/-- A slice made: empty, or as long as it can be. -/
def makeI (Γ : Env) (S : St) (d e : Nat) (len : Operand) (l c : IV) (K : St → Prop) : Prop :=
  match l, c with
  | .int _ l, .int _ c => chk (decide (0 ≤ c)) (chk (decide (c ≤ 1073741824)) (match len with
    | .const (.int _ 0) => untag d S fun S => putT Γ S (some d) (.lst (some d) e 0 fun _ => []) K
    | _ => chk (decide (l = c)) (untag d S fun S => putT Γ S (some d) (.raw d e c.toNat) K)))
  | _, _ => False

/-- The rounds are counted by the levels above. -/
def rounds (n : Nat) (b : Bool) (up : List Ces) : List Ces := match b with
  | true => [] :: up
  | false => List.replicate (n + 1) [] ++ up

inductive YIELD (v : Value) (l n : Nat) (xs : Nat → List IV) (S : St) (args : List IV) (K : Bool → St → Prop) : Prop where
  | mk (hv : v = .func (.yield l) #[] #[]) (hu : S.up = List.replicate S.up.length []) (h : S.up.length < n) (hx : args = xs S.up.length) (hp : noPtrL args = true) (hk : ∀ b, K b ⟨S.tm, S.ce, rounds n b S.up⟩)

def calls (C : Con) (Γ : Env) (S : St) (o : Oper) (c : Call) (K : St → Prop) : Prop :=
  match c.callee with
  | .value f => match evo Γ S f with
    | .fn g first captured => fvL (shiftL (first ++ evoL Γ S c.args.toList ++ captured)) fun args => CALL C g S args o.dst fun r S' => untagO o.dst S' fun S' => fv r fun r => putT Γ S' o.dst r K
    | .lit v => match Γ.yld with
      | some (l, n, xs) => fvL (noOwnL (evoL Γ S c.args.toList)) fun args => YIELD v l n xs S args fun b S' => putT Γ S' o.dst (.bool b) K
      | none => False
    | _ => False
  | .builtin b => fvL (evoL Γ S c.args.toList) fun args => match b, args with
    | .len, [x] => match c.argTypes.toList with
      | [t] => match (Γ.T t).k, x with
        | .slice _, .lst _ _ n _ => putT Γ S o.dst (.int .i64 n) K
        | .slice _, .nilS => putT Γ S o.dst (.int .i64 0) K
        | .str, .str s => putT Γ S o.dst (.int .i64 s.size) K
        | _, _ => False
      | _ => False
    | .min, [x, y] => minI x y fun v => putT Γ S o.dst v K
    | .max, [x, y] => maxI x y fun v => putT Γ S o.dst v K
    | .copy, [.raw t e n, x] => match c.argTypes.toList with
      | [ty, _] => match (Γ.T ty).k with
        | .slice el => match Nat.beq (Γ.T el).size e with
          | true => copyI Γ S o.dst t e n x K
          | false => False
        | _ => False
      | _ => False
    | .append, [s, x] => match o.dst, c.argTypes.toList with
      | some d, [t, t'] => match Nat.beq t t', (Γ.T t).k with
        | true, .slice e => appendI Γ S d (Γ.T e).size s x K
        | _, _ => False
      | _, _ => False
    | _, _ => False
  | _ => False

/-- 'p', if the table knows the type. -/
def tyK (Γ : Env) (t : Nat) (p : Prop) : Prop := match Nat.blt 0 (Γ.T t).size with
  | true => p
  | false => False

/-- What an operation that leaves the memory alone yields. -/
def ival (Γ : Env) (S : St) (o : Oper) (K : IV → Prop) : Prop :=
  match o.op with
  | .move x | .assign x => ev Γ S x fun v => K v
  | .pick c a b => match evo Γ S c with
    | .bool c => match c with
      | true => ev Γ S a fun v => K v
      | false => ev Γ S b fun v => K v
    | _ => False
  | .build t parts => match (Γ.T t).k with
    | .struct fs => buildI Γ S (fun i => match fieldAt fs i with
        | some f => some (f.1, f.2.1)
        | none => none) parts.toList (Γ.T t).zero fun xs => K (.agg xs)
    | .array _ e => buildI Γ S (fun i => some (i * (Γ.T e).size, (Γ.T e).size)) parts.toList (Γ.T t).zero fun xs => K (.agg xs)
    | _ => False
  | .load t a => tyK Γ t (loadI S (Γ.T t) (evo Γ S a) fun v => fv v fun v => K v)
  | .nilCheck x => ev Γ S x fun v => match v with
    | .ptr l d off => K (.ptr l d off)
    | .vptr e n f i j => K (.vptr e n f i j)
    | .fn f a c => K (.fn f a c)
    | _ => False
  | .binOp op t x y _ => bin op (Γ.T t) (evo Γ S x) (evo Γ S y) fun v => K v
  | .unOp op _ x => match op, evo Γ S x with
    | .not, .bool b => K (.bool !b)
    | .neg, .int k n => K (.int k (k.wrap (0 - n)))
    | _, _ => False
  | .convert src dst x => tyK Γ src (match (Γ.T dst).k, evo Γ S x with
    | .other, .int _ n => match (Γ.T dst).zero with
      | [.int k _] => K (.int k (k.wrap n))
      | _ => False
    | _, _ => False)
  | .fieldAddr s x i => match (Γ.T s).k with
    | .struct fs => match fieldAt fs i with
      | some f => addI (evo Γ S x) f.1 fun v => K v
      | none => False
    | _ => False
  | .field s x i => match (Γ.T s).k, evo Γ S x with
    | .struct fs, .agg xs => match fieldAt fs i with
      | some f => part1 f.2.2 f.1 f.2.1 xs fun v => fv v fun v => K v
      | none => False
    | _, _ => False
  | .indexAddr t x i => match (Γ.T t).k, evo Γ S x with
    | .array n e, p => idx (evo Γ S i) n fun i => addI p (i * (Γ.T e).size) fun v => K v
    | .slice e, .lst _ e' n f => idx (evo Γ S i) n fun i => match Nat.beq e' (Γ.T e).size with
      | true => K (.vptr e' n f i 0)
      | false => False
    | _, _ => False
  | .index t x i => match (Γ.T t).k, evo Γ S x with
    | .array n e, .agg xs => idx (evo Γ S i) n fun i => part1 (Γ.T e).agg (i * (Γ.T e).size) (Γ.T e).size xs fun v => fv v fun v => K v
    | .str, .str s => idx (evo Γ S i) s.size fun i => K (.int .u8 ((s.data.toList.getD i 0).toNat : Int))
    | _, _ => False
  | .slice t x lo hi none => sliceI Γ (Γ.T t) (evo Γ S x) (lo.map (evo Γ S)) (hi.map (evo Γ S)) fun v => K v
  | .extract x i => match evo Γ S x with
    | .tup xs => match nthI xs i with
      | some v => fv v fun v => K v
      | none => False
    | _ => False
  | .makeFunc (.func f) first captured => fvL (evoL Γ S first.toList) fun a => fvL (evoL Γ S captured.toList) fun c => K (.fn f a c)
  | _ => False

def iop (C : Con) (Γ : Env) (S : St) (o : Oper) (K : St → Prop) : Prop :=
  match o.op with
  | .alloc t => match o.dst with
    | some d => tyK Γ t (fvL (Γ.T t).zero fun c => newC Γ S d c K)
    | none => False
  | .box _ x => match o.dst with
    | some d => ev Γ S x fun v => match cellsI v with
      | some c => newC Γ S d c K
      | none => False
    | none => False
  | .buildSlice t len parts => match (Γ.T t).k, o.dst with
    | .slice e, some d => match Nat.ble (len * (Γ.T e).size) 16777216, Nat.blt 0 (Γ.T e).size with
      | true, true => buildI Γ S (fun i => some (i * (Γ.T e).size, (Γ.T e).size)) parts.toList (repZ len (Γ.T e).zero) fun xs => match noPtrL xs with
        | true => match len with
          | 0 => putT Γ S (some d) .nilS K
          | _ => fvL (noOwnL xs) fun xs => untag d S fun S => putT Γ S (some d) (.lst (some d) (Γ.T e).size len (litF (Γ.T e).size xs)) K
        | false => False
      | _, _ => False
    | _, _ => False
  | .store t a x => match o.dst with
    | none => tyK Γ t (ev Γ S a fun a => ev Γ S x fun x => storeI S (Γ.T t).size a x K)
    | some _ => False
  | .call c => calls C Γ S o c K
  | .makeSlice t len cap => match (Γ.T t).k, o.dst with
    | .slice e, some d => match Nat.blt 0 (Γ.T e).size with
      | true => makeI Γ S d (Γ.T e).size len (evo Γ S len) (evo Γ S cap) K
      | false => False
    | _, _ => False
  | .slice t x lo hi mx => match (Γ.T t).k, lo, hi, mx with
    | .array n e, none, none, none => sliceA Γ S o.dst n (Γ.T e).size (evo Γ S x) K
    | _, _, _, _ => ival Γ S o fun v => putT Γ S o.dst v K
  | _ => ival Γ S o fun v => putT Γ S o.dst v K

def dstOf : List Oper → Nat → Option Nat
  | [], _ => none
  | o :: _, 0 => o.dst
  | _ :: r, n + 1 => dstOf r n

def iops (C : Con) (Γ : Env) (all : List Oper) : List Oper → (St → Prop) → St → Prop
  | [], K, S => K S
  | o :: r, K, S => match o.guard with
    | none => iop C Γ S o fun S' => iops C Γ all r K S'
    | some (j, want) => match dstOf all j with
      | none => False
      | some t => match look S.tm t with
        | .bool b => brk b fun b => putT Γ S (some t) (.bool b) fun S => match want, b with
          | true, true | false, false => iop C Γ S o fun S' => iops C Γ all r K S'
          | _, _ => putT Γ S o.dst (.tup []) fun S' => iops C Γ all r K S'
        | .tup [] => putT Γ S o.dst (.tup []) fun S' => iops C Γ all r K S'
        | _ => False

/-! ### Regions that draw their order: a front whose order is open, the rest in the order of the text -/

inductive CALLQ (C : Con) (g : Nat) (S : St) (args : List IV) (d : Option Nat) (K : IV → Prop) : Prop where
  | mk (args' : List IV) (r r' : IV) (hle : leL args args') (h : C g (S.ce :: S.up) args' r (S.ce :: S.up)) (hr : back d r = some r') (hk : K r')

def pappend (d : Nat) (e : Nat) (s x : IV) (K : IV → Prop) : Prop :=
  match x with
  | .nilS => match s with
    | .lst _ e' n f => K (.lst none e' n f)
    | .nilS => K .nilS
    | _ => False
  | .lst _ e2 m g => match Nat.beq e2 e with
    | false => False
    | true => match s with
      | .nilS => chk (decide (m ≤ 1073741824)) (K (.lst (some d) e m g))
      | _ => False
  | _ => False

def pcall (C : Con) (Γ : Env) (S : St) (o : Oper) (c : Call) (K : IV → Prop) : Prop :=
  match c.callee with
  | .value f => match evo Γ S f with
    | .fn g first captured => fvL (shiftL (first ++ evoL Γ S c.args.toList ++ captured)) fun args => CALLQ C g S args o.dst fun r => fv r K
    | _ => False
  | .builtin b => fvL (evoL Γ S c.args.toList) fun args => match b, args with
    | .len, [x] => match c.argTypes.toList with
      | [t] => match (Γ.T t).k, x with
        | .slice _, .lst _ _ n _ => K (.int .i64 n)
        | .slice _, .nilS => K (.int .i64 0)
        | .str, .str s => K (.int .i64 s.size)
        | _, _ => False
      | _ => False
    | .min, [x, y] => minI x y K
    | .max, [x, y] => maxI x y K
    | .append, [s, x] => match o.dst, c.argTypes.toList with
      | some d, [t, t'] => match Nat.beq t t', (Γ.T t).k with
        | true, .slice e => pappend d (Γ.T e).size s x K
        | _, _ => False
      | _, _ => False
    | _, _ => False
  | _ => False

/-- What an operation of the front yields. -/
def pval (C : Con) (Γ : Env) (S : St) (o : Oper) (K : IV → Prop) : Prop :=
  match o.op with
  | .alloc _ => False
  | .box _ _ => False
  | .store _ _ _ => False
  | .buildSlice t len parts => match (Γ.T t).k, o.dst with
    | .slice e, some d => match Nat.ble (len * (Γ.T e).size) 16777216, Nat.blt 0 (Γ.T e).size with
      | true, true => buildI Γ S (fun i => some (i * (Γ.T e).size, (Γ.T e).size)) parts.toList (repZ len (Γ.T e).zero) fun xs => match noPtrL xs with
        | true => match len with
          | 0 => K .nilS
          | _ => fvL (noOwnL xs) fun xs => K (.lst (some d) (Γ.T e).size len (litF (Γ.T e).size xs))
        | false => False
      | _, _ => False
    | _, _ => False
  | .call c => pcall C Γ S o c K
  | _ => ival Γ S o K

/-- What hands out a list of its own. -/
def creates (o : Oper) : Bool := match o.op with
  | .buildSlice _ _ _ => true
  | .call _ => true
  | _ => false

def creators : List Oper → List Nat
  | [] => []
  | o :: r => match creates o, o.dst with
    | true, some d => d :: creators r
    | _, _ => creators r

def opTag (d : Nat) (S : St) : List Operand → Bool
  | [] => false
  | .tmp t :: r => hasTag d (look S.tm t) || opTag d S r
  | _ :: r => opTag d S r

/-- A tag comes from the operation itself or from what it looks at. -/
def tagOK (cr : List Nat) (S : St) (o : Oper) (v : IV) : Bool := match cr with
  | [] => true
  | d :: r => ((match o.dst with | some d2 => Nat.beq d d2 | none => false) || !(hasTag d v) || opTag d S o.op.operands.toList) && tagOK r S o v

def untagL : List Nat → (St → Prop) → St → Prop
  | [], K, S => K S
  | d :: r, K, S => untag d S (untagL r K)

/-- One operation of the front. -/
def pstep (C : Con) (Γ : Env) (cr : List Nat) (S : St) (o : Oper) (K : St → Prop) : Prop :=
  match o.op with
  | .alloc t => tyK Γ t (putT Γ S o.dst .dead K)
  | .box _ x => ev Γ S x fun v => match cellsI v with
    | some _ => putT Γ S o.dst .dead K
    | none => False
  | .store t _ x => tyK Γ t (ev Γ S x fun v => cellsK v (Γ.T t).size fun _ => K S)
  | _ => pval C Γ S o fun v => match tagOK cr S o v with
    | true => putT Γ S o.dst v K
    | false => False

def pres (C : Con) (Γ : Env) (all : List Oper) (cr : List Nat) : List Oper → (St → Prop) → St → Prop
  | [], K, S => K S
  | o :: r, K, S => match o.guard with
    | none => pstep C Γ cr S o (pres C Γ all cr r K)
    | some (j, want) => match dstOf all j with
      | none => False
      | some t => match look S.tm t with
        | .bool b => brk b fun b => putT Γ S (some t) (.bool b) fun S => match want, b with
          | true, true | false, false => pstep C Γ cr S o (pres C Γ all cr r K)
          | _, _ => putT Γ S o.dst (.tup []) (pres C Γ all cr r K)
        | .tup [] => putT Γ S o.dst (.tup []) (pres C Γ all cr r K)
        | _ => False

/-- What the front stores in the cell 'd'. -/
def storeTo : List Oper → Nat → Option Operand
  | [], _ => none
  | o :: r, d => match o.op with
    | .store _ (.tmp d') x => match Nat.beq d d' with
      | true => some x
      | false => storeTo r d
    | _ => storeTo r d

def content (Γ : Env) (S : St) (t : Nat) (x : Option Operand) (K : List IV → Prop) : Prop := match x with
  | none => tyK Γ t (fvL (Γ.T t).zero K)
  | some x => ev Γ S x fun v => match cellsI v with
    | some c => K c
    | none => False

/-- The cells that the front made, told one after another. -/
def adopt (Γ : Env) (front : List Oper) : List Oper → (St → Prop) → St → Prop
  | [], K, S => K S
  | o :: r, K, S => match o.op, o.dst with
    | .alloc t, some d => content Γ S t (storeTo front d) fun c => newC Γ S d c (adopt Γ front r K)
    | .box _ x, some d => content Γ S 0 (some x) fun c => newC Γ S d c (adopt Γ front r K)
    | _, _ => adopt Γ front r K S

def drawn (C : Con) (Γ : Env) (all : List Oper) (p : Nat) (K : St → Prop) (S : St) : Prop :=
  untagL (creators (all.take p)) (pres C Γ all (creators (all.take p)) (all.take p) (adopt Γ (all.take p) (all.take p) (iops C Γ all (all.drop p) K))) S

def bindOn (o : Oper) (j : Nat) : Bool := o.after.toList.any fun e => Region.binds .any e && Nat.beq e.on j

def opT : Operand → List Nat
  | .tmp t => [t]
  | _ => []
def opTs : List Operand → List Nat
  | [] => []
  | x :: r => opT x ++ opTs r
def looks (all : List Oper) (o : Oper) : List Nat :=
  opTs o.op.operands.toList ++ match o.guard with
    | some (j, _) => (match dstOf all j with | some t => [t] | none => [])
    | none => []

/-- 'f j' for all j < n. -/
def upTo : Nat → (Nat → Bool) → Bool
  | 0, _ => true
  | n + 1, f => upTo n f && f n

def isAlloc (t : Nat) (d : Nat) (o : Oper) : Bool := match o.op, o.dst, o.guard with
  | .alloc t', some d', none => Nat.beq t t' && Nat.beq d d'
  | _, _, _ => false

def storesTo (d : Nat) (o : Oper) : Bool := match o.op with
  | .store _ (.tmp d') _ => Nat.beq d d'
  | _ => false

def onO (f : Oper → Bool) : Option Oper → Bool
  | some o => f o
  | none => true

def frontOK (all : List Oper) (p i : Nat) (o : Oper) : Bool :=
  (looks all o).all (fun t => upTo p fun j => match dstOf all j with
    | some d => !(Nat.beq d t) || (Nat.blt j i && bindOn o j)
    | none => true) &&
  (match o.dst with
    | some d => upTo i fun j => match dstOf all j with
      | some d' => !(Nat.beq d d')
      | none => true
    | none => true) &&
  match o.op, o.dst, o.guard with
    | .alloc _, d, g => d.isSome && g.isNone
    | .box _ _, d, g => d.isSome && g.isNone
    | .store t (.tmp d) _, none, none => !(upTo i fun j => onO (fun o' => !(isAlloc t d o')) all[j]?) && upTo i fun j => onO (fun o' => !(storesTo d o')) all[j]?
    | .store _ _ _, _, _ => false
    | _, _, _ => true

def noDefer (o : Oper) : Bool := match o.op with
  | .defer _ => false
  | _ => true

def nthO : List Oper → Nat → Option Oper
  | [], _ => none
  | x :: _, 0 => some x
  | _ :: r, n + 1 => nthO r n

def anyOn : List Oper → Nat → Bool
  | [], _ => false
  | m :: r, j => match bindOn m j with
    | true => true
    | false => anyOn r j

/-- All the first 'i' must come before, directly or by way of others. -/
def sufOK (all : List Oper) : Nat → List Oper → Bool
  | 0, _ => true
  | j + 1, ms => match anyOn ms j, nthO all j with
    | true, some o => sufOK all j (o :: ms)
    | _, _ => false

def drawOKs (all : List Oper) (p : Nat) : Nat → List Oper → Bool
  | _, [] => true
  | i, o :: r => (o.after.toList.all fun e => !(Region.binds .any e) || Nat.blt e.on i) && (match Nat.blt i p with
    | true => frontOK all p i o
    | false => sufOK all i [o]) && noDefer o && drawOKs all p (i + 1) r

def drawOK (all : List Oper) (p : Nat) : Bool := Nat.ble p all.length && drawOKs all p 0 all

inductive DRAW (C : Con) (Γ : Env) (all : List Oper) (K : St → Prop) (S : St) : Prop where
  | mk (p : Nat) (h : drawOK all p = true) (hk : drawn C Γ all p K S)

def dsts : List Oper → List Nat
  | [] => []
  | o :: r => match o.dst with
    | some d => d :: dsts r
    | none => dsts r

/-- The temporaries that a piece of code writes. -/
def wrs : Code → List Nat
  | .region _ ops _ => dsts ops.toList
  | .seq a b => wrs a ++ wrs b
  | .cond _ a b => wrs a ++ wrs b
  | .block _ c => wrs c
  | .loop c => wrs c
  | .rangeFunc _ ps a b => ps.toList ++ (wrs a ++ wrs b)
  | .scope c => wrs c
  | _ => []

def isIn (l : List Nat) (i : Nat) : Bool := match l with
  | [] => false
  | x :: r => Nat.beq x i || isIn r i

def dropW (wr : List Nat) : Tms → Tms
  | [] => []
  | (i, v) :: r => match isIn wr i with
    | true => dropW wr r
    | false => (i, v) :: dropW wr r
def okW (wr : List Nat) : Tms → Bool
  | [] => true
  | (i, _) :: r => !(isIn wr i) && okW wr r

def noRange : Code → Bool
  | .seq a b => noRange a && noRange b
  | .cond _ a b => noRange a && noRange b
  | .block _ c => noRange c
  | .loop c => noRange c
  | .rangeFunc _ _ _ _ => false
  | _ => true

def roundT : List Nat → List IV → Tms → Tms
  | p :: ps, x :: xs, tm => roundT ps xs ((p, x) :: tm)
  | _, _, tm => tm

def rangeQ {α : Type} (wr : List Nat) (Inv : α → St) (ix : α → Nat) (Q : Ex → St → Prop) (a : α) : Ex → St → Prop
  | .normal, S' => ∃ a', ix a' = ix a + 1 ∧ leS S' (Inv a')
  | e, S' => Q e ⟨dropW wr S'.tm, S'.ce, S'.up⟩

inductive RANGE (Γ : Env) (asg body : (Ex → St → Prop) → St → Prop) (f : Operand) (ps wr : List Nat) (ok : Bool) (Q : Ex → St → Prop) (S : St) : Prop where
  | mk (g : Nat) (c : List IV) (n : Nat) (xs : Nat → List IV) (hf : evo Γ S f = .fn g [] c) (hp : noPtrL c = true) (hv : Γ.vis g (noOwnL c) n xs) (hok : ok = true) (hlen : ∀ i, i < n → (xs i).length = ps.length)
      {α : Type} (Inv : α → St) (ix : α → Nat) (a0 : α) (h0 : leS S (Inv a0)) (i0 : ix a0 = 0) (hw : ∀ a, okW wr (Inv a).tm = true)
      (hr : ∀ a, ix a < n → asg (Ex.seq (body (rangeQ wr Inv ix Q a)) (fun _ _ => False)) ⟨roundT ps (xs (ix a)) (Inv a).tm, (Inv a).ce, (Inv a).up⟩)
      (hd : ∀ a, ix a = n → Q .normal (Inv a))

def iwp (C : Con) (Γ : Env) : Code → (Ex → St → Prop) → St → Prop
  | .skip, Q, S => Q .normal S
  | .region _ ops d, Q, S => match d with
    | false => iops C Γ ops.toList ops.toList (Q .normal) S
    | true => DRAW C Γ ops.toList (Q .normal) S
  | .seq a b, Q, S => iwp C Γ a (Ex.seq (iwp C Γ b Q) Q) S
  | .cond c x y, Q, S => match evo Γ S c with
    | .bool b => brk b fun b => match b with
      | true => iwp C Γ x Q S
      | false => iwp C Γ y Q S
    | _ => False
  | .block id c, Q, S => iwp C Γ c (Ex.blk id Q) S
  | .loop c, Q, S => LOOP (iwp C Γ c) Q S
  | .exit id, Q, S => Q (.exit id) S
  | .label _, Q, S => Q .normal S
  | .ret, Q, S => Q .ret S
  | .rangeFunc f ps asg body, Q, S => RANGE Γ (iwp C Γ asg) (iwp C Γ body) f ps.toList (ps.toList ++ (wrs asg ++ wrs body)) (noRange asg && noRange body && ps.toList.all fun t => Nat.blt t Γ.nt) Q S
  | _, _, _ => False

def resI (Γ : Env) (S : St) : ResultVar → (IV → Prop) → Prop
  | .tmp t, K => fv (look S.tm t) K
  | .cell a t, K => tyK Γ t (loadI S (Γ.T t) (look S.tm a) fun v => fv v K)
def resL (Γ : Env) (S : St) : List ResultVar → (List IV → Prop) → Prop
  | [], K => K []
  | r :: rs, K => resI Γ S r fun v => resL Γ S rs fun vs => K (v :: vs)
def one : List IV → IV
  | [v] => v
  | vs => .tup vs

def params : Nat → List IV → Tms
  | _, [] => []
  | i, x :: r => (i, x) :: params (i + 1) r

mutual
/-- The own cells in a value, told as what they hold from now on. -/
def freeze (ce : Ces) : IV → IV
  | .ptr 0 d off => match lookC ce d with
    | some c => match noPtrL c with
      | true => .vptr c.length 1 (fun _ => noOwnL c) 0 off
      | false => .ptr 0 d off
    | none => .ptr 0 d off
  | .agg xs => .agg (freezeL ce xs)
  | .tup xs => .tup (freezeL ce xs)
  | .fn f a c => .fn f (freezeL ce a) (freezeL ce c)
  | v => v
def freezeL (ce : Ces) : List IV → List IV
  | [] => []
  | x :: r => freeze ce x :: freezeL ce r
end

/-- The whole of a call. -/
def ibody (C : Con) (Γ : Env) (fn : Func) (up : List Ces) (args : List IV) (R : IV → List Ces → Prop) : Prop :=
  match fn.body with
  | none => False
  | some c => fps (params 0 args) fun tm => iwp C ⟨Γ.P, Γ.T, Γ.gl, fn.ntmps, Γ.vis, none, none⟩ c (fun e S => match e with
    | .exit _ => False
    | _ => resL ⟨Γ.P, Γ.T, Γ.gl, fn.ntmps, Γ.vis, none, none⟩ S fn.results.toList fun vs => fv (freeze S.ce (one vs)) fun v => match clV [] v with
      | true => R v S.up
      | false => False) ⟨tm, [], up⟩

/-- The whole of an iterator's call: 'n' rounds have been, or one has stopped it. -/
def ivis (C : Con) (Γ : Env) (fn : Func) (args : List IV) (n : Nat) (xs : Nat → List IV) : Prop :=
  match fn.body with
  | none => False
  | some c => ∀ l, iwp C ⟨Γ.P, Γ.T, Γ.gl, fn.ntmps, Γ.vis, some (l, n, xs), some []⟩ c (fun e S => match e with
    | .exit _ => False
    | _ => resL ⟨Γ.P, Γ.T, Γ.gl, fn.ntmps, Γ.vis, some (l, n, xs), some []⟩ S fn.results.toList fun _ => n ≤ S.up.length) ⟨params 0 (.lit (.func (.yield l) #[] #[]) :: args), [], []⟩

end Go.Proofs.YtllmejkmogepjaaDoor.Ix
