/-
  Ix3: what an ideal value and an ideal state stand for in the model's memory.
-/
import Derived.Test.YtllmejkmogepjaaDoorX2
import Derived.Laws.AppendOwn
import Derived.Laws.Rows
import Derived.Laws.World
import Derived.Below
namespace Go.Proofs.YtllmejkmogepjaaDoor.Ix

abbrev Imm := Addr → Option Value
abbrev Beta := Nat → Nat → Option Nat
structure Tag where
  b : Nat
  el : Nat
  e : Nat
  n : Nat
  c : Nat
abbrev Sig := Nat → Option Tag

def scal : Value → Bool
  | .func (.yield _) a b => a.size == 0 && b.size == 0
  | .float .. | .complex .. | .pointer none | .nilFunc | .nilIface | .map none | .chan none => true
  | _ => false

/-- Data: what lies in memory that nobody writes any more. -/
inductive D (I : Imm) : IV → Value → Prop
  | int (k : IntKind) (n : Int) : D I (.int k n) (.int k n)
  | bool (b : Bool) : D I (.bool b) (.bool b)
  | str (s : ByteArray) : D I (.str s) (.string s)
  | lit (v : Value) (h : scal v = true) : D I (.lit v) v
  | nilS {p : Option Addr} : D I .nilS (.slice p 0 0)
  | lstN {p : Option Addr} (e : Nat) (f : Nat → List IV) : D I (.lst none e 0 f) (.slice p 0 0)
  | lst (e n : Nat) (f : Nat → List IV) (b off c : Nat) (g : Nat → Nat → Value) (hc : n ≤ c) (hl : ∀ i, i < n → (f i).length = e)
      (hI : ∀ i j, i < n → j < e → I ⟨b, off + i * e + j, none⟩ = some (g i j))
      (h1 : ∀ i j, i < n → j < e → (g i j).oneCell' = true)
      (h : ∀ i j x, i < n → (f i)[j]? = some x → D I x (g i j)) : D I (.lst none e n f) (.slice (some ⟨b, off, none⟩) n c)
  | vptr (e n : Nat) (f : Nat → List IV) (i j b off : Nat) (g : Nat → Nat → Value) (hi : i < n) (hl : ∀ i, i < n → (f i).length = e)
      (hI : ∀ i j, i < n → j < e → I ⟨b, off + i * e + j, none⟩ = some (g i j))
      (h1 : ∀ i j, i < n → j < e → (g i j).oneCell' = true)
      (h : ∀ i j x, i < n → (f i)[j]? = some x → D I x (g i j)) : D I (.vptr e n f i j) (.pointer (some ⟨b, off + i * e + j, none⟩))
  | agg (xs : List IV) (vs : Array Value) (hl : xs.length = vs.size) (h1 : ∀ (j : Nat) (u : Value), vs[j]? = some u → u.oneCell' = true) (h : ∀ j x, xs[j]? = some x → D I x (vs.getD j undef)) : D I (.agg xs) (.agg vs)
  | tup (xs : List IV) (vs : Array Value) (hl : xs.length = vs.size) (h : ∀ j x, xs[j]? = some x → D I x (vs.getD j undef)) : D I (.tup xs) (.tuple vs)
  | fn (f : Nat) (xs ys : List IV) (vs us : Array Value) (hl : xs.length = vs.size) (hk : ys.length = us.size)
      (h : ∀ j x, xs[j]? = some x → D I x (vs.getD j undef)) (h' : ∀ j x, ys[j]? = some x → D I x (us.getD j undef)) : D I (.fn f xs ys) (.func (.func f) vs us)
  | dead (v : Value) : D I .dead v

inductive V (I : Imm) (β : Beta) (σ : Sig) : IV → Value → Prop
  | data {x : IV} {v : Value} (h : D I x v) : V I β σ x v
  | ptr (l d off b : Nat) (h : β l d = some b) : V I β σ (.ptr l d off) (.pointer (some ⟨b, off, none⟩))
  | ownN {p : Option Addr} (t e : Nat) (f : Nat → List IV) : V I β σ (.lst (some t) e 0 f) (.slice p 0 0)
  | own (t e n : Nat) (f : Nat → List IV) (b el c : Nat) (g : Nat → Nat → Value) (ht : σ t = some ⟨b, el, e, n, c⟩) (hc : n ≤ c) (hl : ∀ i, i < n → (f i).length = e)
      (hI : ∀ i j, i < n → j < e → I ⟨b, i * e + j, none⟩ = some (g i j))
      (h1 : ∀ i j, i < n → j < e → (g i j).oneCell' = true)
      (h : ∀ i j x, i < n → (f i)[j]? = some x → D I x (g i j)) : V I β σ (.lst (some t) e n f) (.slice (some ⟨b, 0, none⟩) n c)
  | raw (t e n b el : Nat) (ht : σ t = some ⟨b, el, e, 0, n⟩) : V I β σ (.raw t e n) (.slice (some ⟨b, 0, none⟩) n n)
  | agg (xs : List IV) (vs : Array Value) (hl : xs.length = vs.size) (h1 : ∀ (j : Nat) (u : Value), vs[j]? = some u → u.oneCell' = true) (h : ∀ j x, xs[j]? = some x → V I β σ x (vs.getD j undef)) : V I β σ (.agg xs) (.agg vs)
  | tup (xs : List IV) (vs : Array Value) (hl : xs.length = vs.size) (h : ∀ j x, xs[j]? = some x → V I β σ x (vs.getD j undef)) : V I β σ (.tup xs) (.tuple vs)
  | fn (f : Nat) (xs ys : List IV) (vs us : Array Value) (hl : xs.length = vs.size) (hk : ys.length = us.size)
      (h : ∀ j x, xs[j]? = some x → V I β σ x (vs.getD j undef)) (h' : ∀ j x, ys[j]? = some x → V I β σ x (us.getD j undef)) : V I β σ (.fn f xs ys) (.func (.func f) vs us)

theorem D.mono {I I' : Imm} (hI : ∀ a v, I a = some v → I' a = some v) {x : IV} {v : Value} (h : D I x v) : D I' x v := by
  induction h with
  | int k n => exact .int k n
  | bool b => exact .bool b
  | str s => exact .str s
  | lit v h => exact .lit v h
  | nilS => exact .nilS
  | lstN e f => exact .lstN e f
  | lst e n f b off c g hc hl hi h1 _ ih => exact .lst e n f b off c g hc hl (fun i j h h' => hI _ _ (hi i j h h')) h1 ih
  | vptr e n f i j b off g hi0 hl hi h1 _ ih => exact .vptr e n f i j b off g hi0 hl (fun i j h h' => hI _ _ (hi i j h h')) h1 ih
  | agg xs vs hl h1 _ ih => exact .agg xs vs hl h1 ih
  | tup xs vs hl _ ih => exact .tup xs vs hl ih
  | fn f xs ys vs us hl hk _ _ ih ih' => exact .fn f xs ys vs us hl hk ih ih'
  | dead v => exact .dead v

theorem V.mono {I I' : Imm} {β β' : Beta} {σ σ' : Sig} (hI : ∀ a v, I a = some v → I' a = some v) (hb : ∀ l d b, β l d = some b → β' l d = some b)
    (hs : ∀ t g, σ t = some g → σ' t = some g) {x : IV} {v : Value} (h : V I β σ x v) : V I' β' σ' x v := by
  induction h with
  | data h => exact .data (h.mono hI)
  | ptr l d off b h => exact .ptr l d off b (hb _ _ _ h)
  | ownN t e f => exact .ownN t e f
  | own t e n f b el c g ht hc hl hi h1 h => exact .own t e n f b el c g (hs _ _ ht) hc hl (fun i j h h' => hI _ _ (hi i j h h')) h1 (fun i j x a b => (h i j x a b).mono hI)
  | raw t e n b el ht => exact .raw t e n b el (hs _ _ ht)
  | agg xs vs hl h1 _ ih => exact .agg xs vs hl h1 ih
  | tup xs vs hl _ ih => exact .tup xs vs hl ih
  | fn f xs ys vs us hl hk _ _ ih ih' => exact .fn f xs ys vs us hl hk ih ih'

/-- What is told of the memory of the cells (level 0: the call's own). -/
structure MemR (gl : Nat → IV) (cs : List Ces) (w : World) (I : Imm) (X : Nat → Prop) (β : Beta) (σ : Nat → Sig) : Prop where
  cell : ∀ l d c, lookC (upC cs l) d = some c → ∃ b arr el, β l d = some b ∧ w.heap[b]? = some (.cells arr el (0, 0)) ∧ arr.size = c.length ∧
    (∀ (j : Nat) (u : Value), arr[j]? = some u → u.oneCell' = true) ∧ (∀ j x, c[j]? = some x → V I (fun l' => β (l + l')) (σ l) x (arr.getD j undef)) ∧ (∀ j, I ⟨b, j, none⟩ = none) ∧ ¬ X b
  inj : ∀ l d l' d' b, β l d = some b → β l' d' = some b → l = l' ∧ d = d'
  keys : ∀ l d b, β l d = some b → ∃ c, lookC (upC cs l) d = some c
  im : ∀ a v, I a = some v → w.cell? a = some v
  glo : ∀ g, D I (gl g) (.pointer (some ⟨g, 0, none⟩))
  xb : ∀ b, X b → b < w.heap.size

structure OwnR (w : World) (I : Imm) (X : Nat → Prop) (β : Beta) (σ : Sig) : Prop where
  row : ∀ t g, σ t = some g → ∃ cur, w.heap[g.b]? = some (.cells cur g.el (0, 0)) ∧ g.n ≤ g.c ∧ g.c ≤ maxLen ∧ cur.size = g.c * g.e ∧ (∀ j, g.n * g.e ≤ j → I ⟨g.b, j, none⟩ = none) ∧
    ¬ X g.b ∧ ∀ l d, β l d ≠ some g.b
  inj : ∀ t t' g g', σ t = some g → σ t' = some g' → g.b = g'.b → t = t'

/-- What no step of ours turns: a loop's record, the block of a round's deferred calls. -/
def fixed : Obj → Bool
  | .deferred _ => true
  | .loop _ => true
  | _ => false

/-- What has become of the world: nothing that is immutable, or the others', has turned. -/
structure Ext (I : Imm) (X : Nat → Prop) (w : World) (I' : Imm) (w' : World) : Prop where
  os : w'.os = w.os
  tape : w'.tape = w.tape
  output : w'.output = w.output
  size : w.heap.size ≤ w'.heap.size
  keep : ∀ b, X b → w'.heap[b]? = w.heap[b]?
  imm : ∀ a v, I a = some v → I' a = some v
  new : ∀ a, X a.block → I' a = I a
  fix : ∀ (k : Nat) o, w.heap[k]? = some o → fixed o = true → w'.heap[k]? = some o

/-- The calls that are put off: none but marks of loops whose rounds put off none. -/
def Marks (ds : List Deferred) (w : World) (X : Nat → Prop) : Prop := ∃ Ds : List Nat, ds = Ds.map (fun D => { target := .collected D, args := #[] }) ∧ Ds.Nodup ∧ ∀ D ∈ Ds, w.heap[D]? = some (.deferred (some [])) ∧ ¬ X D

theorem Ext.refl (I : Imm) (X : Nat → Prop) (w : World) : Ext I X w I w := ⟨rfl, rfl, rfl, Nat.le_refl _, fun _ _ => rfl, fun _ _ h => h, fun _ _ => rfl, fun _ _ h _ => h⟩
theorem Ext.trans {I : Imm} {X : Nat → Prop} {w : World} {I' : Imm} {w' : World} {I'' : Imm} {w'' : World} (h : Ext I X w I' w') (k : Ext I' X w' I'' w'') : Ext I X w I'' w'' :=
  ⟨k.os.trans h.os, k.tape.trans h.tape, k.output.trans h.output, Nat.le_trans h.size k.size, fun b hb => (k.keep b hb).trans (h.keep b hb),
    fun a v e => k.imm a v (h.imm a v e), fun a ha => (k.new a ha).trans (h.new a ha), fun b o hb ho => k.fix b o (h.fix b o hb ho) ho⟩
theorem Ext.sub {I : Imm} {X Y : Nat → Prop} {w : World} {I' : Imm} {w' : World} (h : Ext I X w I' w') (hs : ∀ b, Y b → X b) : Ext I Y w I' w' :=
  ⟨h.os, h.tape, h.output, h.size, fun b hb => h.keep b (hs b hb), h.imm, fun a ha => h.new a (hs _ ha), h.fix⟩
theorem Marks.ext {ds : List Deferred} {I : Imm} {X : Nat → Prop} {w : World} {I' : Imm} {w' : World} (m : Marks ds w X) (h : Ext I X w I' w') : Marks ds w' X :=
  let ⟨Ds, h1, h2, h3⟩ := m; ⟨Ds, h1, h2, fun D hD => ⟨h.fix D _ (h3 D hD).1 rfl, (h3 D hD).2⟩⟩
theorem Marks.nil (w : World) (X : Nat → Prop) : Marks [] w X := ⟨[], rfl, List.nodup_nil, fun D hD => by cases hD⟩
/-- Through a step that keeps what is fixed. -/
theorem Marks.to {ds : List Deferred} {w w' : World} {X Y : Nat → Prop} (m : Marks ds w X) (hf : ∀ (k : Nat) o, w.heap[k]? = some o → fixed o = true → w'.heap[k]? = some o) (hx : ∀ D, w.heap[D]? = some (.deferred (some [])) → ¬ X D → ¬ Y D) : Marks ds w' Y :=
  let ⟨Ds, h1, h2, h3⟩ := m; ⟨Ds, h1, h2, fun D hD => ⟨hf D _ (h3 D hD).1 rfl, hx D (h3 D hD).1 (h3 D hD).2⟩⟩

/-- What is put off, told or not. -/
structure Dfs (d0 : Option (List Deferred)) (ds : List Deferred) (w : World) (X : Nat → Prop) : Prop where
  m : Marks ds w X
  e : ∀ d, d0 = some d → ds = d
theorem Dfs.ext {d0 : Option (List Deferred)} {ds : List Deferred} {I : Imm} {X : Nat → Prop} {w : World} {I' : Imm} {w' : World} (m : Dfs d0 ds w X) (h : Ext I X w I' w') : Dfs d0 ds w' X := ⟨m.m.ext h, m.e⟩
theorem Dfs.to {d0 : Option (List Deferred)} {ds : List Deferred} {w w' : World} {X Y : Nat → Prop} (m : Dfs d0 ds w X) (hf : ∀ (k : Nat) o, w.heap[k]? = some o → fixed o = true → w'.heap[k]? = some o) (hx : ∀ D, w.heap[D]? = some (.deferred (some [])) → ¬ X D → ¬ Y D) : Dfs d0 ds w' Y := ⟨m.m.to hf hx, m.e⟩

/-- The state of a call, in the model. -/
structure Rel (Γ : Env) (S : St) (a : Act) (w : World) (I : Imm) (X : Nat → Prop) (β : Beta) (σ : Nat → Sig) : Prop where
  tm : ∀ i, V I β (σ 0) (look S.tm i) (a.tmps.getD i undef)
  df : Dfs Γ.ds a.defers w X
  nt : Γ.nt ≤ a.tmps.size
  mem : MemR Γ.gl (S.ce :: S.up) w I X β σ
  own : OwnR w I X β (σ 0)

/-- The levels above the own one stay as they are. -/
def Above (β β' : Beta) (σ σ' : Nat → Sig) : Prop := (∀ l, β' (l + 1) = β (l + 1)) ∧ ∀ l, σ' (l + 1) = σ (l + 1)
theorem Above.refl (β : Beta) (σ : Nat → Sig) : Above β β σ σ := ⟨fun _ => rfl, fun _ => rfl⟩
theorem Above.trans {β β' β'' : Beta} {σ σ' σ'' : Nat → Sig} (h : Above β β' σ σ') (k : Above β' β'' σ' σ'') : Above β β'' σ σ'' :=
  ⟨fun l => (k.1 l).trans (h.1 l), fun l => (k.2 l).trans (h.2 l)⟩

/-- β as a called function sees it. -/
def under (β : Beta) : Beta := fun l d => match l with | 0 => none | l + 1 => β l d
def noSig : Sig := fun _ => none

/-- What a call comes to. -/
def Comp (P : Program) (gl : Nat → IV) : Con := fun g up args r up' =>
  (∃ fn c, P.funcs[g]? = some fn ∧ fn.body = some c ∧ (fn.name == "runtime.NumGoroutine") = false) ∧
  ∀ (vals : Array Value) (w : World) (I : Imm) (X : Nat → Prop) (β : Beta) (σ : Nat → Sig), MemR gl up w I X β σ → args.length = vals.size →
    (∀ (j : Nat) x, args[j]? = some x → V I (under β) noSig x (vals.getD j undef)) →
    Calls P g vals w fun e w' => ∃ v I' s, e = .returned v ∧ V I' (under β) s r v ∧ OwnR w' I' X (under β) s ∧ MemR gl up' w' I' X β σ ∧ Ext I X w I' w'

end Go.Proofs.YtllmejkmogepjaaDoor.Ix
