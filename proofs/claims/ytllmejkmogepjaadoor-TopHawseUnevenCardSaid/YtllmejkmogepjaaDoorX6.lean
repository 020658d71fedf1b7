/-
  Ix6: the types' table, what the model's readings and writings do, and the state behind one operation.
-/
import Derived.Test.YtllmejkmogepjaaDoorX5
import Derived.Laws.CopyRow
import Derived.Laws.Append
import Derived.Laws.Entries
import Derived.ChangeKeysEq
namespace Go.Proofs.YtllmejkmogepjaaDoor.Ix

def aggOf (P : Program) (t : Nat) : Option Bool :=
  match P.underlying t with
  | some (.struct _) | some (.array _ _) => some true
  | some _ => some false
  | none => none

def eqVal : LK → Value → Value → Option Bool
  | .int, .int k a, .int k' b => if k = k' then some (a == b) else none
  | .bool, .bool a, .bool b => some (a == b)
  | .str, .string a, .string b => some (a.toList == b.toList)
  | _, _, _ => none

def eqVals : List LK → List Value → List Value → Option Bool
  | [], [], [] => some true
  | k :: ks, x :: xs, y :: ys => andO (eqVal k x y) (eqVals ks xs ys)
  | _, _, _ => none

/-- '==' of two values of the type is '==' of all their cells. -/
def EqOK (P : Program) (t : Nat) (ks : List LK) : Prop := ∀ (op : BinOp) (ox oy : Operand) (vs us : Array Value) (b : Bool) (w : World), eqVals ks vs.toList us.toList = some b →
  (eqGuard op t ox oy (.agg vs) (.agg us)).run P w = .ok () w ∧ (Op.equal t (.agg vs) (.agg us)).run P w = .ok b w

/-- What the table says of a type is so. -/
structure TOK1 (P : Program) (T : Nat → Ty) (t : Nat) (inf : TypeInfo) (d : TypeDesc) (z : Value) : Prop where
  info : P.info? t = some inf
  und : P.underlying t = some d
  size : inf.size = (T t).size
  pos : 0 < (T t).size
  bytes : inf.bytes ≤ 131072
  agg : aggOf P t = some (T t).agg
  zero : inf.zero = some z
  zsize : z.cells.size = (T t).size
  zlen : (T t).zero.length = (T t).size
  zone : ∀ (j : Nat) u, z.cells[j]? = some u → u.oneCell' = true
  zval : ∀ (I : Imm) j x, (T t).zero[j]? = some x → D I x (z.cells.getD j undef)
  kind : match (T t).k with
    | .other => True
    | .struct fs => ∃ fields, d = .struct fields ∧ fields.size = fs.length ∧ ∀ (i : Nat) off sz ag, fs[i]? = some (off, sz, ag) →
        ∃ f, fields[i]? = some f ∧ f.offset = off ∧ (P.info? f.type).map (·.size) = some sz ∧ 0 < sz ∧ aggOf P f.type = some ag ∧ (ag = false → sz = 1)
    | .array n e => d = .array n e ∧ (T e).size ≠ 0
    | .slice e => d = .slice e ∧ (T e).size ≠ 0
    | .str => d = .string
  one : (T t).agg = false → (T t).size = 1
  eqs : (T t).eq ≠ [] → EqOK P t (T t).eq
  boo : (T t).k = .other → ∀ b, (T t).zero = [.bool b] → d = .bool
  int : (T t).k = .other → ∀ k m, (T t).zero = [.int k m] → d = .int k

def TOK (P : Program) (T : Nat → Ty) : Prop := ∀ t, T t = Ty.none ∨ ∃ inf d z, TOK1 P T t inf d z

theorem add_none (b off n : Nat) : (⟨b, off, none⟩ : Addr).add n = ⟨b, off + n, none⟩ := by
  unfold Addr.add; split <;> simp_all

section
variable {P : Program} {T : Nat → Ty}

theorem run_sz {t : Nat} {n : Nat} (h : (P.info? t).map (·.size) = some n) (w : World) : (sizeOf t).run P w = .ok n w := by
  cases hi : P.info? t with
  | none => simp [hi] at h
  | some i => simp [hi] at h; simp [sizeOf, typeInfo, hi, h]

theorem run_isAgg' {t : Nat} {b : Bool} (h : aggOf P t = some b) (w : World) : (isAgg t).run P w = .ok b w := by
  unfold aggOf at h
  cases hu : P.underlying t with
  | none => simp [hu] at h
  | some d => cases d <;> simp [hu] at h <;> subst h <;> simp [isAgg, run_underlying hu]

theorem run_loadVar' {t n : Nat} {ag : Bool} (hs : (P.info? t).map (·.size) = some n) (ha : aggOf P t = some ag) {w : World} {b off : Nat} {f : Nat → Value}
    (h0 : 0 < n) (h : ∀ j, j < n → w.cell? ⟨b, off + j, none⟩ = some (f j)) :
    (loadVar t ⟨b, off, none⟩).run P w = .ok (if ag then .agg ((List.range n).map f).toArray else f 0) w := by
  have hl := run_loadCells (P := P) w ⟨b, off, none⟩ n f (fun j hj => by rw [add_none]; exact h j hj)
  have h1 : w.cell? ⟨b, off, none⟩ = some (f 0) := h 0 h0
  cases ag
  · simp [loadVar, run_isAgg' ha, h1]
  · simp [loadVar, run_isAgg' ha, run_sz hs, hl]

theorem V.int_inv {I : Imm} {β : Beta} {σ : Sig} {k : IntKind} {n : Int} {v : Value} (h : V I β σ (.int k n) v) : v = .int k n := by cases h with | data h => cases h; rfl
theorem V.bool_inv {I : Imm} {β : Beta} {σ : Sig} {b : Bool} {v : Value} (h : V I β σ (.bool b) v) : v = .bool b := by cases h with | data h => cases h; rfl
theorem V.str_inv {I : Imm} {β : Beta} {σ : Sig} {b : ByteArray} {v : Value} (h : V I β σ (.str b) v) : v = .string b := by cases h with | data h => cases h; rfl
theorem V.nilS_inv {I : Imm} {β : Beta} {σ : Sig} {v : Value} (h : V I β σ .nilS v) : ∃ p, v = .slice p 0 0 := by cases h with | data h => cases h; exact ⟨_, rfl⟩
theorem V.agg_inv {I : Imm} {β : Beta} {σ : Sig} {xs : List IV} {v : Value} (h : V I β σ (.agg xs) v) : ∃ vs, v = .agg vs ∧ xs.length = vs.size ∧ (∀ (j : Nat) u, vs[j]? = some u → u.oneCell' = true) ∧ ∀ (j : Nat) x, xs[j]? = some x → V I β σ x (vs.getD j undef) := by
  cases h with
  | data h => cases h with | agg _ vs hl h1 h => exact ⟨vs, rfl, hl, h1, fun j x hx => .data (h j x hx)⟩
  | agg _ vs hl h1 h => exact ⟨vs, rfl, hl, h1, h⟩
theorem V.tup_inv {I : Imm} {β : Beta} {σ : Sig} {xs : List IV} {v : Value} (h : V I β σ (.tup xs) v) : ∃ vs, v = .tuple vs ∧ xs.length = vs.size ∧ ∀ (j : Nat) x, xs[j]? = some x → V I β σ x (vs.getD j undef) := by
  cases h with
  | data h => cases h with | tup _ vs hl h => exact ⟨vs, rfl, hl, fun j x hx => .data (h j x hx)⟩
  | tup _ vs hl h => exact ⟨vs, rfl, hl, h⟩
theorem V.ptr_inv {I : Imm} {β : Beta} {σ : Sig} {l d off : Nat} {v : Value} (h : V I β σ (.ptr l d off) v) : ∃ b, v = .pointer (some ⟨b, off, none⟩) ∧ β l d = some b := by
  cases h with
  | data h => cases h
  | ptr _ _ _ b h => exact ⟨b, rfl, h⟩
theorem V.fn_inv {I : Imm} {β : Beta} {σ : Sig} {f : Nat} {xs ys : List IV} {v : Value} (h : V I β σ (.fn f xs ys) v) : ∃ vs us, v = .func (.func f) vs us ∧ xs.length = vs.size ∧ ys.length = us.size ∧
    (∀ (j : Nat) x, xs[j]? = some x → V I β σ x (vs.getD j undef)) ∧ ∀ (j : Nat) x, ys[j]? = some x → V I β σ x (us.getD j undef) := by
  cases h with
  | data h => cases h with | fn _ _ _ vs us hl hk h h' => exact ⟨vs, us, rfl, hl, hk, fun j x hx => .data (h j x hx), fun j x hx => .data (h' j x hx)⟩
  | fn _ _ _ vs us hl hk h h' => exact ⟨vs, us, rfl, hl, hk, h, h'⟩
theorem V.vptr_inv {I : Imm} {β : Beta} {σ : Sig} {e n i j : Nat} {f : Nat → List IV} {v : Value} (h : V I β σ (.vptr e n f i j) v) : ∃ (b off : Nat) (g : Nat → Nat → Value), v = .pointer (some ⟨b, off + i * e + j, none⟩) ∧ i < n ∧
    (∀ i, i < n → (f i).length = e) ∧ (∀ i j, i < n → j < e → I ⟨b, off + i * e + j, none⟩ = some (g i j)) ∧ (∀ i j, i < n → j < e → (g i j).oneCell' = true) ∧ ∀ i (j : Nat) x, i < n → (f i)[j]? = some x → D I x (g i j) := by
  cases h with
  | data h => cases h with | vptr _ _ _ _ _ b off g hi hl hI h1 h => exact ⟨b, off, g, rfl, hi, hl, hI, h1, h⟩
/-- A slice: nil, or a row that nobody writes any more. -/
theorem V.lst_inv {I : Imm} {β : Beta} {σ : Sig} {o : Option Nat} {e n : Nat} {f : Nat → List IV} {v : Value} (h : V I β σ (.lst o e n f) v) : (∃ p, v = .slice p 0 0 ∧ n = 0) ∨
    ∃ (b off c : Nat) (g : Nat → Nat → Value), v = .slice (some ⟨b, off, none⟩) n c ∧ n ≤ c ∧ (∀ t, o = some t → off = 0 ∧ ∃ el, σ t = some ⟨b, el, e, n, c⟩) ∧
    (∀ i, i < n → (f i).length = e) ∧ (∀ i j, i < n → j < e → I ⟨b, off + i * e + j, none⟩ = some (g i j)) ∧ (∀ i j, i < n → j < e → (g i j).oneCell' = true) ∧ ∀ i (j : Nat) x, i < n → (f i)[j]? = some x → D I x (g i j) := by
  cases h with
  | data h => cases h with
    | lstN => exact .inl ⟨_, rfl, rfl⟩
    | lst _ _ _ b off c g hc hl hI h1 h => exact .inr ⟨b, off, c, g, rfl, hc, nofun, hl, hI, h1, h⟩
  | ownN => exact .inl ⟨_, rfl, rfl⟩
  | own t _ _ _ b el c g ht hc hl hI h1 h => exact .inr ⟨b, 0, c, g, rfl, hc, fun t' ht' => (by cases ht'; exact ⟨rfl, el, ht⟩), hl, fun i j a b => by simpa using hI i j a b, h1, h⟩
end

/-- A value's cells. -/
def CV (I : Imm) (β : Beta) (σ : Sig) (xs : List IV) (vs : Array Value) : Prop :=
  xs.length = vs.size ∧ (∀ (j : Nat) u, vs[j]? = some u → u.oneCell' = true) ∧ ∀ (j : Nat) x, xs[j]? = some x → V I β σ x (vs.getD j undef)

theorem D.one {I : Imm} {x : IV} {v : Value} (h : D I x v) : (∀ xs, x ≠ .agg xs) → (∀ xs, x ≠ .tup xs) → x ≠ .dead → v.oneCell' = true := by
  cases h <;> intro h1 h2 h3 <;> first | rfl | (exact absurd rfl (h1 _)) | (exact absurd rfl (h2 _)) | (exact absurd rfl h3) | skip
  rename_i hs
  cases v <;> first | rfl | (simp [scal] at hs)

theorem V.cells {I : Imm} {β : Beta} {σ : Sig} {x : IV} {v : Value} (h : V I β σ x v) {c : List IV} (hc : cellsI x = some c) : CV I β σ c v.cells := by
  have one : ∀ (x : IV), V I β σ x v → cellsI x = some [x] → v.oneCell' = true → CV I β σ [x] v.cells := by
    intro x hx _ ho
    have hv : v.cells = #[v] := by cases v <;> first | rfl | (simp [Value.oneCell'] at ho)
    rw [hv]
    refine ⟨rfl, fun j u hu => ?_, fun j y hy => ?_⟩
    · cases j <;> simp at hu; subst hu; exact ho
    · cases j <;> simp at hy; subst hy; simpa using hx
  cases x with
  | agg xs =>
    simp [cellsI] at hc; subst hc
    obtain ⟨vs, rfl, hl, h1, h2⟩ := h.agg_inv
    exact ⟨hl, h1, h2⟩
  | tup xs => simp [cellsI] at hc
  | dead => simp [cellsI] at hc
  | _ =>
    simp [cellsI] at hc; subst hc
    refine one _ h rfl ?_
    cases h with
    | data h => exact h.one (fun _ h => by cases h) (fun _ h => by cases h) (fun h => by cases h)
    | _ => rfl

theorem CV.val {I : Imm} {β : Beta} {σ : Sig} {xs : List IV} {vs : Array Value} (h : CV I β σ xs vs) : V I β σ (.agg xs) (.agg vs) := .agg xs vs h.1 h.2.1 h.2.2

/-- A part of cells. -/
theorem part1_sound {I : Imm} {β : Beta} {σ : Sig} {ag : Bool} {off size : Nat} {c : List IV} {K : IV → Prop} (h : part1 ag off size c K) {f : Nat → Value}
    (h1 : ∀ j, j < c.length → (f j).oneCell' = true) (hV : ∀ (j : Nat) x, c[j]? = some x → V I β σ x (f j)) (hp : 0 < size) :
    ∃ v, K v ∧ (ag = true → off + size ≤ c.length) ∧ (ag = false → off < c.length) ∧ V I β σ v (if ag then .agg ((List.range size).map fun j => f (off + j)).toArray else f off) := by
  cases ag
  · simp only [part1, nthI_eq] at h
    split at h
    · rename_i v hv
      have := (List.getElem?_eq_some_iff.1 hv).1
      exact ⟨v, h, nofun, fun _ => this, by simpa using hV off v hv⟩
    · exact h.elim
  · simp only [part1, dropN_eq] at h
    split at h
    · rename_i t ht
      obtain ⟨rfl, hn⟩ := takeN_spec _ _ _ ht
      simp only [List.length_drop] at hn
      refine ⟨_, h, fun _ => (by omega), nofun, ?_⟩
      simp only [if_true]
      refine .agg _ _ (by simp; omega) (fun j u hu => ?_) (fun j x hx => ?_)
      · simp at hu
        obtain ⟨a, ha, rfl⟩ := hu
        obtain ⟨hj, rfl⟩ := List.getElem?_eq_some_iff.1 ha
        simp at hj ⊢
        exact h1 _ (by omega)
      · simp only [List.getElem?_take, List.getElem?_drop] at hx
        split at hx
        · rename_i hj
          have := hV _ _ hx
          simpa [hj] using this
        · cases hx
    · exact h.elim

end Go.Proofs.YtllmejkmogepjaaDoor.Ix
