/-
  Ix16: the types' table, asked by a computation.
-/
import Derived.Test.YtllmejkmogepjaaDoorX15
import Derived.Laws.StructEq
import Derived.ChangeKeysEq
namespace Go.Proofs.YtllmejkmogepjaaDoor.Ix
set_option linter.unusedVariables false

/-- The leaves of the fields, the first of which lies at 'off'. -/
def flatFs (P : Program) (g : TypeId → Option (List LK)) : List Field → Nat → Option (List LK)
  | [], off => some []
  | f :: fs, off => match f.name == "_", f.offset == off, g f.type with
    | false, true, some s => if (P.info? f.type).map (·.size) = some s.length then (match flatFs P g fs (off + s.length) with
        | some r => some (s ++ r)
        | none => none) else none
    | _, _, _ => none
def flatN (P : Program) : Nat → TypeId → Option (List LK)
  | 0, _ => none
  | n + 1, t => match P.underlying t with
    | some (.int _) => some [.int]
    | some .bool => some [.bool]
    | some .string => some [.str]
    | some (.struct fs) => if P.stoodInHeld t then none else flatFs P (flatN P n) fs.toList 0
    | some (.array m e) => match flatN P n e with
      | some s => if (P.info? e).map (·.size) = some s.length then some (List.flatten (List.replicate m s)) else none
      | none => none
    | _ => none

def toVal (P : Program) (t : TypeId) (vs : List Value) : Value :=
  match aggOf P t with
  | some true => .agg vs.toArray
  | _ => vs.getD 0 undef

theorem eqVal_int {x y : Value} {b : Bool} (h : eqVal .int x y = some b) : ∃ k a c, x = .int k a ∧ y = .int k c ∧ b = (a == c) := by
  cases x <;> cases y <;> simp [eqVal] at h
  obtain ⟨rfl, rfl⟩ := h; exact ⟨_, _, _, rfl, rfl, rfl⟩
theorem eqVal_bool {x y : Value} {b : Bool} (h : eqVal .bool x y = some b) : ∃ a c, x = .bool a ∧ y = .bool c ∧ b = (a == c) := by
  cases x <;> cases y <;> simp [eqVal] at h
  exact ⟨_, _, rfl, rfl, h.symm⟩
theorem eqVal_str {x y : Value} {b : Bool} (h : eqVal .str x y = some b) : ∃ a c, x = .string a ∧ y = .string c ∧ b = (a.toList == c.toList) := by
  cases x <;> cases y <;> simp [eqVal] at h
  exact ⟨_, _, rfl, rfl, h.symm⟩

theorem eqVals_len : ∀ (ks : List LK) (a b : List Value) (r : Bool), eqVals ks a b = some r → a.length = ks.length ∧ b.length = ks.length
  | [], [], [], _, _ => ⟨rfl, rfl⟩
  | [], [], _ :: _, _, h => by simp [eqVals] at h
  | [], _ :: _, _, _, h => by simp [eqVals] at h
  | _ :: _, [], _, _, h => by simp [eqVals] at h
  | _ :: _, _ :: _, [], _, h => by simp [eqVals] at h
  | k :: ks, x :: a, y :: b, r, h => by
    simp only [eqVals] at h
    cases h2 : eqVals ks a b with
    | none => cases h1 : eqVal k x y <;> simp [h1, h2, andO] at h
    | some c => obtain ⟨g1, g2⟩ := eqVals_len ks a b c h2; exact ⟨by simp [g1], by simp [g2]⟩

theorem andO_some {x y : Option Bool} {b : Bool} (h : andO x y = some b) : ∃ a c, x = some a ∧ y = some c ∧ b = (a && c) := by
  cases x <;> cases y <;> simp [andO] at h
  exact ⟨_, _, rfl, rfl, h.symm⟩

theorem eqVals_append : ∀ (ks ks' : List LK) (vs us : List Value) (b : Bool), eqVals (ks ++ ks') vs us = some b →
    ∃ b1 b2, eqVals ks (vs.take ks.length) (us.take ks.length) = some b1 ∧ eqVals ks' (vs.drop ks.length) (us.drop ks.length) = some b2 ∧ b = (b1 && b2)
  | [], ks', vs, us, b, h => ⟨true, b, by simp [eqVals], by simpa using h, by simp⟩
  | k :: ks, ks', [], us, b, h => by simp [eqVals] at h
  | k :: ks, ks', _ :: _, [], b, h => by simp [eqVals] at h
  | k :: ks, ks', x :: vs, y :: us, b, h => by
    simp only [List.cons_append, eqVals] at h
    obtain ⟨a, c, h1, h2, rfl⟩ := andO_some h
    obtain ⟨b1, b2, g1, g2, rfl⟩ := eqVals_append ks ks' vs us c h2
    exact ⟨a && b1, b2, by simp [eqVals, h1, g1, andO], by simpa using g2, by simp [Bool.and_assoc]⟩

section
variable {P : Program}

theorem run_part {t off s : Nat} {b : Bool} (ha : aggOf P t = some b) (hs : (P.info? t).map (·.size) = some s) (h1 : b = false → s = 1) {xs : List Value} (hb : off + s ≤ xs.length) (w : World) :
    (part t xs.toArray off).run P w = .ok (toVal P t ((xs.drop off).take s)) w := by
  cases b
  · have := h1 rfl; subst this
    have hlt : off < xs.length := by omega
    simp [part, run_isAgg' ha, toVal, ha, hlt]
  · simp [part, run_isAgg' ha, toVal, ha, run_sz hs]

theorem flatN_agg : ∀ (n : Nat) (t : Nat) (s : List LK), flatN P n t = some s → ∃ b, aggOf P t = some b ∧ (b = false → s.length = 1)
  | 0, t, s, h => by simp [flatN] at h
  | n + 1, t, s, h => by
    unfold flatN at h
    unfold aggOf
    split at h
    · rename_i hu; rw [hu]; simp at h; exact ⟨false, rfl, fun _ => by simp [← h]⟩
    · rename_i hu; rw [hu]; simp at h; exact ⟨false, rfl, fun _ => by simp [← h]⟩
    · rename_i hu; rw [hu]; simp at h; exact ⟨false, rfl, fun _ => by simp [← h]⟩
    · rename_i fs hu; rw [hu]; exact ⟨true, rfl, nofun⟩
    · rename_i m e hu; rw [hu]; exact ⟨true, rfl, nofun⟩
    · cases h

theorem eqVals_one {k : LK} {vs us : List Value} {b : Bool} (h : eqVals [k] vs us = some b) : ∃ x y, vs = [x] ∧ us = [y] ∧ eqVal k x y = some b := by
  obtain ⟨h1, h2⟩ := eqVals_len _ _ _ _ h
  match vs, us, h1, h2 with
  | [x], [y], _, _ =>
    refine ⟨x, y, rfl, rfl, ?_⟩
    simp only [eqVals] at h
    cases hx : eqVal k x y with
    | none => simp [hx, andO] at h
    | some c => simpa [hx, andO] using h

/-- '==' of the elements from place 'i' on. -/
theorem eqItems_eq {k e : Nat} {s : List LK} {vs us : List Value} (hinfo : (P.info? e).map (·.size) = some s.length) {ag : Bool} (ha : aggOf P e = some ag) (h1 : ag = false → s.length = 1)
    (ih : ∀ (vs us : List Value) (b : Bool) (w : World), eqVals s vs us = some b → (Op.equalIn k e (toVal P e vs) (toVal P e us)).run P w = .ok b w) :
    ∀ (m i : Nat) (b : Bool) (w : World), eqVals (List.flatten (List.replicate m s)) (vs.drop (i * s.length)) (us.drop (i * s.length)) = some b →
      (Op.eqItems k e (P.cellsOf e) vs.toArray us.toArray (List.range' i m)).run P w = .ok b w
  | 0, i, b, w, h => by
    simp only [List.replicate_zero, List.flatten_nil] at h
    have := eqVals_len _ _ _ _ h
    cases hv : vs.drop (i * s.length) <;> cases hu : us.drop (i * s.length) <;> rw [hv, hu] at h <;> simp [eqVals] at h
    subst h; simp [Op.eqItems]
  | m + 1, i, b, w, h => by
    rw [List.replicate_succ, List.flatten_cons] at h
    obtain ⟨b1, b2, g1, g2, rfl⟩ := eqVals_append _ _ _ _ _ h
    have hlen := eqVals_len _ _ _ _ h
    simp only [List.length_append, List.length_drop] at hlen
    have hc : P.cellsOf e = s.length := by unfold Program.cellsOf; rw [hinfo]; rfl
    have hv : i * s.length + s.length ≤ vs.length := by
      by_cases h0 : s.length = 0
      · have hag : ag = true := by cases ag; exact absurd (h1 rfl) (by omega); rfl
        rw [h0] at hlen ⊢; simp
      · omega
    have hu : i * s.length + s.length ≤ us.length := by
      by_cases h0 : s.length = 0
      · rw [h0] at hlen ⊢; simp
      · omega
    simp only [List.range'_succ, Op.eqItems, Sem.run_bind, hc, run_part ha hinfo h1 hv, run_part ha hinfo h1 hu, Result.andThen_ok, ih _ _ b1 w g1]
    cases b1
    · simp
    · have := eqItems_eq hinfo ha h1 ih m (i + 1) b2 w (by simpa [Nat.add_mul, List.drop_drop] using g2)
      rw [hc] at this
      simpa using this

theorem flatFs_eq {g : TypeId → Option (List LK)} {k : Nat} (hg : ∀ (t : Nat) (s : List LK), g t = some s → ∃ b, aggOf P t = some b ∧ (b = false → s.length = 1))
    (ih : ∀ (t : Nat) (s : List LK), g t = some s → ∀ (vs us : List Value) (b : Bool) (w : World), eqVals s vs us = some b → (Op.equalIn k t (toVal P t vs) (toVal P t us)).run P w = .ok b w) :
    ∀ (fs : List Field) (off : Nat) (s : List LK), flatFs P g fs off = some s → ∀ (vs us : List Value) (b : Bool) (w : World),
    eqVals s (vs.drop off) (us.drop off) = some b → (Op.eqFields k vs.toArray us.toArray fs).run P w = .ok b w
  | [], off, s, h, vs, us, b, w, he => by
    simp [flatFs] at h; subst h
    cases hv : vs.drop off <;> cases hu : us.drop off <;> rw [hv, hu] at he <;> simp [eqVals] at he
    subst he
    simp [Op.eqFields]
  | f :: fs, off, s, h, vs, us, b, w, he => by
    simp only [flatFs] at h
    split at h
    · rename_i s1 h1 h2 h3
      split at h
      · rename_i h4
        split at h
        · rename_i s2 h6
          simp at h; subst h
          obtain ⟨ag, ha, h5⟩ := hg f.type s1 h3
          obtain ⟨b1, b2, g1, g2, rfl⟩ := eqVals_append _ _ _ _ _ he
          have hlen := eqVals_len _ _ _ _ he
          simp only [List.length_append, List.length_drop] at hlen
          have hoff : f.offset = off := by simpa using h2
          simp only [Op.eqFields]
          have hname : f.name ≠ "_" := by simpa using h1
          rw [if_pos hname]
          by_cases h0 : s1.length = 0
          · have hag : ag = true := by cases ag; exact absurd (h5 rfl) (by omega); rfl
            subst hag
            have hz : s1 = [] := List.eq_nil_of_length_eq_zero h0
            subst hz
            simp [eqVals] at g1; subst g1
            have hp : ∀ (l : List Value), (part f.type l.toArray f.offset).run P w = .ok (.agg #[]) w := by
              intro l
              simp [part, run_isAgg' ha, run_sz h4]
            have hih := ih f.type [] h3 [] [] true w (by simp [eqVals])
            simp only [toVal, ha] at hih
            simp only [Sem.run_bind, hp, Result.andThen_ok, hih]
            have := flatFs_eq hg ih fs (off + 0) s2 h6 vs us b2 w (by simpa using g2)
            simpa using this
          · have hv : off + s1.length ≤ vs.length := by omega
            have hu : off + s1.length ≤ us.length := by omega
            simp only [Sem.run_bind, hoff, run_part ha h4 h5 hv, run_part ha h4 h5 hu, Result.andThen_ok, ih f.type s1 h3 _ _ b1 w g1]
            cases b1
            · simp
            · have := flatFs_eq hg ih fs (off + s1.length) s2 h6 vs us b2 w (by simpa [List.drop_drop] using g2)
              simpa using this
        · cases h
      · cases h
    · cases h
theorem flatN_eq : ∀ (n t : Nat) (s : List LK), flatN P n t = some s → ∀ (k : Nat) (vs us : List Value) (b : Bool) (w : World), n ≤ k → eqVals s vs us = some b →
    (Op.equalIn k t (toVal P t vs) (toVal P t us)).run P w = .ok b w
  | 0, t, s, h, _, _, _, _, _, _, _ => by simp [flatN] at h
  | n + 1, t, s, h, 0, _, _, _, _, hk, _ => by omega
  | n + 1, t, s, h, k + 1, vs, us, b, w, hk, he => by
    unfold flatN at h
    split at h
    · rename_i k' hu
      simp at h; subst h
      obtain ⟨x, y, rfl, rfl, hxy⟩ := eqVals_one he
      have ha : aggOf P t = some false := by unfold aggOf; rw [hu]
      simp only [toVal, ha, List.getD_cons_zero]
      obtain ⟨q, c, d, rfl, rfl, rfl⟩ := eqVal_int hxy
      exact run_equalIn_int w k t q k' c d hu
    · rename_i hu
      simp at h; subst h
      obtain ⟨x, y, rfl, rfl, hxy⟩ := eqVals_one he
      have ha : aggOf P t = some false := by unfold aggOf; rw [hu]
      simp only [toVal, ha, List.getD_cons_zero]
      obtain ⟨c, d, rfl, rfl, rfl⟩ := eqVal_bool hxy
      exact run_equalIn_bool' w k t c d hu
    · rename_i hu
      simp at h; subst h
      obtain ⟨x, y, rfl, rfl, hxy⟩ := eqVals_one he
      have ha : aggOf P t = some false := by unfold aggOf; rw [hu]
      simp only [toVal, ha, List.getD_cons_zero]
      obtain ⟨c, d, rfl, rfl, rfl⟩ := eqVal_str hxy
      exact run_equalIn_string w k t c d hu
    · rename_i fs hu
      split at h
      · cases h
      · rename_i hp
        have ha : aggOf P t = some true := by unfold aggOf; rw [hu]
        have hf : P.fieldsOf t = fs := by unfold Program.fieldsOf; rw [hu]
        simp only [toVal, ha]
        rw [run_equalIn_struct w k t _ _ (by rw [hf]; exact hu) (by simpa using hp), hf]
        exact flatFs_eq (flatN_agg n) (fun t s h vs us b w he => flatN_eq n t s h k vs us b w (by omega) he) fs.toList 0 s h vs us b w (by simpa using he)
    · rename_i m e hu
      split at h
      · rename_i s1 hs1
        split at h
        · rename_i hi
          simp at h; subst h
          have ha : aggOf P t = some true := by unfold aggOf; rw [hu]
          obtain ⟨ag, hae, h1⟩ := flatN_agg n e s1 hs1
          cases hie : P.info? e with
          | none => rw [hie] at hi; cases hi
          | some inf =>
            simp only [toVal, ha]
            rw [run_equalIn_array w k _ _ hu hie, List.range_eq_range']
            exact eqItems_eq hi hae h1 (fun vs us b w h => flatN_eq n e s1 hs1 k vs us b w (by omega) h) m 0 b w (by simpa using he)
        · cases h
      · cases h
    · cases h

/-! ### the whole table -/

def litEq : Value → Value → Bool
  | .float k b, .float k' b' => decide (k = k') && b == b'
  | .complex k a b, .complex k' a' b' => decide (k = k') && a == a' && b == b'
  | .pointer none, .pointer none | .nilFunc, .nilFunc | .nilIface, .nilIface | .map none, .map none | .chan none, .chan none => true
  | _, _ => false

theorem litEq_spec {a b : Value} (h : litEq a b = true) : a = b ∧ scal a = true := by
  unfold litEq at h
  split at h <;> simp_all [scal]

def zOK : IV → Value → Bool
  | .int k n, .int k' n' => decide (k = k') && decide (n = n')
  | .bool a, .bool b => a == b
  | .str s, .string s' => s.data == s'.data
  | .nilS, .slice none 0 0 => true
  | .lit v, v' => litEq v v'
  | _, _ => false

theorem zOK_spec {x : IV} {v : Value} (h : zOK x v = true) (I : Imm) : D I x v ∧ v.oneCell' = true := by
  unfold zOK at h
  split at h
  · simp at h; obtain ⟨rfl, rfl⟩ := h; exact ⟨.int _ _, rfl⟩
  · simp at h; subst h; exact ⟨.bool _, rfl⟩
  · rename_i s s'
    have : s = s' := by
      obtain ⟨a⟩ := s; obtain ⟨b⟩ := s'
      simp at h; rw [h]
    subst this; exact ⟨.str _, rfl⟩
  · exact ⟨.nilS, rfl⟩
  · obtain ⟨rfl, hs⟩ := litEq_spec h
    exact ⟨.lit _ hs, by rename_i v v'; unfold scal at hs; split at hs <;> first | rfl | cases hs⟩
  · cases h

def zAll : List IV → List Value → Bool
  | [], [] => true
  | x :: xs, v :: vs => zOK x v && zAll xs vs
  | _, _ => false

theorem zAll_spec : ∀ {xs : List IV} {vs : List Value}, zAll xs vs = true → xs.length = vs.length ∧ (∀ (j : Nat) u, vs[j]? = some u → u.oneCell' = true) ∧
    ∀ (I : Imm) (j : Nat) x, xs[j]? = some x → D I x (vs.getD j undef)
  | [], [], _ => ⟨rfl, fun j u h => by simp at h, fun I j x h => by simp at h⟩
  | [], _ :: _, h => by simp [zAll] at h
  | _ :: _, [], h => by simp [zAll] at h
  | x :: xs, v :: vs, h => by
    simp [zAll] at h
    obtain ⟨g1, g2, g3⟩ := zAll_spec h.2
    refine ⟨by simp [g1], fun j u hu => ?_, fun I j y hy => ?_⟩
    · cases j with
      | zero => simp at hu; subst hu; exact (zOK_spec h.1 (fun _ => none)).2
      | succ j => exact g2 j u (by simpa using hu)
    · cases j with
      | zero => simp at hy; subst hy; simpa using (zOK_spec h.1 I).1
      | succ j => simpa using g3 I j y (by simpa using hy)

def fieldsOK (P : Program) : List (Nat × Nat × Bool) → List Field → Bool
  | [], [] => true
  | (off, sz, ag) :: r, f :: fs => f.offset == off && (P.info? f.type).map (·.size) == some sz && decide (0 < sz) && aggOf P f.type == some ag && (ag || sz == 1) && fieldsOK P r fs
  | _, _ => false

theorem fieldsOK_spec : ∀ {l : List (Nat × Nat × Bool)} {fs : List Field}, fieldsOK P l fs = true → fs.length = l.length ∧ ∀ (i : Nat) off sz ag, l[i]? = some (off, sz, ag) →
    ∃ f, fs[i]? = some f ∧ f.offset = off ∧ (P.info? f.type).map (·.size) = some sz ∧ 0 < sz ∧ aggOf P f.type = some ag ∧ (ag = false → sz = 1)
  | [], [], _ => ⟨rfl, fun i off sz ag h => by simp at h⟩
  | [], _ :: _, h => by simp [fieldsOK] at h
  | _ :: _, [], h => by simp [fieldsOK] at h
  | (off, sz, ag) :: r, f :: fs, h => by
    simp only [fieldsOK, Bool.and_eq_true] at h
    obtain ⟨⟨⟨⟨⟨h1, h2⟩, h3⟩, h4⟩, h5⟩, h6⟩ := h
    obtain ⟨g1, g2⟩ := fieldsOK_spec h6
    refine ⟨by simp [g1], fun i off' sz' ag' hi => ?_⟩
    cases i with
    | zero =>
      simp at hi
      obtain ⟨rfl, rfl, rfl⟩ := hi
      refine ⟨f, by simp, by simpa using h1, by simpa using h2, by simpa using h3, by simpa using h4, fun e => ?_⟩
      subst e; simpa using h5
    | succ i => simpa using g2 i off' sz' ag' (by simpa using hi)

def lkEq : List LK → List LK → Bool
  | [], [] => true
  | .int :: a, .int :: b | .bool :: a, .bool :: b | .str :: a, .str :: b => lkEq a b
  | _, _ => false
theorem lkEq_spec : ∀ {a b : List LK}, lkEq a b = true → a = b
  | [], [], _ => rfl
  | .int :: a, .int :: b, h => by rw [lkEq_spec (show lkEq a b = true from h)]
  | .bool :: a, .bool :: b, h => by rw [lkEq_spec (show lkEq a b = true from h)]
  | .str :: a, .str :: b, h => by rw [lkEq_spec (show lkEq a b = true from h)]
  | [], _ :: _, h => by cases h
  | k :: _, [], h => by cases k <;> cases h
  | .int :: _, .bool :: _, h | .int :: _, .str :: _, h | .bool :: _, .int :: _, h | .bool :: _, .str :: _, h | .str :: _, .int :: _, h | .str :: _, .bool :: _, h => by cases h

def eqOKb (P : Program) (t : Nat) (ks : List LK) : Bool :=
  match ks with
  | [] => true
  | _ => aggOf P t == some true && !P.eqGuardType P.depth t && (match flatN P 20 t with | some s => lkEq s ks | none => false)

theorem eqOKb_spec {t : Nat} {ks : List LK} (h : eqOKb P t ks = true) (hne : ks ≠ []) : EqOK P t ks := by
  unfold eqOKb at h
  split at h
  · exact absurd rfl hne
  · simp only [Bool.and_eq_true] at h
    obtain ⟨⟨h1, h2⟩, h3⟩ := h
    split at h3
    · rename_i s hs
      have := lkEq_spec h3; subst this
      intro op ox oy vs us b w he
      refine ⟨run_eqGuard_agg w op t ox oy vs us (by simpa using h2), ?_⟩
      have := flatN_eq 20 t s hs 10000 vs.toList us.toList b w (by omega) he
      have ha : aggOf P t = some true := by simpa using h1
      simp only [toVal, ha] at this
      exact this
    · cases h3

def kindOK (P : Program) (T : Nat → Ty) (d : TypeDesc) : TK → Bool
  | .other => true
  | .struct fs => match d with | .struct fields => fieldsOK P fs fields.toList | _ => false
  | .array n e => match d with | .array n' e' => n == n' && e == e' && (T e).size != 0 | _ => false
  | .slice e => match d with | .slice e' => e == e' && (T e).size != 0 | _ => false
  | .str => match d with | .string => true | _ => false

def isInt (d : TypeDesc) (z : List IV) : Bool := match z with
  | [.int k _] => (match d with | .int k' => decide (k = k') | _ => false)
  | [.bool _] => (match d with | .bool => true | _ => false)
  | _ => true

def tokB (P : Program) (T : Nat → Ty) (t : Nat) : Bool :=
  match P.info? t, P.underlying t with
  | some inf, some d => match inf.zero with
    | some z => inf.size == (T t).size && decide (0 < (T t).size) && decide (inf.bytes ≤ 131072) && aggOf P t == some (T t).agg && z.cells.size == (T t).size &&
        zAll (T t).zero z.cells.toList && kindOK P T d (T t).k && ((T t).agg || (T t).size == 1) && eqOKb P t (T t).eq && (match (T t).k with | .other => isInt d (T t).zero | _ => true)
    | none => false
  | _, _ => false

theorem tokB_spec {T : Nat → Ty} {t : Nat} (h : tokB P T t = true) : ∃ inf d z, TOK1 P T t inf d z := by
  unfold tokB at h
  split at h
  · rename_i inf d hi hd
    split at h
    · rename_i z hz
      simp only [Bool.and_eq_true] at h
      obtain ⟨⟨⟨⟨⟨⟨⟨⟨⟨h1, h2⟩, h3⟩, h4⟩, h5⟩, h6⟩, h7⟩, h8⟩, h9⟩, h10⟩ := h
      obtain ⟨g1, g2, g3⟩ := zAll_spec h6
      refine ⟨inf, d, z, hi, hd, by simpa using h1, by simpa using h2, by simpa using h3, by simpa using h4, hz, by simpa using h5, ?_, fun j u hu => g2 j u (by simpa using hu), fun I j x hx => ?_, ?_, fun e => ?_, fun hne => eqOKb_spec h9 hne, fun hk b hb => ?_, fun hk k m hb => ?_⟩
      · rw [g1]; simpa using h5
      · have := g3 I j x hx
        simpa [Array.getD_eq_getD_getElem?] using this
      · unfold kindOK at h7
        split at h7
        · rename_i hk; rw [hk]; trivial
        · rename_i fs hk
          rw [hk]
          split at h7
          · rename_i fields
            obtain ⟨e1, e2⟩ := fieldsOK_spec h7
            exact ⟨fields, rfl, by simpa using e1, fun i off sz ag hx => by
              obtain ⟨f, f1, f2⟩ := e2 i off sz ag hx
              exact ⟨f, by simpa using f1, f2⟩⟩
          · cases h7
        · rename_i n e hk
          rw [hk]
          split at h7
          · simp only [Bool.and_eq_true] at h7
            obtain ⟨⟨a1, a2⟩, a3⟩ := h7
            simp at a1 a2 a3; subst a1 a2
            exact ⟨rfl, a3⟩
          · cases h7
        · rename_i e hk
          rw [hk]
          split at h7
          · simp only [Bool.and_eq_true] at h7
            obtain ⟨a2, a3⟩ := h7
            simp at a2 a3; subst a2
            exact ⟨rfl, a3⟩
          · cases h7
        · rename_i hk
          rw [hk]
          split at h7
          · rfl
          · cases h7
      · rw [e] at h8; simpa using h8
      · rw [hk] at h10
        simp only [hb, isInt] at h10
        split at h10 <;> first | rfl | cases h10
      · rw [hk] at h10
        simp only [hb, isInt] at h10
        split at h10
        · simp at h10; rw [h10]
        · cases h10
    · cases h
  · cases h

def tyNone : Ty → Bool
  | ⟨0, 0, false, [], [], .other⟩ => true
  | _ => false

theorem tyNone_spec {x : Ty} (h : tyNone x = true) : x = Ty.none := by
  unfold tyNone at h
  split at h
  · rfl
  · cases h

/-- The table, by numbers below 'n'. -/
theorem tok_of {T : Nat → Ty} (n : Nat) (h : (List.range n).all (fun t => tokB P T t || tyNone (T t)) = true) (hT : ∀ t, Nat.blt t n = false → T t = Ty.none) : TOK P T := by
  intro t
  cases hb : Nat.blt t n with
  | false => exact .inl (hT t hb)
  | true =>
    rw [List.all_eq_true] at h
    have := h t (by simpa using blt_lt hb)
    simp only [Bool.or_eq_true] at this
    rcases this with h | h
    · exact .inr (tokB_spec h)
    · exact .inl (tyNone_spec h)

end
end Go.Proofs.YtllmejkmogepjaaDoor.Ix
