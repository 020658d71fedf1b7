/-
  Ix18: a region that draws its order comes to what its front, in the order of the text, and then the rest come to.
-/
import Derived.Test.YtllmejkmogepjaaDoorX17
namespace Go.Proofs.YtllmejkmogepjaaDoor.Ix
set_option linter.unusedVariables false
set_option linter.unusedSimpArgs false

/-! ### The check -/

theorem upTo_spec {f : Nat → Bool} : ∀ {n : Nat}, upTo n f = true → ∀ j, j < n → f j = true
  | 0, _, j, hj => by omega
  | n + 1, h, j, hj => by
    simp only [upTo, Bool.and_eq_true] at h
    rcases Nat.lt_or_ge j n with h' | h'
    · exact upTo_spec h.1 j h'
    · have : j = n := by omega
      subst this; exact h.2

theorem upTo_not {f : Nat → Bool} : ∀ {n : Nat}, upTo n f = false → ∃ j, j < n ∧ f j = false
  | 0, h => by simp [upTo] at h
  | n + 1, h => by
    simp only [upTo, Bool.and_eq_false_iff] at h
    rcases h with h | h
    · obtain ⟨j, h1, h2⟩ := upTo_not h; exact ⟨j, by omega, h2⟩
    · exact ⟨n, by omega, h⟩

/-- Closed under 'must come after'. -/
def DC (ops : Array Oper) (ℓ : Nat → Bool) : Prop := ∀ (i : Nat) o, ops[i]? = some o → ℓ i = true → ∀ j, bindOn o j = true → ℓ j = true

theorem nthO_eq : ∀ (l : List Oper) (i : Nat), nthO l i = l[i]?
  | [], _ => by simp [nthO]
  | _ :: _, 0 => by simp [nthO]
  | _ :: r, n + 1 => by simp [nthO, nthO_eq r n]

theorem anyOn_spec : ∀ {ms : List Oper} {j : Nat}, anyOn ms j = true → ∃ m ∈ ms, bindOn m j = true
  | [], _, h => by simp [anyOn] at h
  | m :: r, j, h => by
    simp only [anyOn] at h
    split at h
    · rename_i hb; exact ⟨m, by simp, hb⟩
    · obtain ⟨m', h1, h2⟩ := anyOn_spec h; exact ⟨m', by simp [h1], h2⟩

theorem sufOK_spec {ops : Array Oper} {ℓ : Nat → Bool} (hdc : DC ops ℓ) : ∀ (i : Nat) (ms : List Oper), sufOK ops.toList i ms = true → (∀ m ∈ ms, ∀ j, bindOn m j = true → ℓ j = true) → ∀ j, j < i → ℓ j = true
  | 0, _, _, _, j, hj => by omega
  | i + 1, ms, h, hm, j, hj => by
    simp only [sufOK] at h
    split at h
    · rename_i o ha ho
      obtain ⟨m, m1, m2⟩ := anyOn_spec ha
      have hi := hm m m1 i m2
      rw [nthO_eq] at ho
      by_cases e : j = i
      · rw [e]; exact hi
      · refine sufOK_spec hdc i _ h (fun m' hm' => ?_) j (by omega)
        simp only [List.mem_cons] at hm'
        rcases hm' with rfl | hm'
        · exact hdc i m' (by simpa using ho) hi
        · exact hm m' hm'
    · cases h

structure DOK (ops : Array Oper) (p : Nat) : Prop where
  le : p ≤ ops.size
  acy : ∀ (i : Nat) o, ops[i]? = some o → ∀ e ∈ o.after, Region.binds .any e = true → e.on < i
  look : ∀ (i : Nat) o, ops[i]? = some o → i < p → ∀ t ∈ looks ops.toList o, ∀ j, j < p → dstOf ops.toList j = some t → j < i ∧ bindOn o j = true
  dst : ∀ (i j : Nat) d, i < p → j < p → dstOf ops.toList i = some d → dstOf ops.toList j = some d → i = j
  made : ∀ (i : Nat) o, ops[i]? = some o → i < p → ((∃ t, o.op = .alloc t) ∨ ∃ t x, o.op = .box t x) → (∃ d, o.dst = some d) ∧ o.guard = none
  st : ∀ (i : Nat) o t a x, ops[i]? = some o → i < p → o.op = .store t a x → ∃ d, a = .tmp d ∧ o.dst = none ∧ o.guard = none ∧
    ∃ (j : Nat) (o' : Oper), j < i ∧ ops[j]? = some o' ∧ o'.op = .alloc t ∧ o'.dst = some d ∧ o'.guard = none
  st1 : ∀ (i j : Nat) o o' t t' d x x', i < p → j < p → ops[i]? = some o → ops[j]? = some o' → o.op = .store t (.tmp d) x → o'.op = .store t' (.tmp d) x' → i = j
  suf : ∀ (i : Nat) o, ops[i]? = some o → p ≤ i → ∀ ℓ : Nat → Bool, DC ops ℓ → (∀ j, bindOn o j = true → ℓ j = true) → ∀ j, j < i → ℓ j = true
  nd : ∀ (i : Nat) o, ops[i]? = some o → ∀ c, o.op ≠ .defer c

theorem drawOKs_spec {all : List Oper} {p : Nat} : ∀ (l : List Oper) (i : Nat), drawOKs all p i l = true → ∀ (j : Nat) o, l[j]? = some o →
    (o.after.toList.all fun e => !(Region.binds .any e) || Nat.blt e.on (i + j)) = true ∧ (i + j < p → frontOK all p (i + j) o = true) ∧ (p ≤ i + j → sufOK all (i + j) [o] = true) ∧ noDefer o = true
  | [], _, _, j, o, hj => by simp at hj
  | y :: r, i, h, j, o, hj => by
    simp only [drawOKs, Bool.and_eq_true] at h
    cases j with
    | zero =>
      simp at hj; subst hj
      refine ⟨by simpa using h.1.1.1, fun hp => ?_, fun hp => ?_, h.1.2⟩
      · have := h.1.1.2
        rw [show Nat.blt i p = true from by simp [Nat.blt]; omega] at this
        simpa using this
      · have := h.1.1.2
        rw [show Nat.blt i p = false from by
          cases hb : Nat.blt i p with
          | false => rfl
          | true => have := blt_lt hb; omega] at this
        simpa using this
    | succ j =>
      have := drawOKs_spec r (i + 1) h.2 j o (by simpa using hj)
      rw [show i + 1 + j = i + (j + 1) from by omega] at this
      exact this

theorem frontOK_spec {all : List Oper} {p i : Nat} {o : Oper} (h : frontOK all p i o = true) :
    (∀ t ∈ looks all o, ∀ j, j < p → dstOf all j = some t → j < i ∧ bindOn o j = true) ∧
    (∀ d j, o.dst = some d → j < i → dstOf all j ≠ some d) ∧
    (((∃ t, o.op = .alloc t) ∨ ∃ t x, o.op = .box t x) → (∃ d, o.dst = some d) ∧ o.guard = none) ∧
    (∀ t a x, o.op = .store t a x → ∃ d, a = .tmp d ∧ o.dst = none ∧ o.guard = none ∧
      (∃ (j : Nat) (o' : Oper), j < i ∧ all[j]? = some o' ∧ o'.op = .alloc t ∧ o'.dst = some d ∧ o'.guard = none) ∧
      ∀ (j : Nat) o' t' x', j < i → all[j]? = some o' → o'.op ≠ .store t' (.tmp d) x') := by
  simp only [frontOK, Bool.and_eq_true] at h
  obtain ⟨⟨h1, h2⟩, h3⟩ := h
  refine ⟨fun t ht j hj hd => ?_, fun d j hd hj he => ?_, fun hm => ?_, fun t a x hop => ?_⟩
  · rw [List.all_eq_true] at h1
    have := upTo_spec (h1 t ht) j hj
    rw [hd] at this
    simp only [Bool.or_eq_true, Bool.and_eq_true] at this
    rcases this with h | h
    · have : Nat.beq t t = true := Nat.beq_refl t
      rw [this] at h; cases h
    · exact ⟨blt_lt h.1, h.2⟩
  · rw [hd] at h2
    have := upTo_spec h2 j hj
    rw [he] at this
    have h' : Nat.beq d d = true := Nat.beq_refl d
    simp only [h'] at this; cases this
  · rcases hm with ⟨t, ht⟩ | ⟨t, x, ht⟩
    · rw [ht] at h3
      simp only [Bool.and_eq_true] at h3
      exact ⟨Option.isSome_iff_exists.1 h3.1, by simpa using h3.2⟩
    · rw [ht] at h3
      simp only [Bool.and_eq_true] at h3
      exact ⟨Option.isSome_iff_exists.1 h3.1, by simpa using h3.2⟩
  · rw [hop] at h3
    cases a with
    | tmp d =>
      cases hd : o.dst with
      | some _ => rw [hd] at h3; cases h3
      | none =>
        cases hg : o.guard with
        | some _ => rw [hd, hg] at h3; cases h3
        | none =>
          rw [hd, hg] at h3
          simp only [Bool.and_eq_true] at h3
          obtain ⟨g1, g2⟩ := h3
          refine ⟨d, rfl, rfl, rfl, ?_, fun j o' t' x' hj ho' hs => ?_⟩
          · have g1' : upTo i (fun j => onO (fun o' => !(isAlloc t d o')) all[j]?) = false := by simpa using g1
            obtain ⟨j, hj, hf⟩ := upTo_not g1'
            cases ho : all[j]? with
            | none => rw [ho] at hf; cases hf
            | some o' =>
              rw [ho] at hf
              have hf : isAlloc t d o' = true := by simpa [onO] using hf
              unfold isAlloc at hf
              split at hf
              · rename_i t2 d2 e1 e2 e3
                simp only [Bool.and_eq_true] at hf
                have a1 := (beq_iff _ _).1 hf.1
                have a2 := (beq_iff _ _).1 hf.2
                subst a1 a2
                exact ⟨j, o', hj, ho, e1, e2, e3⟩
              · cases hf
          · have := upTo_spec g2 j hj
            rw [ho'] at this
            simp only [onO, storesTo, hs] at this
            have h' : Nat.beq d d = true := Nat.beq_refl d
            simp only [h'] at this; cases this
    | _ => cases h3

theorem drawOK_spec {ops : Array Oper} {p : Nat} (h : drawOK ops.toList p = true) : DOK ops p := by
  simp only [drawOK, Bool.and_eq_true] at h
  have hsp := drawOKs_spec ops.toList 0 h.2
  have hle : p ≤ ops.size := by simpa using Nat.le_of_ble_eq_true h.1
  have hf : ∀ (i : Nat) o, ops[i]? = some o → i < p → frontOK ops.toList p i o = true := fun i o ho hi => by
    have := (hsp i o (by simpa using ho)).2.1; simpa using this (by omega)
  refine ⟨hle, fun i o ho e he hb => ?_, fun i o ho hi => (frontOK_spec (hf i o ho hi)).1, fun i j d hi hj h1 h2 => ?_, fun i o ho hi hm => (frontOK_spec (hf i o ho hi)).2.2.1 hm, fun i o t a x ho hi hop => ?_,
    fun i j o o' t t' d x x' hi hj ho ho' h1 h2 => ?_, fun i o ho hi ℓ hdc hl j hj => ?_, fun i o ho c e => ?_⟩
  · have := (hsp i o (by simpa using ho)).1
    rw [List.all_eq_true] at this
    have := this e (by simpa using he)
    rw [hb] at this
    have := blt_lt (by simpa using this : Nat.blt e.on (0 + i) = true)
    omega
  · rcases Nat.lt_trichotomy i j with hlt | he | hlt
    · have hjs : j < ops.size := by omega
      have := (frontOK_spec (hf j ops[j] (by simp [hjs]) hj)).2.1 d i (by rw [dstOf_eq] at h2; simpa [hjs] using h2) hlt
      exact absurd h1 this
    · exact he
    · have his : i < ops.size := by omega
      have := (frontOK_spec (hf i ops[i] (by simp [his]) hi)).2.1 d j (by rw [dstOf_eq] at h1; simpa [his] using h1) hlt
      exact absurd h2 this
  · obtain ⟨d, e1, e2, e3, ⟨j, o', e4, e5, e6⟩, _⟩ := (frontOK_spec (hf i o ho hi)).2.2.2 t a x hop
    exact ⟨d, e1, e2, e3, j, o', e4, by simpa using e5, e6⟩
  · rcases Nat.lt_trichotomy i j with hlt | he | hlt
    · obtain ⟨d', e1, _, _, _, e5⟩ := (frontOK_spec (hf j o' ho' hj)).2.2.2 t' _ x' h2
      cases e1
      exact absurd h1 (e5 i o t x hlt (by simpa using ho))
    · exact he
    · obtain ⟨d', e1, _, _, _, e5⟩ := (frontOK_spec (hf i o ho hi)).2.2.2 t _ x h1
      cases e1
      exact absurd h2 (e5 j o' t' x' hlt (by simpa using ho'))
  · have := (hsp i o (by simpa using ho)).2.2.1 (by omega)
    exact sufOK_spec hdc _ _ this (fun m hm => by simp at hm; subst hm; exact hl) j (by omega)
  · have := (hsp i o (by simpa using ho)).2.2.2
    simp [noDefer, e] at this

/-! ### The temporaries of what has come up -/

def tmL (S0 : Tms) (dst : Nat → Option Nat) (val : Nat → IV) (ℓ : Nat → Bool) : Nat → Tms
  | 0 => S0
  | k + 1 => match ℓ k, dst k with
    | true, some d => (d, val k) :: tmL S0 dst val ℓ k
    | _, _ => tmL S0 dst val ℓ k

section
variable {S0 : Tms} {dst : Nat → Option Nat} {val : Nat → IV} {ℓ : Nat → Bool}

theorem look_tmL_none {d : Nat} : ∀ {k : Nat}, (∀ i, i < k → ℓ i = true → dst i ≠ some d) → look (tmL S0 dst val ℓ k) d = look S0 d
  | 0, _ => rfl
  | k + 1, h => by
    have ih := look_tmL_none (d := d) (k := k) fun i hi => h i (by omega)
    simp only [tmL]
    split
    · rename_i d' h1 h2
      rw [look_cons, if_neg]
      · exact ih
      · intro e; subst e; exact h k (by omega) h1 h2
    · exact ih

theorem look_tmL_some {d i : Nat} : ∀ {k : Nat}, (∀ j, j < k → dst j = some d → j = i) → i < k → ℓ i = true → dst i = some d → look (tmL S0 dst val ℓ k) d = val i
  | k + 1, hinj, hi, hl, hd => by
    simp only [tmL]
    by_cases hik : i = k
    · subst hik
      rw [hl, hd]
      simp only
      rw [look_cons, if_pos rfl]
    · have ih := look_tmL_some (d := d) (i := i) (k := k) (fun j hj => hinj j (by omega)) (by omega) hl hd
      split
      · rename_i d' h1 h2
        rw [look_cons, if_neg]
        · exact ih
        · intro e; subst e; exact hik (hinj k (by omega) h2).symm
      · exact ih

theorem tmL_congr {val' : Nat → IV} : ∀ {k : Nat}, (∀ j, j < k → val' j = val j) → tmL S0 dst val' ℓ k = tmL S0 dst val ℓ k
  | 0, _ => rfl
  | k + 1, h => by simp only [tmL]; rw [tmL_congr (k := k) fun j hj => h j (by omega), h k (by omega)]
end

/-! ### What the order of the text tells of the front -/

section
variable {C : Con} {Γ : Env} {all : List Oper} {cr : List Nat}

/-- The state before operation 'i' of the front. -/
def lex (S0 : St) (all : List Oper) (val : Nat → IV) (i : Nat) : St := ⟨tmL S0.tm (dstOf all) val (fun _ => true) i, S0.ce, S0.up⟩

structure Fact (C : Con) (Γ : Env) (all : List Oper) (cr : List Nat) (S0 : St) (val : Nat → IV) (act : Nat → Bool) (i : Nat) (o : Oper) : Prop where
  guard : match o.guard with
    | none => act i = true
    | some (j, want) => ∃ t, dstOf all j = some t ∧ ((∃ b, look (lex S0 all val i).tm t = .bool b ∧ act i = (want == b)) ∨ (look (lex S0 all val i).tm t = .tup [] ∧ act i = false))
  nt : ∀ d, o.dst = some d → d < Γ.nt
  off : act i = false → val i = .tup []
  alloc : act i = true → ∀ t, o.op = .alloc t → 0 < (Γ.T t).size ∧ val i = .dead
  box : act i = true → ∀ t x, o.op = .box t x → (∃ c, cellsI (evo Γ (lex S0 all val i) x) = some c) ∧ val i = .dead
  store : act i = true → ∀ t a x, o.op = .store t a x → 0 < (Γ.T t).size ∧ ∃ c, cellsI (evo Γ (lex S0 all val i) x) = some c ∧ c.length = (Γ.T t).size
  other : act i = true → (∀ t, o.op ≠ .alloc t) → (∀ t x, o.op ≠ .box t x) → (∀ t a x, o.op ≠ .store t a x) →
    (∀ K : IV → Prop, K (val i) → pval C Γ (lex S0 all val i) o K) ∧ tagOK cr (lex S0 all val i) o (val i) = true

def putS (S : St) (d : Option Nat) (v : IV) : St := match d with
  | some t => ⟨(t, v) :: S.tm, S.ce, S.up⟩
  | none => S

theorem putT_spec {S : St} {d : Option Nat} {v : IV} {K : St → Prop} (h : putT Γ S d v K) : (∀ t, d = some t → t < Γ.nt) ∧ K (putS S d v) := by
  obtain ⟨tm, ce, up⟩ := S
  cases d with
  | none => exact ⟨nofun, h⟩
  | some t =>
    simp only [putT] at h
    split at h
    · rename_i hn; exact ⟨fun t' e => by cases e; exact blt_lt hn, h⟩
    · exact h.elim

/-- The state is the one before operation 'i'. -/
structure Is (S0 : St) (all : List Oper) (val : Nat → IV) (i : Nat) (S : St) : Prop where
  tm : ∀ t, look S.tm t = look (lex S0 all val i).tm t
  ce : S.ce = S0.ce
  up : S.up = S0.up

theorem Is.alike {S0 S : St} {val : Nat → IV} {i : Nat} (h : Is S0 all val i S) (ts : List Nat) : Alike ts S (lex S0 all val i) := ⟨fun t _ => h.tm t, h.ce, h.up⟩

theorem evo_is {S0 S : St} {val : Nat → IV} {i : Nat} (h : Is S0 all val i S) (x : Operand) : evo Γ S x = evo Γ (lex S0 all val i) x := by
  cases x <;> simp [evo]
  exact h.tm _

theorem Is.put {S0 S : St} {val : Nat → IV} {i : Nat} {o : Oper} (h : Is S0 all val i S) (ho : all[i]? = some o) :
    Is S0 all val (i + 1) (putS S o.dst (val i)) := by
  have hd : dstOf all i = o.dst := by rw [dstOf_eq, ho]; rfl
  cases hdo : o.dst with
  | none =>
    refine ⟨fun t => ?_, h.ce, h.up⟩
    simp only [putS, lex, tmL, hd, hdo]
    exact h.tm t
  | some d =>
    refine ⟨fun t => ?_, h.ce, h.up⟩
    simp only [putS, lex, tmL, hd, hdo]
    rw [look_cons, look_cons]
    split
    · rfl
    · exact h.tm t

theorem Is.congr {S0 S : St} {val val' : Nat → IV} {i : Nat} (h : Is S0 all val i S) (hv : ∀ j, j < i → val' j = val j) : Is S0 all val' i S := by
  refine ⟨fun t => ?_, h.ce, h.up⟩
  rw [h.tm t]; simp only [lex]; rw [tmL_congr hv]

theorem Fact.congr {S0 : St} {val val' : Nat → IV} {act act' : Nat → Bool} {i : Nat} {o : Oper} (h : Fact C Γ all cr S0 val act i o) (hv : ∀ j, j ≤ i → val' j = val j) (ha : act' i = act i) : Fact C Γ all cr S0 val' act' i o := by
  have hl : lex S0 all val' i = lex S0 all val i := by simp only [lex]; rw [tmL_congr fun j hj => hv j (by omega)]
  refine ⟨?_, h.nt, ?_, ?_, ?_, ?_, ?_⟩
  · rw [hl, ha]; exact h.guard
  · rw [ha, hv i (Nat.le_refl _)]; exact h.off
  · rw [ha, hv i (Nat.le_refl _)]; exact h.alloc
  · rw [ha, hv i (Nat.le_refl _), hl]; exact h.box
  · rw [ha, hl]; exact h.store
  · rw [ha, hv i (Nat.le_refl _), hl]; exact h.other

def setF {α : Type} (f : Nat → α) (i : Nat) (v : α) : Nat → α := fun j => if j = i then v else f j
theorem setF_self {α : Type} (f : Nat → α) (i : Nat) (v : α) : setF f i v i = v := by simp [setF]
theorem setF_lt {α : Type} (f : Nat → α) (i : Nat) (v : α) {j : Nat} (h : j < i) : setF f i v j = f j := by simp [setF]; omega

/-- One operation, not guarded away. -/
theorem pstep_spec {S0 S : St} {val : Nat → IV} {act : Nat → Bool} {i : Nat} {o : Oper} {K : St → Prop} (h : pstep C Γ cr S o K) (hs : Is S0 all val i S) (ho : all[i]? = some o)
    (hg : match o.guard with
      | none => True
      | some (j, want) => ∃ t, dstOf all j = some t ∧ ((∃ b, look (lex S0 all val i).tm t = .bool b ∧ true = (want == b)) ∨ (look (lex S0 all val i).tm t = .tup [] ∧ true = false)))
    (hst : ∀ t a x, o.op = .store t a x → o.dst = none) :
    ∃ v S', Fact C Γ all cr S0 (setF val i v) (setF act i true) i o ∧ Is S0 all (setF val i v) (i + 1) S' ∧ K S' := by
  have hlex : ∀ v, lex S0 all (setF val i v) i = lex S0 all val i := fun v => by simp only [lex]; rw [tmL_congr fun j hj => setF_lt val i v hj]
  have his : ∀ v, Is S0 all (setF val i v) i S := fun v => hs.congr fun j hj => setF_lt val i v hj
  have hg' : ∀ v, match o.guard with
    | none => setF act i true i = true
    | some (j, want) => ∃ t, dstOf all j = some t ∧ ((∃ b, look (lex S0 all (setF val i v) i).tm t = .bool b ∧ setF act i true i = (want == b)) ∨ (look (lex S0 all (setF val i v) i).tm t = .tup [] ∧ setF act i true i = false)) := fun v => by
    rw [hlex, setF_self]
    split
    · rfl
    · rename_i j want e; rw [e] at hg; exact hg
  have fin : ∀ v, K (putS S o.dst v) → (∀ d, o.dst = some d → d < Γ.nt) →
      (∀ t, o.op = .alloc t → 0 < (Γ.T t).size ∧ v = .dead) → (∀ t x, o.op = .box t x → (∃ c, cellsI (evo Γ (lex S0 all val i) x) = some c) ∧ v = .dead) →
      (∀ t a x, o.op = .store t a x → 0 < (Γ.T t).size ∧ ∃ c, cellsI (evo Γ (lex S0 all val i) x) = some c ∧ c.length = (Γ.T t).size) →
      ((∀ t, o.op ≠ .alloc t) → (∀ t x, o.op ≠ .box t x) → (∀ t a x, o.op ≠ .store t a x) → (∀ K : IV → Prop, K v → pval C Γ (lex S0 all val i) o K) ∧ tagOK cr (lex S0 all val i) o v = true) →
      ∃ v S', Fact C Γ all cr S0 (setF val i v) (setF act i true) i o ∧ Is S0 all (setF val i v) (i + 1) S' ∧ K S' := fun v hk hn h1 h2 h3 h4 => by
    refine ⟨v, _, ⟨hg' v, hn, fun e => (by rw [setF_self] at e; cases e), fun _ t e => ?_, fun _ t x e => ?_, fun _ t a x e => ?_, fun _ e1 e2 e3 => ?_⟩, (his v).put ho, ?_⟩
    · rw [setF_self]; exact h1 t e
    · rw [setF_self, hlex]; exact h2 t x e
    · rw [hlex]; exact h3 t a x e
    · rw [setF_self, hlex]; exact h4 e1 e2 e3
    · rw [setF_self]; exact hk
  unfold pstep at h
  split at h
  · rename_i t hop
    obtain ⟨h0, h⟩ := tyK_spec h
    obtain ⟨hn, hk⟩ := putT_spec h
    exact fin .dead hk hn (fun t' e => (by rw [hop] at e; cases e; exact ⟨h0, rfl⟩)) (fun t' x e => by rw [hop] at e; cases e) (fun t' a x e => by rw [hop] at e; cases e) (fun e => absurd hop (e t))
  · rename_i t x hop
    rw [ev_eq] at h
    split at h
    · rename_i c hc
      obtain ⟨hn, hk⟩ := putT_spec h
      exact fin .dead hk hn (fun t' e => by rw [hop] at e; cases e) (fun t' x' e => (by rw [hop] at e; cases e; exact ⟨⟨c, by rw [← evo_is hs]; exact hc⟩, rfl⟩)) (fun t' a x e => by rw [hop] at e; cases e) (fun _ e => absurd hop (e t x))
    · exact h.elim
  · rename_i t a x hop
    obtain ⟨h0, h⟩ := tyK_spec h
    rw [ev_eq] at h
    obtain ⟨c, hc, hl, hk⟩ := cellsK_spec h
    have hd := hst t a x hop
    refine fin .dead (by rw [hd]; exact hk) (fun d e => by rw [hd] at e; cases e) (fun t' e => by rw [hop] at e; cases e) (fun t' x' e => by rw [hop] at e; cases e)
      (fun t' a' x' e => (by rw [hop] at e; cases e; exact ⟨h0, c, by rw [← evo_is hs]; exact hc, hl⟩)) (fun _ _ e => absurd hop (e t a x))
  · rename_i n1 n2 n3
    obtain ⟨v, h1, h2⟩ := pval_wit h
    split at h1
    · rename_i ht
      obtain ⟨hn, hk⟩ := putT_spec h1
      refine fin v hk hn (fun t e => (n1 t e).elim) (fun t x e => (n2 t x e).elim) (fun t a x e => (n3 t a x e).elim) (fun _ _ _ => ⟨fun K' hk' => pval_alike (hs.alike _) (h2 K' hk'), ?_⟩)
      rw [← tagOK_alike fun t _ => hs.tm t]; exact ht
    · exact h1.elim

theorem pres_spec {S0 : St} {K : St → Prop} (hst : ∀ (i : Nat) o t a x, all[i]? = some o → o ∈ all → o.op = .store t a x → True) {p : Nat}
    (hstd : ∀ (i : Nat) o t a x, i < p → all[i]? = some o → o.op = .store t a x → o.dst = none) :
    ∀ (rest : List Oper) (i : Nat) (val : Nat → IV) (act : Nat → Bool) (S : St), i + rest.length = p → (∀ j, j < rest.length → rest[j]? = all[i + j]?) → Is S0 all val i S →
      (∀ (j : Nat) o, j < i → all[j]? = some o → Fact C Γ all cr S0 val act j o) → pres C Γ all cr rest K S →
      ∃ val' act' S', (∀ (j : Nat) o, j < p → all[j]? = some o → Fact C Γ all cr S0 val' act' j o) ∧ Is S0 all val' p S' ∧ K S'
  | [], i, val, act, S, hp, hr, hs, hf, h => by
    simp at hp; subst hp
    exact ⟨val, act, S, hf, hs, h⟩
  | o :: rest, i, val, act, S, hp, hr, hs, hf, h => by
    have ho : all[i]? = some o := by have := hr 0 (by simp); simpa using this.symm
    have hp' : i + 1 + rest.length = p := by simp at hp; omega
    have hr' : ∀ j, j < rest.length → rest[j]? = all[i + 1 + j]? := fun j hj => by
      have := hr (j + 1) (by simp; omega)
      simp at this; rw [this]; congr 1; omega
    have next : ∀ v b (S' : St), Fact C Γ all cr S0 (setF val i v) (setF act i b) i o → Is S0 all (setF val i v) (i + 1) S' → pres C Γ all cr rest K S' →
        ∃ val' act' S', (∀ (j : Nat) o, j < p → all[j]? = some o → Fact C Γ all cr S0 val' act' j o) ∧ Is S0 all val' p S' ∧ K S' := fun v b S' hF hS' hk =>
      pres_spec hst hstd rest (i + 1) (setF val i v) (setF act i b) S' hp' hr' hS' (fun j o' hj ho' => by
        rcases Nat.lt_or_ge j i with hlt | hge
        · exact (hf j o' hlt ho').congr (fun k hk => setF_lt val i v (by omega)) (setF_lt act i b hlt)
        · have : j = i := by omega
          subst this; rw [ho] at ho'; cases ho'; exact hF) hk
    have hlex : ∀ v, lex S0 all (setF val i v) i = lex S0 all val i := fun v => by simp only [lex]; rw [tmL_congr fun j hj => setF_lt val i v hj]
    simp only [pres] at h
    have hst' : ∀ t a x, o.op = .store t a x → o.dst = none := fun t a x e => hstd i o t a x (by simp at hp; omega) ho e
    split at h
    · rename_i hg
      obtain ⟨v, S', h1, h2, h3⟩ := pstep_spec (act := act) h hs ho (by rw [hg]; trivial) hst'
      exact next v true S' h1 h2 h3
    · rename_i j want hg
      split at h
      · exact h.elim
      · rename_i t hd
        split at h
        · rename_i b hb
          have hb' : look (lex S0 all val i).tm t = .bool b := by rw [← hs.tm]; exact hb
          have h := brk_spec h
          obtain ⟨_, h⟩ := putT_spec h
          simp only [putS] at h ⊢
          have hs2 : Is S0 all val i ⟨(t, .bool b) :: S.tm, S.ce, S.up⟩ := by
            refine ⟨fun t' => ?_, hs.ce, hs.up⟩
            simp only [look_cons]
            split
            · rename_i e; subst e; exact hb'.symm
            · exact hs.tm t'
          have live : pstep C Γ cr ⟨(t, .bool b) :: S.tm, S.ce, S.up⟩ o (pres C Γ all cr rest K) → want = b → ∃ val' act' S', (∀ (j : Nat) o, j < p → all[j]? = some o → Fact C Γ all cr S0 val' act' j o) ∧ Is S0 all val' p S' ∧ K S' := fun h e => by
            obtain ⟨v, S', h1, h2, h3⟩ := pstep_spec (act := act) h hs2 ho (by rw [hg]; exact ⟨t, hd, .inl ⟨b, hb', by simp [e]⟩⟩) hst'
            exact next v true S' h1 h2 h3
          have dead : putT Γ ⟨(t, .bool b) :: S.tm, S.ce, S.up⟩ o.dst (.tup []) (pres C Γ all cr rest K) → want ≠ b → ∃ val' act' S', (∀ (j : Nat) o, j < p → all[j]? = some o → Fact C Γ all cr S0 val' act' j o) ∧ Is S0 all val' p S' ∧ K S' := fun h e => by
            obtain ⟨hn, hk⟩ := putT_spec h
            have hfalse : ∀ {q : Prop}, setF act i false i = true → q := fun h => by rw [setF_self] at h; cases h
            refine next (.tup []) false _ ⟨?_, hn, fun _ => setF_self val i (.tup []), fun h => hfalse h, fun h => hfalse h, fun h => hfalse h, fun h => hfalse h⟩ ((hs2.congr fun j hj => setF_lt val i (.tup []) hj).put ho) ?_
            · rw [hg]; simp only; rw [hlex, setF_self]
              exact ⟨t, hd, .inl ⟨b, hb', by cases want <;> cases b <;> simp at e ⊢⟩⟩
            · rw [setF_self]; exact hk
          cases want <;> cases b <;> simp only at h
          · exact live h rfl
          · exact dead h nofun
          · exact dead h nofun
          · exact live h rfl
        · rename_i hb
          have hb' : look (lex S0 all val i).tm t = .tup [] := by rw [← hs.tm]; exact hb
          obtain ⟨hn, hk⟩ := putT_spec h
          have hfalse : ∀ {q : Prop}, setF act i false i = true → q := fun h => by rw [setF_self] at h; cases h
          refine next (.tup []) false _ ⟨?_, hn, fun _ => setF_self val i (.tup []), fun h => hfalse h, fun h => hfalse h, fun h => hfalse h, fun h => hfalse h⟩ ((hs.congr fun j hj => setF_lt val i (.tup []) hj).put ho) ?_
          · rw [hg]; simp only; rw [hlex, setF_self]
            exact ⟨t, hd, .inr ⟨hb', rfl⟩⟩
          · rw [setF_self]; exact hk
        · exact h.elim

end
end Go.Proofs.YtllmejkmogepjaaDoor.Ix
