/-
  Ix23: code, in the frames of activations and of rounds, what is carried beside the relation left open.
-/
import Derived.Test.YtllmejkmogepjaaDoorX14
import Derived.OrdersIn
import Derived.RangeFuncIn
import Derived.RangeFuncLeaves
namespace Go.Proofs.YtllmejkmogepjaaDoor.Ix
set_option linter.unusedVariables false
set_option linter.unusedSimpArgs false

def Fw (r : Option Nat) : Fence := { Fence.wide with round := r }

theorem Fw_room (r : Option Nat) (k : Nat) : (Fw r).room k := fun d h => (by cases h)

theorem callsIn_of {r : Option Nat} {n : Nat} {P : Program} {f : FuncId} {args : Array Value} {w : World} {R : Ending → World → Prop} (h : Calls P f args w R) : CallsIn (Fw r) n P f args w R := by
  have h' := (callsIn_wide (n := n)).2 h
  cases r with
  | none => exact h'
  | some l => exact h'

theorem rowsIn_of {r : Option Nat} {n : Nat} {P : Program} {row : String} {args : Array Value} {w : World} {R : Value → World → Prop} (h : Rows P row args w R) : RowsIn (Fw r) n P row args w R := by
  intro c cs _
  obtain ⟨v, w', h1, h2⟩ := h c cs
  refine ⟨v, w', h1, ?_⟩
  have h3 := stepsIn_wide.2 h2
  cases r with
  | none => exact h3
  | some l => exact h3

theorem wpIn_of_wp {r : Option Nat} {n : Nat} {P : Program} {o : Oper} {a : Act} {w : World} {K : Act → World → Prop} {Q : Exit → Act → World → Prop} (hd : ∀ c, o.op ≠ .defer c) (h : o.wp P a w K Q) : o.wpIn (Fw r) n P a w K Q := by
  refine ⟨fun _ _ => trivial, ?_⟩
  rw [Oper.semAt_eq _ _ _ hd]
  unfold Oper.wp at h
  generalize (execOp a.eval o).run P w = x at *
  cases x with
  | ok y w' =>
    cases y <;> simp only [Oper.upon] at h <;> simp only [Oper.uponIn] <;>
      first
        | exact h
        | exact ⟨fun e => (by cases e), callsIn_of h⟩
        | exact ⟨fun e => (by cases e), rowsIn_of h⟩
  | halt y w' => cases y <;> simp only [Oper.upon] at h <;> simp only [Oper.uponIn] <;> exact h

theorem wpOpIn_of_wpOp {r : Option Nat} {n : Nat} {P : Program} {ops : Array Oper} {Q : Exit → Act → World → Prop} (hQ : ¬ LetsOut Q) (hd : ∀ (i : Nat) o, ops[i]? = some o → ∀ c, o.op ≠ .defer c) {i : Nat} {K : Act → World → Prop} {a : Act} {w : World}
    (h : wpOp P ops Q i K a w) : wpOpIn (Fw r) n P ops Q i K a w := by
  unfold wpOp at h
  unfold wpOpIn
  cases ho : ops[i]? with
  | none => simp only [ho] at h ⊢; exact h
  | some o =>
    simp only [ho] at h ⊢
    by_cases hw : Region.wanted o (yielded ops a.tmps) = true
    · rw [if_pos hw] at h ⊢
      rcases h with h | h
      · exact wpIn_of_wp (hd i o ho) h
      · exact absurd h.2 hQ
    · rw [if_neg hw] at h ⊢
      exact ⟨fun _ _ => trivial, h⟩

theorem wpAnyIn_of_wpAny {r : Option Nat} {n : Nat} {P : Program} {md : Region.Mode} {ops : Array Oper} {Q : Exit → Act → World → Prop} (hQ : ¬ LetsOut Q) (hd : ∀ (i : Nat) o, ops[i]? = some o → ∀ c, o.op ≠ .defer c) :
    ∀ (fuel : Nat) (listed : Array Bool) (a : Act) (w : World), wpAny P md ops Q fuel listed a w → wpAnyIn (Fw r) n P md ops Q fuel listed a w
  | 0, _, _, _, h => h
  | fuel + 1, _, _, _, h => ⟨h.1, fun i hi => wpOpIn_mono (fun a' w' h' => wpAnyIn_of_wpAny hQ hd fuel _ a' w' h') (wpOpIn_of_wpOp hQ hd (h.2 i hi))⟩

/-- What is carried beside the relation: something of the world, which hangs on the number of the levels; and what has become of the world. -/
structure Way where
  wr : Nat → Bool
  T : Nat → World → Imm → (Nat → Prop) → Prop
  E : World → Imm → (Nat → Prop) → World → Imm → (Nat → Prop) → Prop
  refl : ∀ w I X, E w I X w I X
  trans : ∀ {w I X w' I' X' w'' I'' X''}, E w I X w' I' X' → E w' I' X' w'' I'' X'' → E w I X w'' I'' X''

section
variable {Γ : Env} {S : St} {a : Act} {w : World} {I : Imm} {X : Nat → Prop} {β : Beta} {σ : Nat → Sig} {K : St → Prop} {W : Way}

def Same (W : Way) (a a' : Act) : Prop := ∀ i, W.wr i = false → a'.tmps.getD i undef = a.tmps.getD i undef

theorem Same.refl (W : Way) (a : Act) : Same W a a := fun _ _ => rfl
theorem Same.trans {W : Way} {a a' a'' : Act} (h : Same W a a') (k : Same W a' a'') : Same W a a'' := fun i hi => (k i hi).trans (h i hi)
theorem Same.put {W : Way} (a : Act) {d : Option Nat} (v : Value) (h : ∀ t, d = some t → W.wr t = true) : Same W a (a.put d v) := fun i hi => by
  cases hd : d with
  | none => rfl
  | some t =>
    have hne : t ≠ i := fun e => by have := h t hd; rw [e, hi] at this; cases this
    simp only [Act.put, Array.getD_eq_getD_getElem?]
    rw [Array.getElem?_setIfInBounds_ne hne]

def AftG (Γ : Env) (W : Way) (K : St → Prop) (I : Imm) (X : Nat → Prop) (w : World) (β : Beta) (σ : Nat → Sig) (a : Act) (a' : Act) (w' : World) : Prop :=
  ∃ S' I' X' β' σ', K S' ∧ Rel Γ S' a' w' I' X' β' σ' ∧ W.T S'.up.length w' I' X' ∧ W.E w I X w' I' X' ∧ Above β β' σ σ' ∧ Same W a a'

theorem AftG.trans {K : St → Prop} {I' : Imm} {X' : Nat → Prop} {w' : World} {β' : Beta} {σ' : Nat → Sig} {a'' : Act} {w'' : World} {a' : Act} (he : W.E w I X w' I' X') (ha : Above β β' σ σ') (hs : Same W a a') (h : AftG Γ W K I' X' w' β' σ' a' a'' w'') : AftG Γ W K I X w β σ a a'' w'' :=
  let ⟨S', I2, X2, β2, σ2, h1, h2, h3, h4, h5, h6⟩ := h
  ⟨S', I2, X2, β2, σ2, h1, h2, h3, W.trans he h4, ha.trans h5, hs.trans h6⟩

def QRG (Γ : Env) (W : Way) (Q : Ex → St → Prop) (I : Imm) (X : Nat → Prop) (w : World) (β : Beta) (σ : Nat → Sig) (a : Act) : Exit → Act → World → Prop
  | .normal, a', w' => AftG Γ W (Q .normal) I X w β σ a a' w'
  | .exit id, a', w' => AftG Γ W (Q (.exit id)) I X w β σ a a' w'
  | .ret, a', w' => AftG Γ W (Q .ret) I X w β σ a a' w'
  | _, _, _ => False

theorem QRG.trans {Q : Ex → St → Prop} {I' : Imm} {X' : Nat → Prop} {w' : World} {β' : Beta} {σ' : Nat → Sig} {a' : Act} (he : W.E w I X w' I' X') (ha : Above β β' σ σ') (hs : Same W a a') {e : Exit} {a'' : Act} {w'' : World}
    (h : QRG Γ W Q I' X' w' β' σ' a' e a'' w'') : QRG Γ W Q I X w β σ a e a'' w'' := by
  cases e with
  | normal => exact AftG.trans (K := Q .normal) he ha hs h
  | exit id => exact AftG.trans (K := Q (.exit id)) he ha hs h
  | ret => exact AftG.trans (K := Q .ret) he ha hs h
  | goto l => exact h
  | panic c => exact h
  | outgrown => exact h

def OpOK (C : Con) (Γ : Env) (W : Way) (r : Option Nat) (n : Nat) : Prop := ∀ (o : Oper) (S : St) (K : St → Prop) (a : Act) (w : World) (I : Imm) (X : Nat → Prop) (β : Beta) (σ : Nat → Sig) (Q : Exit → Act → World → Prop),
  (∀ d, o.dst = some d → W.wr d = true) → iop C Γ S o K → Rel Γ S a w I X β σ → W.T S.up.length w I X → o.wpIn (Fw r) n Γ.P a w (AftG Γ W K I X w β σ a) Q

theorem iop1_soundG {C : Con} {r : Option Nat} {n : Nat} (hop : OpOK C Γ W r n) {ops : Array Oper} (o : Oper) (hwr : ∀ d, o.dst = some d → W.wr d = true)
    (h : iop1 C Γ ops.toList o K S) (hr : Rel Γ S a w I X β σ) (ht : W.T S.up.length w I X) (Q : Exit → Act → World → Prop) :
    if Region.wanted o (yielded ops a.tmps) then o.wpIn (Fw r) n Γ.P a w (AftG Γ W K I X w β σ a) Q else AftG Γ W K I X w β σ a (a.put o.dst undef) w := by
  have dead : ∀ {S : St}, putT Γ S o.dst (.tup []) K → Rel Γ S a w I X β σ → W.T S.up.length w I X → AftG Γ W K I X w β σ a (a.put o.dst undef) w := by
    intro S h hr ht
    obtain ⟨S', k1, k2⟩ := putT_sound h hr (v := undef) (.data D.und)
    have hup : S'.up = S.up ∧ K S' ∨ True := .inr trivial
    obtain ⟨tm, ce, up⟩ := S
    cases hd : o.dst with
    | none =>
      rw [hd] at h
      exact ⟨_, I, X, β, σ, h, by simpa [Act.put] using hr, ht, W.refl _ _ _, .refl _ _, Same.refl _ _⟩
    | some d =>
      rw [hd] at h
      simp only [putT] at h
      split at h
      · rename_i hn
        exact ⟨_, I, X, β, σ, h, hr.put (blt_lt hn) (.data D.und), ht, W.refl _ _ _, .refl _ _, Same.put a undef (fun t e => hwr t (by rw [hd, e]))⟩
      · exact h.elim
  unfold iop1 at h
  split at h
  · rename_i hg
    have : Region.wanted o (yielded ops a.tmps) = true := by simp [Region.wanted, hg]
    rw [if_pos this]
    exact hop o S K a w I X β σ Q hwr h hr ht
  · rename_i j want hg
    split at h
    · exact h.elim
    · rename_i t hd
      split at h
      · rename_i b hb
        have hv := hr.tm t
        rw [hb] at hv
        have hval := hv.bool_inv
        have hy := yielded_of hd hval
        have h := brk_spec h
        obtain ⟨tm, ce, up⟩ := S
        simp only [putT] at h
        split at h
        · have r' := hr.tell (t := t) (v := .bool b) (by rw [hval]; exact .data (.bool b))
          cases want <;> cases b <;> simp only at h
          · have : Region.wanted o (yielded ops a.tmps) = true := by simp [Region.wanted, hg, hy]
            rw [if_pos this]; exact hop o _ K a w I X β σ Q hwr h r' ht
          · have : ¬ Region.wanted o (yielded ops a.tmps) = true := by simp [Region.wanted, hg, hy]
            rw [if_neg this]
            exact dead h r' ht
          · have : ¬ Region.wanted o (yielded ops a.tmps) = true := by simp [Region.wanted, hg, hy]
            rw [if_neg this]
            exact dead h r' ht
          · have : Region.wanted o (yielded ops a.tmps) = true := by simp [Region.wanted, hg, hy]
            rw [if_pos this]; exact hop o _ K a w I X β σ Q hwr h r' ht
        · exact h.elim
      · rename_i hb
        have hv := hr.tm t
        rw [hb] at hv
        have hy := yielded_und hd hv.und_inv
        have : ¬ Region.wanted o (yielded ops a.tmps) = true := by simp [Region.wanted, hg, hy]
        rw [if_neg this]
        exact dead h hr ht
      · exact h.elim

theorem iops_soundG {C : Con} {r : Option Nat} {n : Nat} (hop : OpOK C Γ W r n) {ops : Array Oper} {Q : Exit → Act → World → Prop} (hwr : ∀ o ∈ ops.toList, ∀ d, o.dst = some d → W.wr d = true)
    (hQ : ∀ a' w', AftG Γ W K I X w β σ a a' w' → Q .normal a' w') :
    ∀ (rest : List Oper) (k : Nat), (∀ j, rest[j]? = ops[k + j]?) → ∀ (S' : St) (a' : Act) (w' : World) (I' : Imm) (X' : Nat → Prop) (β' : Beta) (σ' : Nat → Sig),
      iops C Γ ops.toList rest K S' → Rel Γ S' a' w' I' X' β' σ' → W.T S'.up.length w' I' X' → W.E w I X w' I' X' → Above β β' σ σ' → Same W a a' → wpOpsIn (Fw r) n Γ.P ops Q (List.range' k rest.length) a' w'
  | [], k, _, S', a', w', I', X', β', σ', h, hr, ht, he, ha, hs => by
    simp only [List.length_nil, List.range'_zero, wpOpsIn]
    exact hQ _ _ ⟨S', I', X', β', σ', h, hr, ht, he, ha, hs⟩
  | o :: rest, k, hk, S', a', w', I', X', β', σ', h, hr, ht, he, ha, hs => by
    have h0 : ops[k]? = some o := by have := hk 0; simpa using this.symm
    rw [iops_cons] at h
    have h1 := iop1_soundG hop (ops := ops) o (hwr o (List.mem_of_getElem? (i := k) (by simpa using h0))) h hr ht Q
    have next : ∀ a2 w2, AftG Γ W (fun S' => iops C Γ ops.toList rest K S') I' X' w' β' σ' a' a2 w2 → wpOpsIn (Fw r) n Γ.P ops Q (List.range' (k + 1) rest.length) a2 w2 := by
      rintro a2 w2 ⟨S2, I2, X2, β2, σ2, k1, k2, k3, k4, k5, k6⟩
      exact iops_soundG hop hwr hQ rest (k + 1) (fun j => by have := hk (j + 1); simp at this; rw [this]; congr 1; omega) S2 a2 w2 I2 X2 β2 σ2 k1 k2 k3 (W.trans he k4) (ha.trans k5) (hs.trans k6)
    simp only [List.length_cons, List.range'_succ, wpOpsIn, h0]
    split
    · rename_i hw
      rw [if_pos hw] at h1
      exact Oper.wpIn_mono next h1
    · rename_i hw
      rw [if_neg hw] at h1
      exact ⟨fun _ _ => trivial, next _ _ h1⟩

theorem dsts_mem {l : List Oper} {o : Oper} {d : Nat} (hm : o ∈ l) (hd : o.dst = some d) : d ∈ dsts l := by
  induction l with
  | nil => cases hm
  | cons y r ih =>
    unfold dsts
    rcases List.mem_cons.1 hm with rfl | hm
    · rw [hd]; simp
    · have := ih hm
      split
      · exact List.mem_cons_of_mem _ this
      · exact this

theorem QRG.noOut {Q : Ex → St → Prop} : ¬ LetsOut (QRG Γ W Q I X w β σ a) := fun ⟨_, _, h⟩ => h

theorem wpIn_loop_from {F : Fence} {n : Nat} {P : Program} {c : Code} {Q : Exit → Act → World → Prop} {a : Act} {w : World} {α : Type} (J : α → Act → World → Prop) (rk : α → Nat) (x0 : α) (h0 : J x0 a w)
    (round : ∀ x a w, J x a w → c.wpIn F n P (Exit.then (fun a' w' => ∃ x', J x' a' w' ∧ rk x' < rk x) Q) a w) : (Code.loop c).wpIn F n P Q a w := by
  intro b k cs hro hb hr
  have key : ∀ j x a w, rk x = j → J x a w →
      ∃ e a' w', Q e a' w' ∧ ArrivesIn (Machine.fenced P F) P (lone (b.atR a (.code c :: .inLoop c :: k)) cs w) b k cs e a' w' := by
    intro j
    induction j using Nat.strongRecOn with
    | _ j ih =>
      intro x a w hn hI
      obtain ⟨e, a₁, w₁, hq, harr⟩ := round x a w hI b (.inLoop c :: k) cs hro hb hr
      cases e with
      | normal =>
        obtain ⟨x', hI₁, hlt⟩ := hq
        obtain ⟨e₂, a₂, w₂, hq₂, harr₂⟩ := ih (rk x') (hn ▸ hlt) x' a₁ w₁ rfl hI₁
        exact ⟨e₂, a₂, w₂, hq₂, .of_steps (StepsIn.trans harr (.one (fenced_calm hb hr rfl) stepR_inLoop)) harr₂⟩
      | exit id => exact ⟨_, a₁, w₁, hq, .pass (x := .inLoop c) rfl (fun _ _ => .inl (by simp)) harr⟩
      | goto l => exact ⟨_, a₁, w₁, hq, .pass (x := .inLoop c) rfl (fun _ _ => .inl (by simp)) harr⟩
      | ret => exact ⟨_, a₁, w₁, hq, .pass (x := .inLoop c) rfl (fun _ _ => .inl (by simp)) harr⟩
      | panic ch => exact ⟨_, a₁, w₁, hq, .pass (x := .inLoop c) rfl (fun _ _ => .inl (by simp)) harr⟩
      | outgrown => exact ⟨_, a₁, w₁, hq, .pass (x := .inLoop c) rfl (fun _ _ => .inl (by simp)) harr⟩
  obtain ⟨e, a', w', hq, harr⟩ := key _ x0 a w rfl h0
  exact ⟨e, a', w', hq, .of_steps (.one (fenced_calm hb hr rfl) stepR_loop) harr⟩

def noDraw : Code → Bool
  | .region _ _ d => !d
  | .seq a b => noDraw a && noDraw b
  | .cond _ a b => noDraw a && noDraw b
  | .block _ c => noDraw c
  | .loop c => noDraw c
  | _ => true

theorem iwp_soundG {C : Con} {r : Option Nat} {n : Nat} (nr nd : Bool) (hop : OpOK C Γ W r n)
    (hdraw : nd = false → ∀ (id : Nat) (ops : Array Oper) (S : St) (K : St → Prop) (a : Act) (w : World) (I : Imm) (X : Nat → Prop) (β : Beta) (σ : Nat → Sig) (Q : Exit → Act → World → Prop), (∀ o ∈ ops.toList, ∀ d, o.dst = some d → W.wr d = true) → ¬ LetsOut Q → DRAW C Γ ops.toList K S → Rel Γ S a w I X β σ → W.T S.up.length w I X →
      (∀ a' w', AftG Γ W K I X w β σ a a' w' → Q .normal a' w') → (Code.region id ops true).wpIn (Fw r) n Γ.P Q a w)
    (hrange : nr = false → ∀ (f : Operand) (ps : Array Tmp) (assign body : Code) (Q : Ex → St → Prop) (S : St) (a : Act) (w : World) (I : Imm) (X : Nat → Prop) (β : Beta) (σ : Nat → Sig), (∀ d ∈ wrs (.rangeFunc f ps assign body), W.wr d = true) → iwp C Γ (.rangeFunc f ps assign body) Q S → Rel Γ S a w I X β σ → W.T S.up.length w I X →
      (Code.rangeFunc f ps assign body).wpIn (Fw r) n Γ.P (QRG Γ W Q I X w β σ a) a w) :
    ∀ (c : Code) (Q : Ex → St → Prop) (S : St) (a : Act) (w : World) (I : Imm) (X : Nat → Prop) (β : Beta) (σ : Nat → Sig), (nr = true → noRange c = true) → (nd = true → noDraw c = true) → (∀ d ∈ wrs c, W.wr d = true) → iwp C Γ c Q S → Rel Γ S a w I X β σ → W.T S.up.length w I X → c.wpIn (Fw r) n Γ.P (QRG Γ W Q I X w β σ a) a w := by
  intro c
  induction c with
  | skip => exact fun Q S a w I X β σ _ _ _ h hr ht => wpIn_skip ⟨S, I, X, β, σ, h, hr, ht, W.refl _ _ _, .refl _ _, Same.refl _ _⟩
  | label l => exact fun Q S a w I X β σ _ _ _ h hr ht => wpIn_label ⟨S, I, X, β, σ, h, hr, ht, W.refl _ _ _, .refl _ _, Same.refl _ _⟩
  | exit id => exact fun Q S a w I X β σ _ _ _ h hr ht => wpIn_exit ⟨S, I, X, β, σ, h, hr, ht, W.refl _ _ _, .refl _ _, Same.refl _ _⟩
  | ret => exact fun Q S a w I X β σ _ _ _ h hr ht => wpIn_ret ⟨S, I, X, β, σ, h, hr, ht, W.refl _ _ _, .refl _ _, Same.refl _ _⟩
  | region id ops draw =>
    intro Q S a w I X β σ _ hdd hw h hr ht
    have hwr : ∀ o ∈ ops.toList, ∀ d, o.dst = some d → W.wr d = true := fun o ho d hd => hw d (dsts_mem ho hd)
    cases draw with
    | false =>
      refine wpIn_region ?_
      have := iops_soundG hop (ops := ops) (Q := QRG Γ W Q I X w β σ a) (K := Q .normal) hwr (fun a' w' h => h) ops.toList 0 (fun j => by simp) S a w I X β σ h hr ht (W.refl _ _ _) (.refl _ _) (Same.refl _ _)
      rwa [← List.range_eq_range', Array.length_toList] at this
    | true =>
      cases nd with
      | true => have := hdd rfl; cases this
      | false => exact hdraw rfl id ops S (Q .normal) a w I X β σ _ hwr QRG.noOut h hr ht fun a' w' h => h
  | seq x y ihx ihy =>
    intro Q S a w I X β σ hn hdd hw h hr ht
    have hn1 : nr = true → noRange x = true := fun e => by have := hn e; simp [noRange] at this; exact this.1
    have hn2 : nr = true → noRange y = true := fun e => by have := hn e; simp [noRange] at this; exact this.2
    have hd1 : nd = true → noDraw x = true := fun e => by have := hdd e; simp [noDraw] at this; exact this.1
    have hd2 : nd = true → noDraw y = true := fun e => by have := hdd e; simp [noDraw] at this; exact this.2
    refine wpIn_seq (wpIn_mono (ihx _ S a w I X β σ hn1 hd1 (fun d hd => hw d (by simp [wrs, hd])) h hr ht) fun e a' w' h' => ?_)
    cases e with
    | normal =>
      obtain ⟨S', I', X', β', σ', k1, k2, k3, k4, k5, k6⟩ := h'
      exact wpIn_mono (ihy Q S' a' w' I' X' β' σ' hn2 hd2 (fun d hd => hw d (by simp [wrs, hd])) k1 k2 k3) fun e a'' w'' h'' => QRG.trans k4 k5 k6 h''
    | exit id => exact h'
    | ret => exact h'
    | goto l => exact h'
    | panic c => exact h'
    | outgrown => exact h'
  | cond c x y ihx ihy =>
    intro Q S a w I X β σ hn hdd hw h hr ht
    have hn1 : nr = true → noRange x = true := fun e => by have := hn e; simp [noRange] at this; exact this.1
    have hn2 : nr = true → noRange y = true := fun e => by have := hn e; simp [noRange] at this; exact this.2
    have hd1 : nd = true → noDraw x = true := fun e => by have := hdd e; simp [noDraw] at this; exact this.1
    have hd2 : nd = true → noDraw y = true := fun e => by have := hdd e; simp [noDraw] at this; exact this.2
    simp only [iwp] at h
    split at h
    · rename_i b hb
      have hv := evo_V hr c
      rw [hb] at hv
      have h := brk_spec h
      refine wpIn_cond hv.bool_inv ?_
      cases b with
      | true => exact ihx Q S a w I X β σ hn1 hd1 (fun d hd => hw d (by simp [wrs, hd])) h hr ht
      | false => exact ihy Q S a w I X β σ hn2 hd2 (fun d hd => hw d (by simp [wrs, hd])) h hr ht
    · exact h.elim
  | block id c ih =>
    intro Q S a w I X β σ hn hdd hw h hr ht
    refine wpIn_block (wpIn_mono (ih _ S a w I X β σ (fun e => by simpa [noRange] using hn e) (fun e => by simpa [noDraw] using hdd e) hw h hr ht) fun e a' w' h' => ?_)
    cases e with
    | normal => exact h'
    | exit id' =>
      obtain ⟨S', I', X', β', σ', k1, k2⟩ := h'
      simp only [Ex.blk] at k1
      simp only [Exit.inBlock]
      split at k1
      · rename_i e
        rw [if_pos ((beq_iff _ _).1 e)]; exact ⟨S', I', X', β', σ', k1, k2⟩
      · rename_i e
        rw [if_neg (beq_false e)]; exact ⟨S', I', X', β', σ', k1, k2⟩
    | ret => exact h'
    | goto l => exact h'
    | panic c => exact h'
    | outgrown => exact h'
  | loop c ih =>
    intro Q S a w I X β σ hn hdd hw h hr ht
    obtain ⟨Inv, rk, x0, h0, hrd⟩ := h
    obtain ⟨β1, r1, ab1⟩ := hr.le h0
    refine wpIn_loop_from (fun x a' w' => ∃ I' X' β' σ', Rel Γ (Inv x) a' w' I' X' β' σ' ∧ W.T (Inv x).up.length w' I' X' ∧ W.E w I X w' I' X' ∧ Above β β' σ σ' ∧ Same W a a') rk x0 ⟨I, X, β1, σ, r1, by rw [← h0.up]; exact ht, W.refl _ _ _, ab1, Same.refl _ _⟩ ?_
    rintro x a' w' ⟨I', X', β', σ', hrel, ht', he, hab, hsm⟩
    refine wpIn_mono (ih _ (Inv x) a' w' I' X' β' σ' (fun e => by simpa [noRange] using hn e) (fun e => by simpa [noDraw] using hdd e) hw (hrd x) hrel ht') fun e a'' w'' hq => ?_
    cases e with
    | normal =>
      obtain ⟨S', I2, X2, β2, σ2, ⟨x', hle, hlt⟩, k2, k3, k4, k5, k6⟩ := hq
      obtain ⟨β3, r3, ab3⟩ := k2.le hle
      exact ⟨x', ⟨I2, X2, β3, σ2, r3, by rw [← hle.up]; exact k3, W.trans he k4, (hab.trans k5).trans ab3, hsm.trans k6⟩, hlt⟩
    | exit id => exact QRG.trans he hab hsm (show QRG Γ W Q I' X' w' β' σ' a' (.exit id) a'' w'' from hq)
    | ret => exact QRG.trans he hab hsm (show QRG Γ W Q I' X' w' β' σ' a' .ret a'' w'' from hq)
    | goto l => exact hq.elim
    | panic ch => exact hq.elim
    | outgrown => exact hq.elim
  | rangeFunc f params assign body _ _ =>
    intro Q S a w I X β σ hn hdd hw h hr ht
    cases nr with
    | true => have := hn rfl; cases this
    | false => exact hrange rfl f params assign body Q S a w I X β σ hw h hr ht
  | scope c _ => intro Q S a w I X β σ _ _ _ h; exact h.elim
  | goto l => intro Q S a w I X β σ _ _ _ h; exact h.elim
  | refuse why => intro Q S a w I X β σ _ _ _ h; exact h.elim

end
end Go.Proofs.YtllmejkmogepjaaDoor.Ix
