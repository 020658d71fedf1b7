/- YtfoenhiohhmnlaaGreatDoorM5 -/
import Derived.Test.YtfoenhiohhmnlaaGreatDoorM4
import Derived.OrdersIn
import Derived.RangeFuncIn
import Derived.RangeFuncLeaves
import Derived.RangeFuncSeq
import Derived.Laws.StructEq
import Derived.ChangeKeysEq
namespace Go.Proofs.YtfoenhiohhmnlaaGreatDoor.Ix
set_option linter.unusedVariables false
set_option linter.unusedSimpArgs false
def Fw (r : Option Nat) : Fence := { Fence.wide with round := r }
theorem Fw_room (r : Option Nat) (k : Nat) : (Fw r).room k := fun d h => (by cases h)
theorem callsIn_of {r : Option Nat} {n : Nat} {P : Program} {f : FuncId} {args : Array Value} {w : World} {R : Ending → World → Prop} (h : Calls P f args w R) : CallsIn (Fw r) n P f args w R := by
  have h' := (callsIn_wide (n := n)).2 h
  cases r with
  | none => exact h'
  | some l => exact h'
theorem rowsIn_of {r : Option Nat} {n : Nat} {P : Program} {row : String} {args : Array Value} {w : World} {R : Value → World → Prop} (h : Rows P row args w R) : RowsIn (Fw r) n P row args w R := by
  intro c cs _
  obtain ⟨v, w', h1, h2⟩ := h c cs
  refine ⟨v, w', h1, ?_⟩
  have h3 := stepsIn_wide.2 h2
  cases r with
  | none => exact h3
  | some l => exact h3
theorem wpIn_of_wp {r : Option Nat} {n : Nat} {P : Program} {o : Oper} {a : Act} {w : World} {K : Act → World → Prop} {Q : Exit → Act → World → Prop} (hd : ∀ c, o.op ≠ .defer c) (h : o.wp P a w K Q) : o.wpIn (Fw r) n P a w K Q := by
  refine ⟨fun _ _ => trivial, ?_⟩
  rw [Oper.semAt_eq _ _ _ hd]
  unfold Oper.wp at h
  generalize (execOp a.eval o).run P w = x at *
  cases x with
  | ok y w' =>
    cases y <;> simp only [Oper.upon] at h <;> simp only [Oper.uponIn] <;>
      first
        | exact h
        | exact ⟨fun e => (by cases e), callsIn_of h⟩
        | exact ⟨fun e => (by cases e), rowsIn_of h⟩
  | halt y w' => cases y <;> simp only [Oper.upon] at h <;> simp only [Oper.uponIn] <;> exact h
theorem wpOpIn_of_wpOp {r : Option Nat} {n : Nat} {P : Program} {ops : Array Oper} {Q : Exit → Act → World → Prop} (hQ : ¬ LetsOut Q) (hd : ∀ (i : Nat) o, ops[i]? = some o → ∀ c, o.op ≠ .defer c) {i : Nat} {K : Act → World → Prop} {a : Act} {w : World}
    (h : wpOp P ops Q i K a w) : wpOpIn (Fw r) n P ops Q i K a w := by
  unfold wpOp at h
  unfold wpOpIn
  cases ho : ops[i]? with
  | none => simp only [ho] at h ⊢; exact h
  | some o =>
    simp only [ho] at h ⊢
    by_cases hw : Region.wanted o (yielded ops a.tmps) = true
    · rw [if_pos hw] at h ⊢
      rcases h with h | h
      · exact wpIn_of_wp (hd i o ho) h
      · exact absurd h.2 hQ
    · rw [if_neg hw] at h ⊢
      exact ⟨fun _ _ => trivial, h⟩
theorem wpAnyIn_of_wpAny {r : Option Nat} {n : Nat} {P : Program} {md : Region.Mode} {ops : Array Oper} {Q : Exit → Act → World → Prop} (hQ : ¬ LetsOut Q) (hd : ∀ (i : Nat) o, ops[i]? = some o → ∀ c, o.op ≠ .defer c) :
    ∀ (fuel : Nat) (listed : Array Bool) (a : Act) (w : World), wpAny P md ops Q fuel listed a w → wpAnyIn (Fw r) n P md ops Q fuel listed a w
  | 0, _, _, _, h => h
  | fuel + 1, _, _, _, h => ⟨h.1, fun i hi => wpOpIn_mono (fun a' w' h' => wpAnyIn_of_wpAny hQ hd fuel _ a' w' h') (wpOpIn_of_wpOp hQ hd (h.2 i hi))⟩
structure Way where
  wr : Nat → Bool
  T : Nat → World → Imm → (Nat → Prop) → Prop
  E : World → Imm → (Nat → Prop) → World → Imm → (Nat → Prop) → Prop
  refl : ∀ w I X, E w I X w I X
  trans : ∀ {w I X w' I' X' w'' I'' X''}, E w I X w' I' X' → E w' I' X' w'' I'' X'' → E w I X w'' I'' X''
section
variable {Γ : Env} {S : St} {a : Act} {w : World} {I : Imm} {X : Nat → Prop} {β : Beta} {σ : Nat → Sig} {K : St → Prop} {W : Way}
def Same (W : Way) (a a' : Act) : Prop := ∀ i, W.wr i = false → a'.tmps.getD i undef = a.tmps.getD i undef
theorem Same.refl (W : Way) (a : Act) : Same W a a := fun _ _ => rfl
theorem Same.trans {W : Way} {a a' a'' : Act} (h : Same W a a') (k : Same W a' a'') : Same W a a'' := fun i hi => (k i hi).trans (h i hi)
theorem Same.put {W : Way} (a : Act) {d : Option Nat} (v : Value) (h : ∀ t, d = some t → W.wr t = true) : Same W a (a.put d v) := fun i hi => by
  cases hd : d with
  | none => rfl
  | some t =>
    have hne : t ≠ i := fun e => by have := h t hd; rw [e, hi] at this; cases this
    simp only [Act.put, Array.getD_eq_getD_getElem?]
    rw [Array.getElem?_setIfInBounds_ne hne]
def AftG (Γ : Env) (W : Way) (K : St → Prop) (I : Imm) (X : Nat → Prop) (w : World) (β : Beta) (σ : Nat → Sig) (a : Act) (a' : Act) (w' : World) : Prop :=
  ∃ S' I' X' β' σ', K S' ∧ Rel Γ S' a' w' I' X' β' σ' ∧ W.T S'.up.length w' I' X' ∧ W.E w I X w' I' X' ∧ Above β β' σ σ' ∧ Same W a a'
theorem AftG.trans {K : St → Prop} {I' : Imm} {X' : Nat → Prop} {w' : World} {β' : Beta} {σ' : Nat → Sig} {a'' : Act} {w'' : World} {a' : Act} (he : W.E w I X w' I' X') (ha : Above β β' σ σ') (hs : Same W a a') (h : AftG Γ W K I' X' w' β' σ' a' a'' w'') : AftG Γ W K I X w β σ a a'' w'' :=
  let ⟨S', I2, X2, β2, σ2, h1, h2, h3, h4, h5, h6⟩ := h
  ⟨S', I2, X2, β2, σ2, h1, h2, h3, W.trans he h4, ha.trans h5, hs.trans h6⟩
def QRG (Γ : Env) (W : Way) (Q : Ex → St → Prop) (I : Imm) (X : Nat → Prop) (w : World) (β : Beta) (σ : Nat → Sig) (a : Act) : Exit → Act → World → Prop
  | .normal, a', w' => AftG Γ W (Q .normal) I X w β σ a a' w'
  | .exit id, a', w' => AftG Γ W (Q (.exit id)) I X w β σ a a' w'
  | .ret, a', w' => AftG Γ W (Q .ret) I X w β σ a a' w'
  | _, _, _ => False
theorem QRG.trans {Q : Ex → St → Prop} {I' : Imm} {X' : Nat → Prop} {w' : World} {β' : Beta} {σ' : Nat → Sig} {a' : Act} (he : W.E w I X w' I' X') (ha : Above β β' σ σ') (hs : Same W a a') {e : Exit} {a'' : Act} {w'' : World}
    (h : QRG Γ W Q I' X' w' β' σ' a' e a'' w'') : QRG Γ W Q I X w β σ a e a'' w'' := by
  cases e with
  | normal => exact AftG.trans (K := Q .normal) he ha hs h
  | exit id => exact AftG.trans (K := Q (.exit id)) he ha hs h
  | ret => exact AftG.trans (K := Q .ret) he ha hs h
  | goto l => exact h
  | panic c => exact h
  | outgrown => exact h
def OpOK (C : Con) (Γ : Env) (W : Way) (r : Option Nat) (n : Nat) : Prop := ∀ (o : Oper) (S : St) (K : St → Prop) (a : Act) (w : World) (I : Imm) (X : Nat → Prop) (β : Beta) (σ : Nat → Sig) (Q : Exit → Act → World → Prop),
  (∀ d, o.dst = some d → W.wr d = true) → iop C Γ S o K → Rel Γ S a w I X β σ → W.T S.up.length w I X → o.wpIn (Fw r) n Γ.P a w (AftG Γ W K I X w β σ a) Q
theorem iop1_soundG {C : Con} {r : Option Nat} {n : Nat} (hop : OpOK C Γ W r n) {ops : Array Oper} (o : Oper) (hwr : ∀ d, o.dst = some d → W.wr d = true)
    (h : iop1 C Γ ops.toList o K S) (hr : Rel Γ S a w I X β σ) (ht : W.T S.up.length w I X) (Q : Exit → Act → World → Prop) :
    if Region.wanted o (yielded ops a.tmps) then o.wpIn (Fw r) n Γ.P a w (AftG Γ W K I X w β σ a) Q else AftG Γ W K I X w β σ a (a.put o.dst undef) w := by
  have dead : ∀ {S : St}, putT Γ S o.dst (.tup []) K → Rel Γ S a w I X β σ → W.T S.up.length w I X → AftG Γ W K I X w β σ a (a.put o.dst undef) w := by
    intro S h hr ht
    obtain ⟨S', k1, k2⟩ := putT_sound h hr (v := undef) (.data D.und)
    have hup : S'.up = S.up ∧ K S' ∨ True := .inr trivial
    obtain ⟨tm, ce, up⟩ := S
    cases hd : o.dst with
    | none =>
      rw [hd] at h
      exact ⟨_, I, X, β, σ, h, by simpa [Act.put] using hr, ht, W.refl _ _ _, .refl _ _, Same.refl _ _⟩
    | some d =>
      rw [hd] at h
      simp only [putT] at h
      split at h
      · rename_i hn
        exact ⟨_, I, X, β, σ, h, hr.put (blt_lt hn) (.data D.und), ht, W.refl _ _ _, .refl _ _, Same.put a undef (fun t e => hwr t (by rw [hd, e]))⟩
      · exact h.elim
  unfold iop1 at h
  split at h
  · rename_i hg
    have : Region.wanted o (yielded ops a.tmps) = true := by simp [Region.wanted, hg]
    rw [if_pos this]
    exact hop o S K a w I X β σ Q hwr h hr ht
  · rename_i j want hg
    split at h
    · exact h.elim
    · rename_i t hd
      split at h
      · rename_i b hb
        have hv := hr.tm t
        rw [hb] at hv
        have hval := hv.bool_inv
        have hy := yielded_of hd hval
        have h := brk_spec h
        obtain ⟨tm, ce, up⟩ := S
        simp only [putT] at h
        split at h
        · have r' := hr.tell (t := t) (v := .bool b) (by rw [hval]; exact .data (.bool b))
          cases want <;> cases b <;> simp only at h
          · have : Region.wanted o (yielded ops a.tmps) = true := by simp [Region.wanted, hg, hy]
            rw [if_pos this]; exact hop o _ K a w I X β σ Q hwr h r' ht
          · have : ¬ Region.wanted o (yielded ops a.tmps) = true := by simp [Region.wanted, hg, hy]
            rw [if_neg this]
            exact dead h r' ht
          · have : ¬ Region.wanted o (yielded ops a.tmps) = true := by simp [Region.wanted, hg, hy]
            rw [if_neg this]
            exact dead h r' ht
          · have : Region.wanted o (yielded ops a.tmps) = true := by simp [Region.wanted, hg, hy]
            rw [if_pos this]; exact hop o _ K a w I X β σ Q hwr h r' ht
        · exact h.elim
      · rename_i hb
        have hv := hr.tm t
        rw [hb] at hv
        have hy := yielded_und hd hv.und_inv
        have : ¬ Region.wanted o (yielded ops a.tmps) = true := by simp [Region.wanted, hg, hy]
        rw [if_neg this]
        exact dead h hr ht
      · exact h.elim
theorem iops_soundG {C : Con} {r : Option Nat} {n : Nat} (hop : OpOK C Γ W r n) {ops : Array Oper} {Q : Exit → Act → World → Prop} (hwr : ∀ o ∈ ops.toList, ∀ d, o.dst = some d → W.wr d = true)
    (hQ : ∀ a' w', AftG Γ W K I X w β σ a a' w' → Q .normal a' w') :
    ∀ (rest : List Oper) (k : Nat), (∀ j, rest[j]? = ops[k + j]?) → ∀ (S' : St) (a' : Act) (w' : World) (I' : Imm) (X' : Nat → Prop) (β' : Beta) (σ' : Nat → Sig),
      iops C Γ ops.toList rest K S' → Rel Γ S' a' w' I' X' β' σ' → W.T S'.up.length w' I' X' → W.E w I X w' I' X' → Above β β' σ σ' → Same W a a' → wpOpsIn (Fw r) n Γ.P ops Q (List.range' k rest.length) a' w'
  | [], k, _, S', a', w', I', X', β', σ', h, hr, ht, he, ha, hs => by
    simp only [List.length_nil, List.range'_zero, wpOpsIn]
    exact hQ _ _ ⟨S', I', X', β', σ', h, hr, ht, he, ha, hs⟩
  | o :: rest, k, hk, S', a', w', I', X', β', σ', h, hr, ht, he, ha, hs => by
    have h0 : ops[k]? = some o := by have := hk 0; simpa using this.symm
    rw [iops_cons] at h
    have h1 := iop1_soundG hop (ops := ops) o (hwr o (List.mem_of_getElem? (i := k) (by simpa using h0))) h hr ht Q
    have next : ∀ a2 w2, AftG Γ W (fun S' => iops C Γ ops.toList rest K S') I' X' w' β' σ' a' a2 w2 → wpOpsIn (Fw r) n Γ.P ops Q (List.range' (k + 1) rest.length) a2 w2 := by
      rintro a2 w2 ⟨S2, I2, X2, β2, σ2, k1, k2, k3, k4, k5, k6⟩
      exact iops_soundG hop hwr hQ rest (k + 1) (fun j => by have := hk (j + 1); simp at this; rw [this]; congr 1; omega) S2 a2 w2 I2 X2 β2 σ2 k1 k2 k3 (W.trans he k4) (ha.trans k5) (hs.trans k6)
    simp only [List.length_cons, List.range'_succ, wpOpsIn, h0]
    split
    · rename_i hw
      rw [if_pos hw] at h1
      exact Oper.wpIn_mono next h1
    · rename_i hw
      rw [if_neg hw] at h1
      exact ⟨fun _ _ => trivial, next _ _ h1⟩
theorem dsts_mem {l : List Oper} {o : Oper} {d : Nat} (hm : o ∈ l) (hd : o.dst = some d) : d ∈ dsts l := by
  induction l with
  | nil => cases hm
  | cons y r ih =>
    unfold dsts
    rcases List.mem_cons.1 hm with rfl | hm
    · rw [hd]; simp
    · have := ih hm
      split
      · exact List.mem_cons_of_mem _ this
      · exact this
theorem QRG.noOut {Q : Ex → St → Prop} : ¬ LetsOut (QRG Γ W Q I X w β σ a) := fun ⟨_, _, h⟩ => h
theorem wpIn_loop_from {F : Fence} {n : Nat} {P : Program} {c : Code} {Q : Exit → Act → World → Prop} {a : Act} {w : World} {α : Type} (J : α → Act → World → Prop) (rk : α → Nat) (x0 : α) (h0 : J x0 a w)
    (round : ∀ x a w, J x a w → c.wpIn F n P (Exit.then (fun a' w' => ∃ x', J x' a' w' ∧ rk x' < rk x) Q) a w) : (Code.loop c).wpIn F n P Q a w := by
  intro b k cs hro hb hr
  have key : ∀ j x a w, rk x = j → J x a w →
      ∃ e a' w', Q e a' w' ∧ ArrivesIn (Machine.fenced P F) P (lone (b.atR a (.code c :: .inLoop c :: k)) cs w) b k cs e a' w' := by
    intro j
    induction j using Nat.strongRecOn with
    | _ j ih =>
      intro x a w hn hI
      obtain ⟨e, a₁, w₁, hq, harr⟩ := round x a w hI b (.inLoop c :: k) cs hro hb hr
      cases e with
      | normal =>
        obtain ⟨x', hI₁, hlt⟩ := hq
        obtain ⟨e₂, a₂, w₂, hq₂, harr₂⟩ := ih (rk x') (hn ▸ hlt) x' a₁ w₁ rfl hI₁
        exact ⟨e₂, a₂, w₂, hq₂, .of_steps (StepsIn.trans harr (.one (fenced_calm hb hr rfl) stepR_inLoop)) harr₂⟩
      | exit id => exact ⟨_, a₁, w₁, hq, .pass (x := .inLoop c) rfl (fun _ _ => .inl (by simp)) harr⟩
      | goto l => exact ⟨_, a₁, w₁, hq, .pass (x := .inLoop c) rfl (fun _ _ => .inl (by simp)) harr⟩
      | ret => exact ⟨_, a₁, w₁, hq, .pass (x := .inLoop c) rfl (fun _ _ => .inl (by simp)) harr⟩
      | panic ch => exact ⟨_, a₁, w₁, hq, .pass (x := .inLoop c) rfl (fun _ _ => .inl (by simp)) harr⟩
      | outgrown => exact ⟨_, a₁, w₁, hq, .pass (x := .inLoop c) rfl (fun _ _ => .inl (by simp)) harr⟩
  obtain ⟨e, a', w', hq, harr⟩ := key _ x0 a w rfl h0
  exact ⟨e, a', w', hq, .of_steps (.one (fenced_calm hb hr rfl) stepR_loop) harr⟩
def noDraw : Code → Bool
  | .region _ _ d => !d
  | .seq a b => noDraw a && noDraw b
  | .cond _ a b => noDraw a && noDraw b
  | .block _ c => noDraw c
  | .loop c => noDraw c
  | .scope c => noDraw c
  | _ => true
theorem stepR_scope {P : Program} {b : Frame} {a : Act} {k : List Item} {cs : List Frame} {w : World} {c : Code} : step P (lone (b.atR a (.code (.scope c) :: k)) cs w) = .next (lone (b.atR a (.code c :: .inScope c :: k)) cs w) :=
  step_lone_go (by simp [stepG, stepG.exec, Frame.atR])
theorem stepR_inScope {P : Program} {b : Frame} {a : Act} {k : List Item} {cs : List Frame} {w : World} {c : Code} : step P (lone (b.atR a (.inScope c :: k)) cs w) = .next (lone (b.atR a k) cs w) :=
  step_lone_go (by simp [stepG, stepG.exec, Frame.atR])
theorem wpIn_scope {F : Fence} {n : Nat} {P : Program} {Q : Exit → Act → World → Prop} {a : Act} {w : World} {c : Code} (h : c.wpIn F n P Q a w) (hg : ∀ l a w, ¬ Q (.goto l) a w) : (Code.scope c).wpIn F n P Q a w := by
  intro b k cs hro hb hr
  have h0 : (lone (b.atR a (.code (.scope c) :: k)) cs w).fenced P F := fenced_calm hb hr rfl
  obtain ⟨e, a₁, w₁, hq, harr⟩ := h b (.inScope c :: k) cs hro hb hr
  cases e with
  | normal => exact ⟨.normal, a₁, w₁, hq, .head h0 stepR_scope (StepsIn.trans harr (.one (fenced_calm hb hr rfl) stepR_inScope))⟩
  | exit id =>
    have hx : exitTo id (.inScope c :: k) = exitTo id k := by simp [exitTo]
    exact ⟨_, a₁, w₁, hq, fun k' hk => .head h0 stepR_scope (harr.1 k' (by rw [hx]; exact hk)),
      fun hr' hk => let ⟨k₁, h1, h2⟩ := harr.2 hr' (by rw [hx]; exact hk); ⟨k₁, h1, .head h0 stepR_scope h2⟩⟩
  | goto l => exact absurd hq (hg l a₁ w₁)
  | ret => exact ⟨_, a₁, w₁, hq, .of_steps (.one h0 stepR_scope) harr⟩
  | panic ch => exact ⟨_, a₁, w₁, hq, .of_steps (.one h0 stepR_scope) harr⟩
  | outgrown => exact ⟨_, a₁, w₁, hq, .of_steps (.one h0 stepR_scope) harr⟩
theorem iwp_soundG {C : Con} {r : Option Nat} {n : Nat} (nr nd : Bool) (hop : OpOK C Γ W r n)
    (hmap : ∀ (id : Nat) (ops : Array Oper) (d : Nat) (S : St) (K : St → Prop) (a : Act) (w : World) (I : Imm) (X : Nat → Prop) (β : Beta) (σ : Nat → Sig) (Q : Exit → Act → World → Prop), (∀ o ∈ ops.toList, ∀ d, o.dst = some d → W.wr d = true) → mapHd ops.toList = some d → MAPR C Γ ops.toList d K S → Rel Γ S a w I X β σ → W.T S.up.length w I X →
      (∀ a' w', AftG Γ W K I X w β σ a a' w' → Q .normal a' w') → (Code.region id ops false).wpIn (Fw r) n Γ.P Q a w)
    (hdraw : nd = false → ∀ (id : Nat) (ops : Array Oper) (S : St) (K : St → Prop) (a : Act) (w : World) (I : Imm) (X : Nat → Prop) (β : Beta) (σ : Nat → Sig) (Q : Exit → Act → World → Prop), (∀ o ∈ ops.toList, ∀ d, o.dst = some d → W.wr d = true) → ¬ LetsOut Q → DRAWR C Γ ops.toList K S → Rel Γ S a w I X β σ → W.T S.up.length w I X →
      (∀ a' w', AftG Γ W K I X w β σ a a' w' → Q .normal a' w') → (Code.region id ops true).wpIn (Fw r) n Γ.P Q a w)
    (hrange : nr = false → ∀ (f : Operand) (ps : Array Tmp) (assign body : Code) (Q : Ex → St → Prop) (S : St) (a : Act) (w : World) (I : Imm) (X : Nat → Prop) (β : Beta) (σ : Nat → Sig), (∀ d ∈ wrs (.rangeFunc f ps assign body), W.wr d = true) → iwp C Γ (.rangeFunc f ps assign body) Q S → Rel Γ S a w I X β σ → W.T S.up.length w I X →
      (Code.rangeFunc f ps assign body).wpIn (Fw r) n Γ.P (QRG Γ W Q I X w β σ a) a w) :
    ∀ (c : Code) (Q : Ex → St → Prop) (S : St) (a : Act) (w : World) (I : Imm) (X : Nat → Prop) (β : Beta) (σ : Nat → Sig), (nr = true → noRange c = true) → (nd = true → noDraw c = true) → (∀ d ∈ wrs c, W.wr d = true) → iwp C Γ c Q S → Rel Γ S a w I X β σ → W.T S.up.length w I X → c.wpIn (Fw r) n Γ.P (QRG Γ W Q I X w β σ a) a w := by
  intro c
  induction c with
  | skip => exact fun Q S a w I X β σ _ _ _ h hr ht => wpIn_skip ⟨S, I, X, β, σ, h, hr, ht, W.refl _ _ _, .refl _ _, Same.refl _ _⟩
  | label l => exact fun Q S a w I X β σ _ _ _ h hr ht => wpIn_label ⟨S, I, X, β, σ, h, hr, ht, W.refl _ _ _, .refl _ _, Same.refl _ _⟩
  | exit id => exact fun Q S a w I X β σ _ _ _ h hr ht => wpIn_exit ⟨S, I, X, β, σ, h, hr, ht, W.refl _ _ _, .refl _ _, Same.refl _ _⟩
  | ret => exact fun Q S a w I X β σ _ _ _ h hr ht => wpIn_ret ⟨S, I, X, β, σ, h, hr, ht, W.refl _ _ _, .refl _ _, Same.refl _ _⟩
  | region id ops draw =>
    intro Q S a w I X β σ _ hdd hw h hr ht
    have hwr : ∀ o ∈ ops.toList, ∀ d, o.dst = some d → W.wr d = true := fun o ho d hd => hw d (dsts_mem ho hd)
    cases draw with
    | false =>
      simp only [iwp] at h
      cases hm : mapHd ops.toList with
      | some d =>
        rw [hm] at h
        exact hmap id ops d S (Q .normal) a w I X β σ _ hwr hm h hr ht fun a' w' h => h
      | none =>
      rw [hm] at h
      refine wpIn_region ?_
      have := iops_soundG hop (ops := ops) (Q := QRG Γ W Q I X w β σ a) (K := Q .normal) hwr (fun a' w' h => h) ops.toList 0 (fun j => by simp) S a w I X β σ h hr ht (W.refl _ _ _) (.refl _ _) (Same.refl _ _)
      rwa [← List.range_eq_range', Array.length_toList] at this
    | true =>
      cases nd with
      | true => have := hdd rfl; cases this
      | false => exact hdraw rfl id ops S (Q .normal) a w I X β σ _ hwr QRG.noOut h hr ht fun a' w' h => h
  | seq x y ihx ihy =>
    intro Q S a w I X β σ hn hdd hw h hr ht
    have hn1 : nr = true → noRange x = true := fun e => by have := hn e; simp [noRange] at this; exact this.1
    have hn2 : nr = true → noRange y = true := fun e => by have := hn e; simp [noRange] at this; exact this.2
    have hd1 : nd = true → noDraw x = true := fun e => by have := hdd e; simp [noDraw] at this; exact this.1
    have hd2 : nd = true → noDraw y = true := fun e => by have := hdd e; simp [noDraw] at this; exact this.2
    refine wpIn_seq (wpIn_mono (ihx _ S a w I X β σ hn1 hd1 (fun d hd => hw d (by simp [wrs, hd])) h hr ht) fun e a' w' h' => ?_)
    cases e with
    | normal =>
      obtain ⟨S', I', X', β', σ', k1, k2, k3, k4, k5, k6⟩ := h'
      exact wpIn_mono (ihy Q S' a' w' I' X' β' σ' hn2 hd2 (fun d hd => hw d (by simp [wrs, hd])) k1 k2 k3) fun e a'' w'' h'' => QRG.trans k4 k5 k6 h''
    | exit id => exact h'
    | ret => exact h'
    | goto l => exact h'
    | panic c => exact h'
    | outgrown => exact h'
  | cond c x y ihx ihy =>
    intro Q S a w I X β σ hn hdd hw h hr ht
    have hn1 : nr = true → noRange x = true := fun e => by have := hn e; simp [noRange] at this; exact this.1
    have hn2 : nr = true → noRange y = true := fun e => by have := hn e; simp [noRange] at this; exact this.2
    have hd1 : nd = true → noDraw x = true := fun e => by have := hdd e; simp [noDraw] at this; exact this.1
    have hd2 : nd = true → noDraw y = true := fun e => by have := hdd e; simp [noDraw] at this; exact this.2
    simp only [iwp] at h
    split at h
    · rename_i b hb
      have hv := evo_V hr c
      rw [hb] at hv
      have h := brk_spec h
      refine wpIn_cond hv.bool_inv ?_
      cases b with
      | true => exact ihx Q S a w I X β σ hn1 hd1 (fun d hd => hw d (by simp [wrs, hd])) h hr ht
      | false => exact ihy Q S a w I X β σ hn2 hd2 (fun d hd => hw d (by simp [wrs, hd])) h hr ht
    · exact h.elim
  | block id c ih =>
    intro Q S a w I X β σ hn hdd hw h hr ht
    refine wpIn_block (wpIn_mono (ih _ S a w I X β σ (fun e => by simpa [noRange] using hn e) (fun e => by simpa [noDraw] using hdd e) hw h hr ht) fun e a' w' h' => ?_)
    cases e with
    | normal => exact h'
    | exit id' =>
      obtain ⟨S', I', X', β', σ', k1, k2⟩ := h'
      simp only [Ex.blk] at k1
      simp only [Exit.inBlock]
      split at k1
      · rename_i e
        rw [if_pos ((beq_iff _ _).1 e)]; exact ⟨S', I', X', β', σ', k1, k2⟩
      · rename_i e
        rw [if_neg (beq_false e)]; exact ⟨S', I', X', β', σ', k1, k2⟩
    | ret => exact h'
    | goto l => exact h'
    | panic c => exact h'
    | outgrown => exact h'
  | loop c ih =>
    intro Q S a w I X β σ hn hdd hw h hr ht
    obtain ⟨Inv, rk, x0, h0, hrd⟩ := h
    obtain ⟨β1, r1, ab1⟩ := hr.le h0
    refine wpIn_loop_from (fun x a' w' => ∃ I' X' β' σ', Rel Γ (Inv x) a' w' I' X' β' σ' ∧ W.T (Inv x).up.length w' I' X' ∧ W.E w I X w' I' X' ∧ Above β β' σ σ' ∧ Same W a a') rk x0 ⟨I, X, β1, σ, r1, by rw [← h0.up]; exact ht, W.refl _ _ _, ab1, Same.refl _ _⟩ ?_
    rintro x a' w' ⟨I', X', β', σ', hrel, ht', he, hab, hsm⟩
    refine wpIn_mono (ih _ (Inv x) a' w' I' X' β' σ' (fun e => by simpa [noRange] using hn e) (fun e => by simpa [noDraw] using hdd e) hw (hrd x) hrel ht') fun e a'' w'' hq => ?_
    cases e with
    | normal =>
      obtain ⟨S', I2, X2, β2, σ2, ⟨x', hle, hlt⟩, k2, k3, k4, k5, k6⟩ := hq
      obtain ⟨β3, r3, ab3⟩ := k2.le hle
      exact ⟨x', ⟨I2, X2, β3, σ2, r3, by rw [← hle.up]; exact k3, W.trans he k4, (hab.trans k5).trans ab3, hsm.trans k6⟩, hlt⟩
    | exit id => exact QRG.trans he hab hsm (show QRG Γ W Q I' X' w' β' σ' a' (.exit id) a'' w'' from hq)
    | ret => exact QRG.trans he hab hsm (show QRG Γ W Q I' X' w' β' σ' a' .ret a'' w'' from hq)
    | goto l => exact hq.elim
    | panic ch => exact hq.elim
    | outgrown => exact hq.elim
  | rangeFunc f params assign body _ _ =>
    intro Q S a w I X β σ hn hdd hw h hr ht
    cases nr with
    | true => have := hn rfl; cases this
    | false => exact hrange rfl f params assign body Q S a w I X β σ hw h hr ht
  | scope c ih =>
    intro Q S a w I X β σ hn hdd hw h hr ht
    exact wpIn_scope (ih Q S a w I X β σ (fun e => by simpa [noRange] using hn e) (fun e => by simpa [noDraw] using hdd e) hw h hr ht) fun l a w hq => hq.elim
  | goto l => intro Q S a w I X β σ _ _ _ h; exact h.elim
  | refuse why => intro Q S a w I X β σ _ _ _ h; exact h.elim
end
end Go.Proofs.YtfoenhiohhmnlaaGreatDoor.Ix

namespace Go.Proofs.YtfoenhiohhmnlaaGreatDoor.Ix
set_option linter.unusedVariables false
set_option linter.unusedSimpArgs false
section
variable {C : Con} {Γ : Env} {S : St} {a : Act} {w : World} {I : Imm} {X : Nat → Prop} {β : Beta} {σ : Nat → Sig} {K : St → Prop}
def Wn (wr : Nat → Bool) : Way where
  wr := wr
  T := fun _ _ _ _ => True
  E := fun w I X w' I' X' => Ext I X w I' w' ∧ ∀ b, X b → X' b
  refl := fun w I X => ⟨.refl _ _ _, fun _ h => h⟩
  trans := fun h k => ⟨h.1.trans (k.1.sub h.2), fun b hb => k.2 b (h.2 b hb)⟩
theorem iop_noDefer {o : Oper} (h : iop C Γ S o K) : ∀ c, o.op ≠ .defer c := by
  intro c e
  unfold iop at h
  rw [e] at h
  simp [ival, e] at h
theorem opOK_n (wr : Nat → Bool) (hT : TOK Γ.P Γ.T) (hC : HC C Γ) (r : Option Nat) (n : Nat) : OpOK C Γ (Wn wr) r n := by
  intro o S K a w I X β σ Q hwr h hr _
  refine wpIn_of_wp (iop_noDefer h) (Oper.wp_mono ?_ (Oper.wp_put (iop_all hT hC o h hr Q)))
  rintro a' w' ⟨⟨S', I', β', σ', h1, h2, h3, h4⟩, hs⟩
  exact ⟨S', I', X, β', σ', h1, h2, trivial, ⟨h3, fun _ h => h⟩, h4, fun i hi => hs i fun e => by have : wr i = true := hwr i e; have hi : wr i = false := hi; rw [this] at hi; cases hi⟩
theorem Oper.wp_monoQ {P : Program} {o : Oper} {a : Act} {w : World} {K K' : Act → World → Prop} {Q1 Q : Exit → Act → World → Prop} (hp : ∀ c a w, ¬ Q1 (.panic c) a w) (ho : ¬ LetsOut Q1) (hK : ∀ a w, K a w → K' a w) (h : o.wp P a w K Q1) : o.wp P a w K' Q := by
  unfold Oper.wp at *
  generalize (execOp a.eval o).run P w = r at *
  cases r with
  | ok n w' =>
    cases n <;> simp only [Oper.upon] at h ⊢ <;>
      first
        | exact hK _ _ h
        | exact Calls.mono h (fun e w'' he => by cases e <;> first | exact hK _ _ he | exact (hp _ _ _ he).elim | exact (ho he).elim)
        | exact Rows.mono h (fun _ _ he => hK _ _ he)
  | halt x w' =>
    cases x <;> simp only [Oper.upon] at h ⊢
    case panic u => exact (hp _ _ _ h).elim
theorem wpAny_same {W : Way} {P : Program} {md : Region.Mode} {ops : Array Oper} {Q1 Q : Exit → Act → World → Prop} (hp : ∀ c a w, ¬ Q1 (.panic c) a w) (ho : ¬ LetsOut Q1) (hwr : ∀ o ∈ ops.toList, ∀ d, o.dst = some d → W.wr d = true) (a0 : Act)
    (hQ : ∀ a' w', Same W a0 a' → Q1 .normal a' w' → Q .normal a' w') : ∀ (fuel : Nat) (listed : Array Bool) (a : Act) (w : World), Same W a0 a → wpAny P md ops Q1 fuel listed a w → wpAny P md ops Q fuel listed a w
  | 0, _, a, w, hs, h => ⟨h.1, hQ a w hs h.2⟩
  | fuel + 1, listed, a, w, hs, h => by
    refine ⟨fun e => hQ a w hs (h.1 e), fun i hi => ?_⟩
    have h1 := h.2 i hi
    unfold wpOp at h1 ⊢
    cases hoi : ops[i]? with
    | none => simp only [hoi] at h1 ⊢; exact wpAny_same hp ho hwr a0 hQ fuel _ a w hs h1
    | some o =>
      have hwo := hwr o (List.mem_of_getElem? (i := i) (by simpa using hoi))
      simp only [hoi] at h1 ⊢
      by_cases hw : Region.wanted o (yielded ops a.tmps) = true
      · rw [if_pos hw] at h1 ⊢
        rcases h1 with h1 | h1
        · refine .inl (Oper.wp_monoQ hp ho (fun a' w' h' => ?_) (Oper.wp_put h1))
          refine wpAny_same hp ho hwr a0 hQ fuel _ a' w' (hs.trans fun j hj => h'.2 j fun e => ?_) h'.1
          have := hwo j e; rw [hj] at this; cases this
        · exact absurd h1.2 ho
      · rw [if_neg hw] at h1 ⊢
        exact wpAny_same hp ho hwr a0 hQ fuel _ _ w (hs.trans (Same.put a undef hwo)) h1
theorem draw_n (wr : Nat → Bool) (hm : Γ.P.follows .mixedOrders = true) (hT : TOK Γ.P Γ.T) (hC : HC C Γ) (r : Option Nat) (n : Nat) (id : Nat) (ops : Array Oper) (S : St) (K : St → Prop) (a : Act) (w : World) (I : Imm) (X : Nat → Prop) (β : Beta) (σ : Nat → Sig)
    (Q : Exit → Act → World → Prop) (hwr : ∀ o ∈ ops.toList, ∀ d, o.dst = some d → (Wn wr).wr d = true) (hq : ¬ LetsOut Q) (h : DRAWR C Γ ops.toList K S) (hr : Rel Γ S a w I X β σ) (_ : (Wn wr).T S.up.length w I X)
    (hQ : ∀ a' w', AftG Γ (Wn wr) K I X w β σ a a' w' → Q .normal a' w') : (Code.region id ops true).wpIn (Fw r) n Γ.P Q a w := by
  have h : DRAW C Γ ops.toList K S := by
    unfold DRAWR at h
    rw [hC.2] at h
    exact h
  obtain ⟨h1, h2⟩ := drawn_any (Q := fun e a' w' => match e with | .normal => Aft Γ K I X w β σ a' w' | _ => False) hT hC h hr (fun a' w' h => h) (fun _ _ _ h => h)
  have h3 := wpAny_same (W := Wn wr) (Q := Q) (fun _ _ _ h => h) (fun ⟨_, _, h⟩ => h) hwr a (fun a' w' hs ha => hQ a' w' (by
    obtain ⟨S', I', β', σ', k1, k2, k3, k4⟩ := ha
    exact ⟨S', I', X, β', σ', k1, k2, trivial, ⟨k3, fun _ h => h⟩, k4, hs⟩)) _ _ _ _ (Same.refl _ _) h1
  exact wpIn_region_any hm (wpAnyIn_of_wpAny hq h2 _ _ _ _ h3)
theorem mapHd_spec {l : List Oper} {d : Nat} (h : mapHd l = some d) : ∃ o r t, l = o :: r ∧ o.op = .makeMap t none ∧ o.dst = some d ∧ o.guard = none := by
  cases l with
  | nil => cases h
  | cons o r =>
    simp only [mapHd] at h
    split at h
    · rename_i t d' h1 h2 h3; cases h; exact ⟨o, r, t, rfl, h1, h2, h3⟩
    · cases h
theorem hasB_not {k : ByteArray} : ∀ {l : List ByteArray}, hasB k l = false → ∀ i : Nat, l[i]? ≠ some k
  | [], _, i, e => by simp at e
  | x :: r, h, i, e => by
    simp only [hasB, Bool.or_eq_false_iff] at h
    cases i with
    | zero =>
      simp at e
      subst e
      have : sameB x x = true := eqB_refl _
      rw [this] at h; cases h.1
    | succ i => exact hasB_not h.2 i (by simpa using e)
theorem lookL_eq (tm : Tms) : ∀ l, lookL tm l = l.map (look tm)
  | [] => rfl
  | u :: r => by simp only [lookL, List.map_cons, lookL_eq tm r]
structure MI (a : Act) (w : World) (b : Nat) (ks : List ByteArray) (us : List Nat) : Prop where
  heap : ∃ es c, w.heap[b]? = some (.map es c) ∧ es.size = ks.length ∧ ∀ (i : Nat) k u, ks[i]? = some k → us[i]? = some u → ∃ e, es[i]? = some e ∧ e.key = .string k ∧ e.val = a.tmps.getD u undef
  len : ks.length = us.length
  nd : ∀ (i j : Nat) k, ks[i]? = some k → ks[j]? = some k → i = j
theorem mapR_sound {wr : Nat → Bool} (hT : TOK Γ.P Γ.T) (hC : HC C Γ) (r : Option Nat) (n : Nat) {ops : Array Oper} {t d b kt et : Nat} {Q : Exit → Act → World → Prop} (hkk : (Γ.T t).k = .mapv kt et) (hks : (Γ.T kt).k = .str) (hwr : ∀ o ∈ ops.toList, ∀ d, o.dst = some d → wr d = true)
    (hQ : ∀ a' w', AftG Γ (Wn wr) K I X w β σ a a' w' → Q .normal a' w') (hb : w.heap.size ≤ b) (hX : ∀ b', X b' → b' < w.heap.size) :
    ∀ (rest : List Oper) (k : Nat), (∀ j, rest[j]? = ops[k + j]?) → ∀ (S' : St) (a' : Act) (w' : World) (I' : Imm) (β' : Beta) (σ' : Nat → Sig) (ks : List ByteArray) (us : List Nat),
      mapR C Γ ops.toList t d K rest ks us S' → Rel Γ S' a' w' I' (fun x => X x ∨ x = b) β' σ' → Ext I X w I' w' → Above β β' σ σ' → Same (Wn wr) a a' → MI a' w' b ks us → a'.tmps.getD d undef = .map (some b) →
      (∀ x v, I' x = some v → x.block ≠ b) → wpOpsIn (Fw r) n Γ.P ops Q (List.range' k rest.length) a' w'
  | [], k, _, S', a', w', I', β', σ', ks, us, h, _, _, _, _, _, _, _ => by simp only [mapR] at h
  | o :: rest, k, hk, S', a', w', I', β', σ', ks, us, h, hr, he, ha, hs, mi, hd, hI => by
    have h0 : ops[k]? = some o := by have := hk 0; simpa using this.symm
    have hk' : ∀ j, rest[j]? = ops[k + 1 + j]? := fun j => by have := hk (j + 1); simp at this; rw [this]; congr 1; omega
    have hwo := hwr o (List.mem_of_getElem? (i := k) (by simpa using h0))
    have hnX : ¬ X b := fun hx => by have := hX b hx; omega
    simp only [mapR] at h
    split at h
    · exact h.elim
    rename_i hg
    have hwant : Region.wanted o (yielded ops a'.tmps) = true := by simp [Region.wanted, hg]
    have pure : ∀ e, o.dst = some e → (Nat.beq e d || hasN us e) = false → iop C Γ S' o (fun S => mapR C Γ ops.toList t d K rest ks us S) → wpOpsIn (Fw r) n Γ.P ops Q (List.range' k (o :: rest).length) a' w' := by
      intro e hde hne h
      simp only [Bool.or_eq_false_iff] at hne
      have h1 := Oper.wp_put (iop_all hT hC o h hr Q)
      simp only [List.length_cons, List.range'_succ, wpOpsIn, h0, if_pos hwant]
      refine wpIn_of_wp (iop_noDefer h) (Oper.wp_mono ?_ h1)
      rintro a2 w2 ⟨⟨S2, I2, β2, σ2, k1, k2, k3, k4⟩, ht⟩
      have htm : ∀ u, u ≠ e → a2.tmps.getD u undef = a'.tmps.getD u undef := fun u hu => ht u (by rw [hde]; intro q; cases q; exact hu rfl)
      have hde' : d ≠ e := fun q => by subst q; simp at hne
      refine mapR_sound hT hC r n hkk hks hwr hQ hb hX rest (k + 1) hk' S2 a2 w2 I2 β2 σ2 ks us k1 k2 (he.trans (k3.sub fun x hx => .inl hx)) (ha.trans k4) (hs.trans fun i hi => ht i fun q => ?_) ?_ (by rw [htm d hde']; exact hd) fun x v hx hbx => ?_
      · have := hwo i q
        have hi : wr i = false := hi
        rw [this] at hi; cases hi
      · obtain ⟨es, c, m1, m2, m3⟩ := mi.heap
        refine ⟨⟨es, c, by rw [k3.keep b (.inr rfl)]; exact m1, m2, fun i kk u q1 q2 => ?_⟩, mi.len, mi.nd⟩
        obtain ⟨x, x1, x2, x3⟩ := m3 i kk u q1 q2
        have hue : u ≠ e := fun q => by
          subst q
          have : hasN us u = true := hasN_mem2.2 (List.mem_of_getElem? q2)
          rw [this] at hne; cases hne.2
        exact ⟨x, x1, x2, by rw [x3, htm u hue]⟩
      · rw [k3.new x (.inr hbx)] at hx
        exact hI x v hx hbx
    split at h
    · -- an entry
      rename_i t' d' kk u hop hdn
      split at h
      case h_2 => exact h.elim
      rename_i hc
      simp only [Bool.and_eq_true, beq_iff] at hc
      obtain ⟨rfl, rfl, hnb⟩ := hc
      have hnb : hasB kk ks = false := by simpa using hnb
      obtain ⟨es, clock, m1, m2, m3⟩ := mi.heap
      obtain ⟨inf, dd, z, tk⟩ := TOK.get hT (t := t) (.inr (by rw [hkk]; nofun))
      have kd := tk.kind
      rw [hkk] at kd
      obtain ⟨rfl, _⟩ := kd
      obtain ⟨inf', dd', z', tk'⟩ := TOK.get hT (t := kt) (.inr (by rw [hks]; nofun))
      have kd' := tk'.kind
      rw [hks] at kd'
      have kd' : dd' = .string := kd'
      subst kd'
      have hent : ∀ e ∈ es.toList, ∃ (i : Nat) (k' : ByteArray), ks[i]? = some k' ∧ e.key = .string k' := fun e he => by
        obtain ⟨i, hi⟩ := List.mem_iff_getElem?.1 he
        have hil : i < ks.length := by
          have := (List.getElem?_eq_some_iff.1 hi).1
          simp at this; omega
        obtain ⟨x, x1, x2, _⟩ := m3 i _ _ (List.getElem?_eq_getElem hil) (List.getElem?_eq_getElem (by rw [← mi.len]; exact hil))
        rw [Array.getElem?_toList] at hi
        rw [hi] at x1; cases x1
        exact ⟨i, _, List.getElem?_eq_getElem hil, x2⟩
      have hkeys : ∀ e ∈ es.toList, MapKept.IsKey .string e.key := fun e he => by
        obtain ⟨i, k', _, e1⟩ := hent e he
        rw [e1]; trivial
      have hfind : Instr.findNow .string (.string kk) es.toList 0 = some none := by
        rcases MapKept.findNow_spec (d := .string) (k := .string kk) trivial es.toList 0 hkeys with ⟨q, _⟩ | ⟨j', e, q, q1, q2⟩
        · exact q
        · obtain ⟨i, k', e1, e2⟩ := hent e (List.mem_of_getElem? q1)
          rw [q2] at e2; cases e2
          exact absurd e1 (hasB_not hnb i)
      have hval : a'.eval (.tmp d) = .map (some b) := hd
      have hrun : (Instr.mapUpdate t (a'.eval (.tmp d)) (a'.eval (.const (.string kk))) (a'.eval (.tmp u))).run Γ.P w' = .ok () { w' with heap := w'.heap.setIfInBounds b (.map (es.push { key := .string kk, val := a'.eval (.tmp u), born := clock }) (clock + 1)) } := by
        have he : a'.eval (.const (.string kk)) = .string kk := rfl
        rw [hval, he]
        unfold Instr.mapUpdate
        simp only [Sem.run_bind, run_underlying tk.und, Result.andThen_ok, MapKept.run_getObj_map m1, MapKept.run_checkKey (d := .string) tk'.und (k := .string kk) trivial, MapKept.run_findKey tk'.und hfind, MapKept.run_setObj_map _ m1]
      obtain ⟨r1, hext⟩ := hr.mapSet (es' := es.push { key := .string kk, val := a'.eval (.tmp u), born := clock }) (c' := clock + 1) (.inr rfl) (fun x v hx hbx => hI x v hx hbx) m1
      obtain ⟨s1, s2⟩ := MapKept.heap_set (o' := .map (es.push { key := .string kk, val := a'.eval (.tmp u), born := clock }) (clock + 1)) m1
      simp only [List.length_cons, List.range'_succ, wpOpsIn, h0, if_pos hwant]
      refine wpIn_of_wp (fun c e => by rw [hop] at e; cases e) ?_
      refine wp_skp (w' := { w' with heap := w'.heap.setIfInBounds b (.map (es.push { key := .string kk, val := a'.eval (.tmp u), born := clock }) (clock + 1)) }) (by simp only [execOp, hop]; rw [Sem.run_bind, hrun]; rfl) ?_
      rw [hdn]
      refine mapR_sound hT hC r n hkk hks hwr hQ hb hX rest (k + 1) hk' S' _ _ I' β' σ' (ks ++ [kk]) (us ++ [u]) h r1 (hext he hnX hb) ha hs ⟨⟨_, _, s1, by simp [m2], fun i k2 u2 q1 q2 => ?_⟩, by simp [mi.len], fun i j k2 q1 q2 => ?_⟩ hd hI
      · rcases Nat.lt_or_ge i ks.length with hl | hl
        · rw [List.getElem?_append_left hl] at q1
          rw [List.getElem?_append_left (by rw [← mi.len]; exact hl)] at q2
          obtain ⟨x, x1, x2, x3⟩ := m3 i k2 u2 q1 q2
          exact ⟨x, by rw [Array.getElem?_push_lt (by omega)]; rw [Array.getElem?_eq_getElem (by omega)] at x1; exact x1, x2, x3⟩
        · have hil := (List.getElem?_eq_some_iff.1 q1).1
          have hie : i = ks.length := by simp at hil; omega
          subst hie
          rw [List.getElem?_append_right (Nat.le_refl _)] at q1
          rw [List.getElem?_append_right (by rw [mi.len]; exact Nat.le_refl _), mi.len] at q2
          simp at q1 q2
          subst q1; subst q2
          exact ⟨{ key := .string kk, val := a'.eval (.tmp u), born := clock }, by rw [← m2]; simp, rfl, rfl⟩
      · have key : ∀ i, (ks ++ [kk])[i]? = some kk → i = ks.length := fun i q => by
          rcases Nat.lt_or_ge i ks.length with hl | hl
          · rw [List.getElem?_append_left hl] at q
            exact absurd q (hasB_not hnb i)
          · have := (List.getElem?_eq_some_iff.1 q).1
            simp at this; omega
        by_cases hkk2 : k2 = kk
        · subst hkk2; rw [key i q1, key j q2]
        · have old : ∀ i, (ks ++ [kk])[i]? = some k2 → ks[i]? = some k2 := fun i q => by
            rcases Nat.lt_or_ge i ks.length with hl | hl
            · rwa [List.getElem?_append_left hl] at q
            · rw [List.getElem?_append_right hl] at q
              have := List.mem_of_getElem? q
              simp at this
              exact absurd this hkk2
          exact mi.nd i j k2 (old i q1) (old j q2)
    · -- the map is read: from here on it is told as it is
      rename_i d' e hop hde
      split at h
      case h_2 =>
        split at h
        · exact h.elim
        · rename_i hne; exact pure e hde hne h
      rename_i hc
      have := (beq_iff _ _).1 hc
      subst this
      split at h
      · exact h.elim
      rename_i hne
      rw [fvL_eq] at h
      obtain ⟨es, clock, m1, m2, m3⟩ := mi.heap
      have hpos : 0 < ks.length := by
        cases ks with
        | nil => exact (hne rfl).elim
        | cons x y => simp
      let I2 : Imm := fun x => if x.block = b then (match x.spot with | some q => if es.size = q then (es[x.off]?).map fun e => .tuple #[e.key, e.val] else none | none => none) else I' x
      have hI2 : ∀ x v, I' x = some v → I2 x = some v := fun x v hx => by
        show (if _ then _ else _) = _
        rw [if_neg (hI x v hx)]; exact hx
      have hno : ∀ b' j, I' ⟨b', j, none⟩ = none → I2 ⟨b', j, none⟩ = none := fun b' j h => by
        show (if _ then _ else _) = _
        split
        · rfl
        · exact h
      have r1 : Rel Γ S' a' w' I2 X β' σ' := by
        refine ⟨fun i => (hr.tm i).mono hI2 (fun _ _ _ h => h) (fun _ _ h => h), hr.df.to (fun _ _ h _ => h) (fun D _ h hx => h (.inl hx)), hr.nt, ⟨fun l e cc hcc => ?_, hr.mem.inj, hr.mem.keys, fun x v hx => ?_, fun g => (hr.mem.glo g).mono hI2, fun b' h => hr.mem.xb b' (.inl h), hr.mem.gz⟩, ⟨fun t' g hg' => ?_, hr.own.inj⟩⟩
        · obtain ⟨b', arr, el, q1, q2, q3, q4, q5, q6, q7⟩ := hr.mem.cell l e cc hcc
          exact ⟨b', arr, el, q1, q2, q3, q4, fun j x hx => (q5 j x hx).mono hI2 (fun _ _ _ h => h) (fun _ _ h => h), fun j => hno _ _ (q6 j), fun h => q7 (.inl h)⟩
        · have hx : (if x.block = b then (match x.spot with | some q => if es.size = q then (es[x.off]?).map fun e => Value.tuple #[e.key, e.val] else none | none => none) else I' x) = some v := hx
          split at hx
          · rename_i hbx
            unfold hcell
            rw [hbx, m1]
            exact hx
          · exact hr.mem.im x v hx
        · obtain ⟨cur, q1, q2, q3, q4, q5, q6, q7⟩ := hr.own.row t' g hg'
          exact ⟨cur, q1, q2, q3, q4, fun j hj => hno _ _ (q5 j hj), fun h => q6 (.inl h), q7⟩
      have hmp : V I2 β' (σ' 0) (.mp ks (lookL S'.tm us)) (a'.tmps.getD d undef) := by
        rw [hd, lookL_eq]
        refine .mp ks _ b (us.map fun u => a'.tmps.getD u undef).toArray ⟨by simp [mi.len], hpos, mi.nd, fun i => i, fun i kk q1 => ?_, fun j hj => ⟨j, hj, rfl⟩⟩ (by simp) fun j x hx => ?_
        · have hil := (List.getElem?_eq_some_iff.1 q1).1
          have hiu : i < us.length := by rw [← mi.len]; exact hil
          have q2 : us[i]? = some us[i] := List.getElem?_eq_getElem hiu
          obtain ⟨x, x1, x2, x3⟩ := m3 i kk _ q1 q2
          show (if b = b then _ else _) = _
          rw [if_pos rfl]
          simp only
          rw [if_pos m2, x1]
          simp only [Option.map_some, x2, x3]
          congr 2
          simp [Array.getD_eq_getD_getElem?, q2]
        · simp only [List.getElem?_map, Option.map_eq_some_iff] at hx
          obtain ⟨u, hu, rfl⟩ := hx
          have := r1.tm u
          simpa [Array.getD_eq_getD_getElem?, hu] using this
      have r2 := r1.tell hmp
      have hlt : I2 = I2 := rfl
      have h : iops C Γ ops.toList (o :: rest) K ⟨(d, .mp ks (lookL S'.tm us)) :: S'.tm, S'.ce, S'.up⟩ := by
        obtain ⟨tm, ce, up⟩ := S'
        simp only [putT] at h
        split at h
        · exact h
        · exact h.elim
      refine iops_soundG (W := Wn wr) (opOK_n wr hT hC r n) hwr hQ (o :: rest) k hk _ a' w' I2 X β' σ' h r2 trivial ⟨⟨he.os, he.tape, he.output, he.size, he.keep, fun x v hx => hI2 x v (he.imm x v hx), fun x hx => ?_, he.fix⟩, fun _ h => h⟩ ha hs
      have := hX _ hx
      show (if _ then _ else _) = _
      rw [if_neg (by omega)]
      exact he.new x hx
    · rename_i e hop hde
      split at h
      · exact h.elim
      · rename_i hne; exact pure e hde hne h
    · rename_i e hop hde
      split at h
      · exact h.elim
      · rename_i hne; exact pure e hde hne h
    · exact h.elim
theorem map_n (wr : Nat → Bool) (hT : TOK Γ.P Γ.T) (hC : HC C Γ) (r : Option Nat) (n : Nat) (id : Nat) (ops : Array Oper) (d : Nat) (S : St) (K : St → Prop) (a : Act) (w : World) (I : Imm) (X : Nat → Prop) (β : Beta) (σ : Nat → Sig) (Q : Exit → Act → World → Prop)
    (hwr : ∀ o ∈ ops.toList, ∀ d, o.dst = some d → (Wn wr).wr d = true) (hm : mapHd ops.toList = some d) (h : MAPR C Γ ops.toList d K S) (hr : Rel Γ S a w I X β σ) (_ : (Wn wr).T S.up.length w I X)
    (hQ : ∀ a' w', AftG Γ (Wn wr) K I X w β σ a a' w' → Q .normal a' w') : (Code.region id ops false).wpIn (Fw r) n Γ.P Q a w := by
  obtain ⟨o, rest, t, hl, hop, hd, hg⟩ := mapHd_spec hm
  unfold MAPR at h
  rw [hl] at h
  simp only [mapTy, hop, List.tail_cons] at h
  split at h
  case h_2 => exact h.elim
  rename_i kt et hy hk
  split at h
  case h_2 => exact h.elim
  rename_i hs
  have h0 : ops[0]? = some o := by rw [← Array.getElem?_toList, hl]; rfl
  have hwant : Region.wanted o (yielded ops a.tmps) = true := by simp [Region.wanted, hg]
  refine wpIn_region ?_
  have hsz : ops.size = rest.length + 1 := by rw [← Array.length_toList, hl]; rfl
  rw [hsz, List.range_eq_range', List.range'_succ]
  simp only [wpOpsIn, h0, if_pos hwant]
  refine wpIn_of_wp (fun c e => by rw [hop] at e; cases e) ?_
  refine wp_val (w' := w.alloc (.map #[] 0)) (v := .map (some w.heap.size)) (by simp [execOp, hop, Instr.makeMap, newObj]; rfl) ?_
  obtain ⟨S2, hk2, r2⟩ := putT_sound h (hr.hide (.map #[] 0) (Y := fun x => X x ∨ x = w.heap.size) (fun b hb => hb)) (v := .map (some w.heap.size)) (.data (.dead _))
  rw [hd]
  have hdn : d < a.tmps.size := by
    obtain ⟨tm, ce, up⟩ := S
    simp only [putT] at h
    split at h
    · rename_i hn; have := hr.nt; have := blt_lt hn; omega
    · exact h.elim
  rw [hl] at hwr
  refine mapR_sound (wr := wr) (b := w.heap.size) hT hC r n hk hs (by rw [hl]; exact hwr) hQ (Nat.le_refl _) hr.mem.xb rest 1 (fun j => ?_) S2 _ _ I β σ [] [] (by rw [hl]; exact hk2) r2 (.alloc I X w _ hr.mem.xb) (.refl _ _) (Same.put a _ fun t' e => ?_) ⟨⟨#[], 0, heap_alloc_new w _, rfl, fun i k u q => by simp at q⟩, rfl, fun i j k q => by simp at q⟩ ?_ fun x v hx hb => ?_
  · rw [← Array.getElem?_toList, hl, Nat.add_comm]; simp
  · cases e
    exact hwr o (by simp) d hd
  · simp [Act.put, hdn]
  · have := hcell_lt (hr.mem.im x v hx)
    omega
theorem iwp_sound_r (hm : Γ.P.follows .mixedOrders = true) (hT : TOK Γ.P Γ.T) (hC : HC C Γ) (r : Option Nat) (n : Nat) (c : Code) (Q : Ex → St → Prop) (S : St) (a : Act) (w : World) (I : Imm) (X : Nat → Prop) (β : Beta) (σ : Nat → Sig) (wr : Nat → Bool)
    (hn : noRange c = true) (hw : ∀ d ∈ wrs c, wr d = true) (h : iwp C Γ c Q S) (hr : Rel Γ S a w I X β σ) : c.wpIn (Fw r) n Γ.P (QRG Γ (Wn wr) Q I X w β σ a) a w :=
  iwp_soundG (W := Wn wr) true false (opOK_n wr hT hC r n) (map_n wr hT hC r n) (fun _ => draw_n wr hm hT hC r n) (fun e => by cases e) c Q S a w I X β σ (fun _ => hn) (fun e => by cases e) hw h hr trivial
structure Base (gl : Nat → IV) (w : World) (I : Imm) (X : Nat → Prop) : Prop where
  im : ∀ a v, I a = some v → hcell w a = some v
  glo : ∀ g, D I (gl g) (.pointer (some ⟨g, 0, none⟩))
  xb : ∀ b, X b → b < w.heap.size
  gz : Gsz gl w
theorem Rel.base (r : Rel Γ S a w I X β σ) : Base Γ.gl w I X := ⟨r.mem.im, r.mem.glo, r.mem.xb, r.mem.gz⟩
structure Kept (I : Imm) (Y : Nat → Prop) (w : World) (I' : Imm) (w' : World) : Prop where
  size : w.heap.size ≤ w'.heap.size
  keep : ∀ b, Y b → w'.heap[b]? = w.heap[b]?
  imm : ∀ a v, I a = some v → I' a = some v
  new : ∀ a, Y a.block → I' a = I a
  dfr : ∀ (k : Nat) c, w.heap[k]? = some (.deferred c) → w'.heap[k]? = some (.deferred c)
def notLoop : Obj → Bool
  | .loop _ => false
  | _ => true
def yv (l : Nat) : Value := .func (.yield l) #[] #[]
def Vis (P : Program) (gl : Nat → IV) (g : Nat) (args : List IV) (n : Nat) (xs : Nat → List IV) : Prop :=
  (∃ fn c, P.funcs[g]? = some fn ∧ fn.body = some c ∧ (fn.name == "runtime.NumGoroutine") = false) ∧
  ∀ (l : Nat) (vals : Array Value) (J : Nat → World → Imm → (Nat → Prop) → Prop) (w : World) (I : Imm) (X : Nat → Prop),
    Base gl w I X → args.length = vals.size → (∀ (j : Nat) x, args[j]? = some x → D I x (vals.getD j undef)) →
    (∀ k w1 I1 X1 w2 I2, J k w1 I1 X1 → Ext I1 X1 w1 I2 w2 → Base gl w2 I2 X1 → J k w2 I2 X1) →
    (∀ (k : Nat) w1 I1 X1 (Y : Nat → Prop) (vs : Array Value), k < n → J k w1 I1 X1 → Base gl w1 I1 X1 → (∀ b, Y b → ¬ X1 b ∧ ∃ o, w1.heap[b]? = some o ∧ notLoop o = true) →
      (xs k).length = vs.size → (∀ (j : Nat) x, (xs k)[j]? = some x → D I1 x (vs.getD j undef)) →
      YieldAt (Fw none) 0 P l vs w1 fun e w2 => ∃ I2 X2 b, e = .returned (.bool b) ∧ Kept I1 Y w1 I2 w2 ∧ Base gl w2 I2 X2 ∧ (∀ b, Y b → ¬ X2 b) ∧ J (bif b then k + 1 else n + 1 + k) w2 I2 X2) →
    J 0 w I X →
    Calls P g (#[yv l] ++ vals) w fun e w' => ∃ v I' X' L, e = .returned v ∧ n ≤ L ∧ J L w' I' X' ∧ Base gl w' I' X'
def VisO (P : Program) (gl : Nat → IV) (g : Nat) (cs : List (List IV)) (n : Nat) (xs : Nat → List IV) : Prop :=
  (∃ fn c, P.funcs[g]? = some fn ∧ fn.body = some c ∧ (fn.name == "runtime.NumGoroutine") = false) ∧
  ∀ (l : Nat) (bs : List Nat) (J : Nat → World → Imm → (Nat → Prop) → Prop) (w : World) (I : Imm) (X : Nat → Prop),
    Base gl w I X → bs.length = cs.length → bs.Nodup → (∀ (i b : Nat) c, bs[i]? = some b → cs[i]? = some c → OwnC w I X b c) →
    (∀ k w1 I1 X1 w2 I2, J k w1 I1 X1 → Ext I1 X1 w1 I2 w2 → Base gl w2 I2 X1 → J k w2 I2 X1) →
    (∀ (k : Nat) w1 I1 X1 (Y : Nat → Prop) (vs : Array Value), k < n → J k w1 I1 X1 → Base gl w1 I1 X1 → (∀ b, Y b → ¬ X1 b ∧ ∃ o, w1.heap[b]? = some o ∧ notLoop o = true) →
      (xs k).length = vs.size → (∀ (j : Nat) x, (xs k)[j]? = some x → D I1 x (vs.getD j undef)) →
      YieldAt (Fw none) 0 P l vs w1 fun e w2 => ∃ I2 X2 b, e = .returned (.bool b) ∧ Kept I1 Y w1 I2 w2 ∧ Base gl w2 I2 X2 ∧ (∀ b, Y b → ¬ X2 b) ∧ J (bif b then k + 1 else n + 1 + k) w2 I2 X2) →
    J 0 w I X →
    Calls P g (#[yv l] ++ (bs.map ptrV).toArray) w fun e w' => ∃ v I' X' L, e = .returned v ∧ n ≤ L ∧ J L w' I' X' ∧ Base gl w' I' X'
def HV (C : Con) (Γ : Env) : Prop := (∀ g c n xs, Γ.vis g c n xs → Vis Γ.P Γ.gl g c n xs) ∧ ∀ g cs n xs, C.v g cs n xs → VisO Γ.P Γ.gl g cs n xs
theorem roundIn_any {n m : Nat} {P : Program} {l : Nat} {f : FuncId} {tmps : Array Value} {assign body : Code} {w : World} {R : Ending → World → Prop} (h : RoundIn (Fw none) n P l f tmps assign body w R) : RoundIn (Fw none) m P l f tmps assign body w R :=
  ⟨h.1, fun c cs _ => h.2 c cs (Fw_room _ _)⟩
end
end Go.Proofs.YtfoenhiohhmnlaaGreatDoor.Ix

namespace Go.Proofs.YtfoenhiohhmnlaaGreatDoor.Ix
set_option linter.unusedVariables false
set_option linter.unusedSimpArgs false
section
variable {C : Con} {Γ : Env} {S : St} {a : Act} {w : World} {I : Imm} {X : Nat → Prop} {β : Beta} {σ : Nat → Sig} {K : St → Prop}
theorem Rel.later {X1 : Nat → Prop} {w2 : World} {I2 : Imm} (r : Rel Γ S a w I X β σ) (hX : ∀ b, X b → X1 b) (hβ : ∀ l d b, β l d = some b → X1 b) (hσ : ∀ t g, σ 0 t = some g → X1 g.b) (he : Ext I X1 w I2 w2) (hb : Base Γ.gl w2 I2 X1) : Rel Γ S a w2 I2 X β σ := by
  refine ⟨fun i => (r.tm i).mono he.imm (fun _ _ _ h => h) (fun _ _ h => h), r.df.to he.fix (fun _ _ h => h), r.nt, ⟨fun l d c hc => ?_, r.mem.inj, r.mem.keys, hb.im, hb.glo, fun b h => hb.xb b (hX b h), hb.gz⟩, ⟨fun t g hg => ?_, r.own.inj⟩⟩
  · obtain ⟨b, arr, el, h1, h2, h3, h4, h5, h6, h7⟩ := r.mem.cell l d c hc
    have hx := hβ l d b h1
    exact ⟨b, arr, el, h1, by rw [he.keep b hx]; exact h2, h3, h4, fun j x hj => (h5 j x hj).mono he.imm (fun _ _ _ h => h) (fun _ _ h => h), fun j => by rw [he.new ⟨b, j, none⟩ hx]; exact h6 j, h7⟩
  · obtain ⟨cur, k1, k2, k3, k4, k5, k6, k7⟩ := r.own.row t g hg
    have hx := hσ t g hg
    exact ⟨cur, by rw [he.keep g.b hx]; exact k1, k2, k3, k4, fun j hj => by rw [he.new ⟨g.b, j, none⟩ hx]; exact k5 j hj, k6, k7⟩
theorem fixed_cells {w : World} {b : Nat} {arr : Array Value} {el : Nat} (h : w.heap[b]? = some (.cells arr el (0, 0))) {l : Nat} {o : Obj} (hl : w.heap[l]? = some o) (ho : fixed o = true) : b ≠ l := by
  intro e; subst e; rw [h] at hl; cases hl; cases ho
theorem cell_put {w : World} {x : Addr} {v : Value} (h : hcell w x = some v) {l : Nat} {o o' : Obj} (hl : w.heap[l]? = some o) (ho : fixed o = true) : hcell (w.putObj l o') x = some v := by
  have hne : x.block ≠ l := by
    intro e
    unfold hcell at h
    rw [e, hl] at h
    cases o <;> first | (cases ho; done) | (simp at h)
  rw [← h]
  exact hcell_of_block (World.putObj_heap_other hne)
theorem Rel.putLoop {l : Nat} {o : Loop} (r : Rel Γ S a w I X β σ) (hl : w.heap[l]? = some (.loop o)) (o' : Loop) : Rel Γ S a (w.putObj l (.loop o')) I X β σ := by
  refine ⟨r.tm, ?_, r.nt, ⟨fun l' d c hc => ?_, r.mem.inj, r.mem.keys, fun x v hx => cell_put (r.mem.im x v hx) hl rfl, r.mem.glo, fun b h => by simpa using r.mem.xb b h, r.mem.gz.of fun g arr el mm hg => ⟨arr, el, mm, by rw [World.putObj_heap_other (by rintro rfl; rw [hl] at hg; cases hg)]; exact hg, rfl⟩⟩, ⟨fun t g hg => ?_, r.own.inj⟩⟩
  · obtain ⟨⟨Ds, h1, h2, h3⟩, h4⟩ := r.df
    refine ⟨⟨Ds, h1, h2, fun D hD => ⟨?_, (h3 D hD).2⟩⟩, h4⟩
    have hne : D ≠ l := fun e => by have := (h3 D hD).1; rw [e, hl] at this; cases this
    rw [World.putObj_heap_other hne]; exact (h3 D hD).1
  · obtain ⟨b, arr, el, h1, h2, h3, h4, h5, h6, h7⟩ := r.mem.cell l' d c hc
    exact ⟨b, arr, el, h1, by rw [World.putObj_heap_other (fixed_cells h2 hl rfl)]; exact h2, h3, h4, h5, h6, h7⟩
  · obtain ⟨cur, k1, k2⟩ := r.own.row t g hg
    exact ⟨cur, by rw [World.putObj_heap_other (fixed_cells k1 hl rfl)]; exact k1, k2⟩
theorem Ext.put {w0 : World} {I0 : Imm} (h : Ext I0 X w0 I w) {l : Nat} (hl : w0.heap.size ≤ l) (hX : ∀ b, X b → b < w0.heap.size) (o : Obj) : Ext I0 X w0 I (w.putObj l o) :=
  ⟨h.os, h.tape, h.output, by simpa using h.size, fun b hb => by
      have := hX b hb
      rw [World.putObj_heap_other (by omega)]; exact h.keep b hb,
    h.imm, h.new, fun k o' hk ho => by
      have := (Array.getElem?_eq_some_iff.1 hk).1
      rw [World.putObj_heap_other (by omega)]; exact h.fix k o' hk ho⟩
theorem roundT_rel {β0 : Beta} {s : Sig} : ∀ (ps : List Nat) (xs : List IV) (vs : List Value) (tm : Tms) (tmps : Array Value), xs.length = ps.length → vs.length = ps.length → (∀ p ∈ ps, p < tmps.size) →
    (∀ i, V I β0 s (look tm i) (tmps.getD i undef)) → (∀ (j : Nat) x, xs[j]? = some x → V I β0 s x (vs.getD j undef)) →
    (∀ i, V I β0 s (look (roundT ps xs tm) i) (((ps.zip vs).foldl (fun t (p, v) => t.setIfInBounds p v) tmps).getD i undef)) ∧ ((ps.zip vs).foldl (fun t (p, v) => t.setIfInBounds p v) tmps).size = tmps.size ∧
      ∀ i, i ∉ ps → ((ps.zip vs).foldl (fun t (p, v) => t.setIfInBounds p v) tmps).getD i undef = tmps.getD i undef
  | [], xs, vs, tm, tmps, h1, h2, hp, ht, hx => by
    cases vs with
    | nil => cases xs with
      | nil => exact ⟨by simpa [roundT] using ht, rfl, fun _ _ => rfl⟩
      | cons _ _ => simp at h1
    | cons _ _ => simp at h2
  | p :: ps, [], vs, tm, tmps, h1, h2, hp, ht, hx => by simp at h1
  | p :: ps, x :: xs, [], tm, tmps, h1, h2, hp, ht, hx => by simp at h2
  | p :: ps, x :: xs, v :: vs, tm, tmps, h1, h2, hp, ht, hx => by
    have hpl : p < tmps.size := hp p (by simp)
    obtain ⟨g1, g2, g3⟩ := roundT_rel ps xs vs ((p, x) :: tm) (tmps.setIfInBounds p v) (by simpa using h1) (by simpa using h2) (fun q hq => by simpa using hp q (by simp [hq])) (fun i => by
      rw [look_cons, getD_set _ _ _ _ hpl]
      split
      · exact hx 0 x (by simp)
      · exact ht i) (fun j y hy => hx (j + 1) y (by simpa using hy))
    refine ⟨by simpa [roundT] using g1, by simpa using g2, fun i hi => ?_⟩
    simp only [List.mem_cons, not_or] at hi
    simp only [List.zip_cons_cons, List.foldl_cons]
    rw [g3 i hi.2, getD_set _ _ _ _ hpl, if_neg (fun e => hi.1 e.symm)]
theorem isIn_iff {l : List Nat} {i : Nat} : isIn l i = true ↔ i ∈ l := by
  induction l with
  | nil => simp [isIn]
  | cons x r ih =>
    simp only [isIn, Bool.or_eq_true, ih, List.mem_cons, beq_iff]
    exact ⟨fun h => h.imp Eq.symm id, fun h => h.imp Eq.symm id⟩
theorem look_drop {wr : List Nat} {i : Nat} : ∀ (tm : Tms), look (dropW wr tm) i = if isIn wr i = true then .dead else look tm i
  | [] => by simp [dropW, look]
  | (k, v) :: r => by
    simp only [dropW]
    split
    · rename_i h
      rw [look_drop r, look_cons]
      by_cases e : k = i
      · subst e; simp [h]
      · simp [e]
    · rename_i h
      rw [look_cons, look_cons, look_drop r]
      by_cases e : k = i
      · subst e; simp [h]
      · simp [e]
theorem look_ok {wr : List Nat} {i : Nat} : ∀ {tm : Tms}, okW wr tm = true → isIn wr i = true → look tm i = .dead
  | [], _, _ => rfl
  | (k, v) :: r, h, hi => by
    simp only [okW, Bool.and_eq_true] at h
    rw [look_cons, if_neg]
    · exact look_ok h.2 hi
    · intro e; subst e; rw [hi] at h; simp at h
def mine (X : Nat → Prop) (β : Beta) (σ : Nat → Sig) (b : Nat) : Prop := X b ∨ (∃ l d, β l d = some b) ∨ ∃ t g, σ 0 t = some g ∧ g.b = b
theorem Rel.mine_lt (r : Rel Γ S a w I X β σ) : ∀ b, mine X β σ b → b < w.heap.size := by
  rintro b (h | ⟨l, d, h⟩ | ⟨t, g, h, rfl⟩)
  · exact r.mem.xb b h
  · obtain ⟨c, hc⟩ := r.mem.keys l d b h
    obtain ⟨b', arr, el, h1, h2, _⟩ := r.mem.cell l d c hc
    rw [h] at h1; cases h1; exact heap_lt h2
  · obtain ⟨cur, k1, _⟩ := r.own.row t g h; exact heap_lt k1
theorem Rel.mine_not {Y : Nat → Prop} (r : Rel Γ S a w I (fun b => X b ∨ Y b) β σ) (hxy : ∀ b, Y b → ¬ X b) : ∀ b, Y b → ¬ mine X β σ b := by
  rintro b hy (h | ⟨l, d, h⟩ | ⟨t, g, h, rfl⟩)
  · exact hxy b hy h
  · obtain ⟨c, hc⟩ := r.mem.keys l d b h
    obtain ⟨b', arr, el, h1, h2, _, _, _, _, h7⟩ := r.mem.cell l d c hc
    rw [h] at h1; cases h1; exact h7 (.inr hy)
  · obtain ⟨cur, k1, _, _, _, _, k6, _⟩ := r.own.row t g h; exact k6 (.inr hy)
structure JB (Γ : Env) (a : Act) (w : World) (I : Imm) (X : Nat → Prop) (β : Beta) (σ : Nat → Sig) (l D : Nat) (o : Loop) (S' : St) (w' : World) (I' : Imm) (X' : Nat → Prop) (β' : Beta) (σ' : Nat → Sig) : Prop where
  rel : Rel Γ S' a w' I' X β' σ'
  mine : ∀ b, mine X β' σ' b → X' b
  ext : Ext I X w I' w'
  abv : Above β β' σ σ'
  loop : w'.heap[l]? = some (.loop o)
  dfr : w'.heap[D]? = some (.deferred (some []))
theorem JB.later {l D : Nat} {o : Loop} {S' : St} {w' : World} {I' : Imm} {X' : Nat → Prop} {β' : Beta} {σ' : Nat → Sig} {w2 : World} {I2 : Imm} (j : JB Γ a w I X β σ l D o S' w' I' X' β' σ') (he : Ext I' X' w' I2 w2) (hb : Base Γ.gl w2 I2 X') :
    JB Γ a w I X β σ l D o S' w2 I2 X' β' σ' :=
  ⟨j.rel.later (fun b h => j.mine b (.inl h)) (fun l d b h => j.mine b (.inr (.inl ⟨l, d, h⟩))) (fun t g h => j.mine _ (.inr (.inr ⟨t, g, h, rfl⟩))) he hb, j.mine,
    j.ext.trans (he.sub fun b h => j.mine b (.inl h)), j.abv, he.fix _ _ j.loop rfl, he.fix _ _ j.dfr rfl⟩
end
end Go.Proofs.YtfoenhiohhmnlaaGreatDoor.Ix

namespace Go.Proofs.YtfoenhiohhmnlaaGreatDoor.Ix
set_option linter.unusedVariables false
set_option linter.unusedSimpArgs false
section
variable {C : Con} {Γ : Env} {S : St} {a : Act} {w : World} {I : Imm} {X : Nat → Prop} {β : Beta} {σ : Nat → Sig} {K : St → Prop}
theorem all_lt {l : List Nat} {n : Nat} (h : l.all (fun t => Nat.blt t n) = true) : ∀ p ∈ l, p < n := fun p hp => by
  rw [List.all_eq_true] at h; exact blt_lt (h p hp)
theorem Rel.dropT (r : Rel Γ S a w I X β σ) (wr : List Nat) : Rel Γ ⟨dropW wr S.tm, S.ce, S.up⟩ a w I X β σ := by
  refine ⟨fun i => ?_, r.df, r.nt, r.mem, r.own⟩
  simp only [look_drop]
  split
  · exact .data (.dead _)
  · exact r.tm i
theorem range_core (wr : Nat → Bool) (hm : Γ.P.follows .mixedOrders = true) (hT : TOK Γ.P Γ.T) (hC : HC C Γ) (hds : Γ.ds = none) (n : Nat)
    (f : Operand) (ps : Array Tmp) (assign body : Code) (Q : Ex → St → Prop) (S : St) (a : Act) (w : World) (I : Imm) (X : Nat → Prop) (β : Beta) (σ : Nat → Sig) (hwr : ∀ d ∈ wrs (.rangeFunc f ps assign body), wr d = true)
    (hr : Rel Γ S a w I X β σ) (g : Nat) (us : Array Value) (nn : Nat) (xs : Nat → List IV) (hval : a.eval f = .func (.func g) #[] us) (fn : Func) (code : Code) (hfn : Γ.P.funcs[g]? = some fn) (hbody : fn.body = some code) (hname : (fn.name == "runtime.NumGoroutine") = false)
    (hok : (noRange assign && noRange body && ps.toList.all fun t => Nat.blt t Γ.nt) = true) (hlen : ∀ i, i < nn → (xs i).length = ps.toList.length) {α : Type} (Inv : α → St) (ix : α → Nat) (a0 : α) (h0 : leS S (Inv a0)) (i0 : ix a0 = 0) (hw : ∀ a, okW (ps.toList ++ (wrs assign ++ wrs body)) (Inv a).tm = true)
    (hrd : ∀ a, ix a < nn → iwp C Γ assign (Ex.seq (iwp C Γ body (rangeQ (ps.toList ++ (wrs assign ++ wrs body)) Inv ix Q a)) (fun _ _ => False)) ⟨roundT ps.toList (xs (ix a)) (Inv a).tm, (Inv a).ce, (Inv a).up⟩)
    (hd : ∀ a, ix a = nn → Q .normal (Inv a))
    (Hv : ∀ (l : Nat) (J : Nat → World → Imm → (Nat → Prop) → Prop) (W1 : World) (β1 : Beta), (∀ b, b < w.heap.size → W1.heap[b]? = w.heap[b]?) → Rel Γ (Inv a0) a W1 I X β1 σ → (∀ l d b, β1 l d = some b → β l d = some b) →
      (∀ k w1 I1 X1 w2 I2, J k w1 I1 X1 → Ext I1 X1 w1 I2 w2 → Base Γ.gl w2 I2 X1 → J k w2 I2 X1) →
      (∀ (k : Nat) w1 I1 X1 (Y : Nat → Prop) (vs : Array Value), k < nn → J k w1 I1 X1 → Base Γ.gl w1 I1 X1 → (∀ b, Y b → ¬ X1 b ∧ ∃ o, w1.heap[b]? = some o ∧ notLoop o = true) →
        (xs k).length = vs.size → (∀ (j : Nat) x, (xs k)[j]? = some x → D I1 x (vs.getD j undef)) →
        YieldAt (Fw none) 0 Γ.P l vs w1 fun e w2 => ∃ I2 X2 b, e = .returned (.bool b) ∧ Kept I1 Y w1 I2 w2 ∧ Base Γ.gl w2 I2 X2 ∧ (∀ b, Y b → ¬ X2 b) ∧ J (bif b then k + 1 else nn + 1 + k) w2 I2 X2) →
      J 0 W1 I (mine X β1 σ) → Calls Γ.P g (#[yv l] ++ us) W1 fun e w' => ∃ v I' X' L, e = .returned v ∧ nn ≤ L ∧ J L w' I' X' ∧ Base Γ.gl w' I' X') :
    (Code.rangeFunc f ps assign body).wpIn (Fw none) n Γ.P (QRG Γ (Wn wr) Q I X w β σ a) a w := by
  simp only [Bool.and_eq_true] at hok
  obtain ⟨⟨hn1, hn2⟩, hps⟩ := hok
  have hps := all_lt hps
  refine wpIn_rangeFunc fun fnid _ => ?_
  let rec0 : LoopState → Option Code → Loop := fun st pe => { state := st, pending := pe, fn := fnid, tmps := a.tmps, params := ps, assign, body, defers := w.heap.size }
  let D := w.heap.size
  let l := w.heap.size + 1
  let W1 := (w.alloc (.deferred (some []))).alloc (.loop (rec0 .ready none))
  have hL1 : W1.heap[l]? = some (.loop (rec0 .ready none)) := by
    have := World.alloc_heap_new (w.alloc (.deferred (some []))) (.loop (rec0 .ready none)); rwa [World.size_alloc] at this
  have hK1 : W1.heap[D]? = some (.deferred (some [])) := by
    exact (heap_alloc_old _ _ (by simp [D])).trans (World.alloc_heap_new w _)
  have hX := hr.mem.xb
  have he1 : Ext I X w I W1 := (Ext.alloc I X w _ hX).trans (Ext.alloc I X _ _ fun b hb => by have := hX b hb; simp; omega)
  have hr1 : Rel Γ S a W1 I X β σ := (hr.alloc _).alloc _
  obtain ⟨β1, r1, ab1, hsub⟩ := hr1.le' h0
  let J : Nat → World → Imm → (Nat → Prop) → Prop := fun k w' I' X' =>
    (k ≤ nn ∧ ∃ x β' σ', ix x = k ∧ JB Γ a w I X β σ l D (rec0 .ready none) (Inv x) w' I' X' β' σ') ∨
    (nn < k ∧ ∃ S' c β' σ', ((c = .ret ∧ Q .ret S') ∨ ∃ id, c = .exit id ∧ Q (.exit id) S') ∧ JB Γ a w I X β σ l D (rec0 .done (some c)) S' w' I' X' β' σ')
  refine ⟨l, [{ target := .collected D, args := #[] }], W1, { target := .fn (.func g) us, args := #[yv l] }, W1, g, #[yv l] ++ us, W1, run_enterLoop_outer _ _ _ _ _, ?_, fun _ _ => trivial, ?_, fun e => (by cases e), ?_⟩
  · simp only [resolve, hval]
    simp [go_sem]; rfl
  · simp only [invoke, callFunc, run_program, Sem.run_bind, hfn, hname, hbody, Option.isNone, Result.andThen_ok]
    rfl
  · have hdone : Calls Γ.P g (#[yv l] ++ us) W1 fun e w' => ∃ v I' X' L, e = .returned v ∧ nn ≤ L ∧ J L w' I' X' ∧ Base Γ.gl w' I' X' := by
      have hX1 : ∀ b, mine X β1 σ b → b < W1.heap.size := r1.mine_lt
      refine Hv l J W1 β1 (fun b hb => (heap_alloc_old _ _ (by rw [World.size_alloc]; omega)).trans (heap_alloc_old _ _ hb)) r1 hsub ?_ ?_ (.inl ⟨Nat.zero_le _, a0, β1, σ, i0, r1, fun _ h => h, he1, ab1, hL1, hK1⟩)
      · rintro k w1 I1 X1 w2 I2 (⟨hk, x, β', σ', hx, j⟩ | ⟨hk, S', c, β', σ', hc, j⟩) he hb
        · exact .inl ⟨hk, x, β', σ', hx, j.later he hb⟩
        · exact .inr ⟨hk, S', c, β', σ', hc, j.later he hb⟩
      · -- one round
        intro k w1 I1 X1 Y vs hk hJ hb hY hlx hDx
        rcases hJ with ⟨_, x, β', σ', hix, j⟩ | ⟨hk', _⟩
        rotate_left
        · omega
        have hYX : ∀ b, Y b → ¬ mine X β' σ' b := fun b hy hm => (hY b hy).1 (j.mine b hm)
        have hYl : ∀ b, Y b → b ≠ l := fun b hy e => by
          obtain ⟨_, o, ho, hf⟩ := hY b hy
          rw [e, j.loop] at ho; cases ho; cases hf
        have hvs : vs.size = ps.size := by rw [← hlx, hlen k hk]; simp
        have hy := run_yield (P := Γ.P) (args := vs) j.loop hvs
        refine ⟨fnid, _, assign, body, hy, ?_⟩
        let tm0 := (ps.zip vs).foldl (fun t (p, v) => t.setIfInBounds p v) a.tmps
        have htm0 : tm0 = (ps.toList.zip vs.toList).foldl (fun t (p, v) => t.setIfInBounds p v) a.tmps := by
          show (ps.zip vs).foldl _ _ = _
          rw [← Array.foldl_toList, Array.toList_zip]
        obtain ⟨t1, t2, t3⟩ := roundT_rel (β0 := β') (s := σ' 0) (I := I1) ps.toList (xs k) vs.toList (Inv x).tm a.tmps (hlen k hk) (by simpa using hvs) (fun p hp => by have := hps p hp; have := hr.nt; omega)
          j.rel.tm (fun q y hq => by have := hDx q y hq; exact .data (by simpa [Array.getD_eq_getD_getElem?, List.getD_eq_getElem?_getD] using this))
        rw [← htm0] at t1 t2 t3
        have rr : Rel Γ ⟨roundT ps.toList (xs k) (Inv x).tm, (Inv x).ce, (Inv x).up⟩ { tmps := tm0, defers := [] } w1 I1 (fun b => X b ∨ Y b) β' σ' := by
          refine ⟨t1, ⟨.nil _ _, fun d e => (by rw [hds] at e; cases e)⟩, by show Γ.nt ≤ tm0.size; rw [t2]; exact j.rel.nt, ⟨fun l' d c hc => ?_, j.rel.mem.inj, j.rel.mem.keys, j.rel.mem.im, j.rel.mem.glo, fun b hb' => ?_, j.rel.mem.gz⟩, ⟨fun t g hg => ?_, j.rel.own.inj⟩⟩
          · obtain ⟨b, arr, el, g1, g2, g3, g4, g5, g6, g7⟩ := j.rel.mem.cell l' d c hc
            exact ⟨b, arr, el, g1, g2, g3, g4, g5, g6, fun hx => hx.elim g7 fun hy => hYX b hy (.inr (.inl ⟨l', d, g1⟩))⟩
          · rcases hb' with hb' | hb'
            · exact j.rel.mem.xb b hb'
            · obtain ⟨_, o, ho, _⟩ := hY b hb'; exact heap_lt ho
          · obtain ⟨cur, k1, k2, k3, k4, k5, k6, k7⟩ := j.rel.own.row t g hg
            exact ⟨cur, k1, k2, k3, k4, k5, fun hx => hx.elim k6 fun hy => hYX g.b hy (.inr (.inr ⟨t, g, hg, rfl⟩)), k7⟩
        refine roundIn_of_wpIn (F := Fw none) trivial ?_
        have hwa : ∀ d ∈ wrs assign, isIn (ps.toList ++ (wrs assign ++ wrs body)) d = true := fun d hd => isIn_iff.2 (by simp [hd])
        have hwb : ∀ d ∈ wrs body, isIn (ps.toList ++ (wrs assign ++ wrs body)) d = true := fun d hd => isIn_iff.2 (by simp [hd])
        refine wpIn_mono (iwp_sound_r hm hT hC (some l) 0 assign _ _ { tmps := tm0, defers := [] } w1 I1 (fun b => X b ∨ Y b) β' σ' (isIn (ps.toList ++ (wrs assign ++ wrs body))) hn1 hwa (hix ▸ hrd x (by omega)) rr) ?_
        intro e a2 w2 hq
        cases e with
        | exit id => obtain ⟨S', I', X', β2, σ2, k1, _⟩ := hq; exact k1.elim
        | ret => obtain ⟨S', I', X', β2, σ2, k1, _⟩ := hq; exact k1.elim
        | goto l => exact hq.elim
        | panic c => exact hq.elim
        | outgrown => exact hq.elim
        | normal =>
          obtain ⟨S2, I2, X2, β2, σ2, k1, k2, _, ⟨k3, k3'⟩, k4, k5⟩ := hq
          have hl2 : w2.heap[l]? = some (.loop (rec0 .ready none)) := k3.fix _ _ j.loop rfl
          refine ⟨_, run_beginRound hl2 rfl, ?_⟩
          have hl3 : (w2.putObj l (.loop { rec0 .ready none with state := .busy })).heap[l]? = some (.loop { rec0 .ready none with state := .busy }) := World.putObj_heap_same (heap_lt hl2)
          have k2' := (k2.sub k3').putLoop hl2 { rec0 .ready none with state := .busy }
          refine wpIn_mono (iwp_sound_r hm hT hC (some l) 0 body _ _ a2 _ I2 (fun b => X b ∨ Y b) β2 σ2 (isIn (ps.toList ++ (wrs assign ++ wrs body))) hn2 hwb k1 k2') ?_
          have fin : ∀ (jump : Option Code) (S3 S4 : St) (a3 : Act) (w3 : World) (I3 : Imm) (X3 : Nat → Prop) (β3 β4 : Beta) (σ3 : Nat → Sig), Rel Γ S4 a3 w3 I3 X3 β4 σ3 → (∀ b, (X b ∨ Y b) → X3 b) → Above β3 β4 σ3 σ3 → Ext I2 (fun b => X b ∨ Y b) (w2.putObj l (.loop { rec0 .ready none with state := .busy })) I3 w3 → Above β2 β3 σ2 σ3 →
              Same (Wn (isIn (ps.toList ++ (wrs assign ++ wrs body)))) a2 a3 → (∀ i, isIn (ps.toList ++ (wrs assign ++ wrs body)) i = true → look S4.tm i = .dead) →
              ∃ v w4, (Instr.endRound l jump).run Γ.P w3 = .ok v w4 ∧ ∃ I4 X4, v = .bool jump.isNone ∧ Kept I1 Y w1 I4 w4 ∧ Base Γ.gl w4 I4 X4 ∧ (∀ b, Y b → ¬ X4 b) ∧
                JB Γ a w I X β σ l D (rec0 (if jump.isNone then .ready else .done) jump) S4 w4 I4 X4 β4 σ3 := by
            intro jump S3 S4 a3 w3 I3 X3 β3 β4 σ3 q1 q2 q3 q4 q5 q6 q7
            have hl4 := q4.fix _ _ hl3 rfl
            have hd4 : w3.heap[D]? = some (.deferred (some [])) := q4.fix _ _ (by rw [World.putObj_heap_other (show D ≠ l by show w.heap.size ≠ w.heap.size + 1; omega)]; exact k3.fix _ _ j.dfr rfl) rfl
            have q1' := (q1.sub q2).putLoop hl4 (rec0 (if jump.isNone then .ready else .done) jump)
            have hext : Ext I X w I3 (w3.putObj l (.loop (rec0 (if jump.isNone then .ready else .done) jump))) := by
              have e1 : Ext I X w I2 (w2.putObj l (.loop { rec0 .ready none with state := .busy })) := (j.ext.trans (k3.sub fun b h => .inl h)).put (by show w.heap.size ≤ w.heap.size + 1; omega) hX _
              exact (e1.trans (q4.sub fun b h => .inl h)).put (by show w.heap.size ≤ w.heap.size + 1; omega) hX _
            refine ⟨_, _, run_endRound jump hl4, I3, mine X β4 σ3, rfl, ?_, ⟨q1'.mem.im, q1'.mem.glo, (q1'.sub fun b h => .inl h : Rel Γ S4 a3 _ I3 X β4 σ3).mine_lt, q1'.mem.gz⟩, q1'.mine_not (fun b hy hx => hYX b hy (.inl hx)), ?_⟩
            · have hs1 := k3.size
              have hs2 := q4.size
              refine ⟨by simp at hs2 ⊢; omega, fun b hb => ?_, fun x v hx => q4.imm _ _ (k3.imm _ _ hx), fun x hx => (q4.new x (.inr hx)).trans (k3.new x (.inr hx)), fun q cc hq => ?_⟩
              · rw [World.putObj_heap_other (hYl b hb), q4.keep b (.inr hb), World.putObj_heap_other (hYl b hb), k3.keep b (.inr hb)]
              · have hne : q ≠ l := fun e => by rw [e, j.loop] at hq; cases hq
                rw [World.putObj_heap_other hne]
                exact q4.fix _ _ (by rw [World.putObj_heap_other hne]; exact k3.fix _ _ hq rfl) rfl
            · refine ⟨⟨fun i => ?_, ?_, j.rel.nt, (q1'.sub fun b h => .inl h : Rel Γ S4 a3 _ I3 X β4 σ3).mem, (q1'.sub fun b h => .inl h : Rel Γ S4 a3 _ I3 X β4 σ3).own⟩, fun _ h => h, hext, ((j.abv.trans k4).trans q5).trans q3, World.putObj_heap_same (heap_lt hl4), by rw [World.putObj_heap_other (show D ≠ l by show w.heap.size ≠ w.heap.size + 1; omega)]; exact hd4⟩
              · by_cases hi : isIn (ps.toList ++ (wrs assign ++ wrs body)) i = true
                · rw [q7 i hi]; exact .data (.dead _)
                · have hi' : isIn (ps.toList ++ (wrs assign ++ wrs body)) i = false := by simpa using hi
                  have e1 := q6 i hi'
                  have e2 := k5 i hi'
                  have e3 := t3 i (fun hm => hi (isIn_iff.2 (by simp [hm])))
                  have := q1'.tm i
                  rw [e1, e2] at this
                  simp only at this
                  rw [e3] at this; exact this
              · obtain ⟨Ds, m1, m2, m3⟩ := hr.df.m
                exact ⟨⟨Ds, m1, m2, fun E hE => ⟨hext.fix E _ (m3 E hE).1 rfl, (m3 E hE).2⟩⟩, hr.df.e⟩
          intro e a3 w3 hq3
          cases e with
          | goto l => exact hq3.elim
          | panic c => exact hq3.elim
          | outgrown => exact hq3.elim
          | normal =>
            obtain ⟨S3, I3, X3, β3, σ3, ⟨x', hx', hle⟩, g2, _, ⟨g3, g3'⟩, g4, g5⟩ := hq3
            obtain ⟨β4, r4, ab4⟩ := g2.le hle
            obtain ⟨v, w4, f1, I4, X4, f2, f3, f4, f5, f6⟩ := fin none S3 (Inv x') a3 w3 I3 X3 β3 β4 σ3 r4 g3' ab4 g3 g4 g5 (fun i hi => look_ok (hw x') hi)
            exact ⟨v, w4, f1, I4, X4, true, by rw [f2]; rfl, f3, f4, f5, .inl ⟨hk, x', β4, σ3, by rw [hx', hix]; rfl, f6⟩⟩
          | ret =>
            obtain ⟨S3, I3, X3, β3, σ3, hq, g2, _, ⟨g3, g3'⟩, g4, g5⟩ := hq3
            have r4 : Rel Γ ⟨dropW (ps.toList ++ (wrs assign ++ wrs body)) S3.tm, S3.ce, S3.up⟩ a3 w3 I3 X3 β3 σ3 := g2.dropT _
            obtain ⟨v, w4, f1, I4, X4, f2, f3, f4, f5, f6⟩ := fin (some .ret) S3 _ a3 w3 I3 X3 β3 β3 σ3 r4 g3' (.refl _ _) g3 g4 g5 (fun i hi => by simp only [look_drop, hi, if_true])
            exact ⟨v, w4, f1, I4, X4, false, by rw [f2]; rfl, f3, f4, f5, .inr ⟨by simp; omega, _, .ret, β3, σ3, .inl ⟨rfl, hq⟩, f6⟩⟩
          | exit id =>
            obtain ⟨S3, I3, X3, β3, σ3, hq, g2, _, ⟨g3, g3'⟩, g4, g5⟩ := hq3
            have r4 : Rel Γ ⟨dropW (ps.toList ++ (wrs assign ++ wrs body)) S3.tm, S3.ce, S3.up⟩ a3 w3 I3 X3 β3 σ3 := g2.dropT _
            obtain ⟨v, w4, f1, I4, X4, f2, f3, f4, f5, f6⟩ := fin (some (.exit id)) S3 _ a3 w3 I3 X3 β3 β3 σ3 r4 g3' (.refl _ _) g3 g4 g5 (fun i hi => by simp only [look_drop, hi, if_true])
            exact ⟨v, w4, f1, I4, X4, false, by rw [f2]; rfl, f3, f4, f5, .inr ⟨by simp; omega, _, .exit id, β3, σ3, .inr ⟨id, rfl, hq⟩, f6⟩⟩
    refine (callsIn_of (n := n - 1) (r := none) hdone).mono ?_
    rintro e w' ⟨v, I', X', L, rfl, hL, hJ, hb⟩
    have after : ∀ (st : LoopState) (pe : Option Code) (S' : St) (β' : Beta) (σ' : Nat → Sig), st ≠ .busy → JB Γ a w I X β σ l D (rec0 st pe) S' w' I' X' β' σ' → ∀ K : St → Prop, K S' →
        ∃ w4, (Instr.endLoop l).run Γ.P w' = .ok pe w4 ∧ AftG Γ (Wn wr) K I X w β σ a { a with defers := [{ target := .collected D, args := #[] }] ++ a.defers } w4 := by
      intro st pe S' β' σ' hst j K hk
      have hrun := run_endLoop (P := Γ.P) j.loop hst
      have hne : D ≠ l := by show w.heap.size ≠ w.heap.size + 1; omega
      have r2 := j.rel.putLoop j.loop { rec0 st pe with state := .exhausted }
      have he2 : Ext I X w I' (w'.putObj l (.loop { rec0 st pe with state := .exhausted })) := j.ext.put (by show w.heap.size ≤ w.heap.size + 1; omega) hX _
      refine ⟨_, hrun, S', I', X, β', σ', hk, ⟨r2.tm, ?_, r2.nt, r2.mem, r2.own⟩, trivial, ⟨he2, fun _ h => h⟩, j.abv, fun _ _ => rfl⟩
      obtain ⟨Ds, m1, m2, m3⟩ := hr.df.m
      refine ⟨⟨D :: Ds, by simp [m1], List.nodup_cons.2 ⟨fun hD => ?_, m2⟩, fun E hE => ?_⟩, fun d e => (by rw [hds] at e; cases e)⟩
      · have := heap_lt (m3 D hD).1
        exact Nat.lt_irrefl _ this
      · rcases List.mem_cons.1 hE with rfl | hE
        · exact ⟨by rw [World.putObj_heap_other hne]; exact j.dfr, fun hx => Nat.lt_irrefl _ (hX _ hx)⟩
        · exact ⟨he2.fix E _ (m3 E hE).1 rfl, (m3 E hE).2⟩
    rcases hJ with ⟨hk, x, β', σ', hix, j⟩ | ⟨hk, S', c, β', σ', hc, j⟩
    · obtain ⟨w4, h1, h2⟩ := after .ready none (Inv x) β' σ' (by nofun) j (Q .normal) (hd x (by omega))
      exact ⟨none, w4, h1, h2⟩
    · rcases hc with ⟨rfl, hq⟩ | ⟨id, rfl, hq⟩
      · obtain ⟨w4, h1, h2⟩ := after .done _ S' β' σ' (by nofun) j (Q .ret) hq
        exact ⟨some .ret, w4, h1, wpIn_ret h2⟩
      · obtain ⟨w4, h1, h2⟩ := after .done _ S' β' σ' (by nofun) j (Q (.exit id)) hq
        exact ⟨some (.exit id), w4, h1, wpIn_exit h2⟩
theorem heldC_get : ∀ {ks : List Nat} {cs : List (List IV)} {ce : Ces}, heldC ce ks cs → ks.length = cs.length ∧ ∀ (i k : Nat) c, ks[i]? = some k → cs[i]? = some c → ∃ c0, lookC ce k = some c0 ∧ noPtrL c0 = true ∧ noOwnL c0 = c
  | [], [], ce, _ => ⟨rfl, fun i k c h => by simp at h⟩
  | k :: ks, c :: cs, ce, h => by
    obtain ⟨h1, h2⟩ := heldC_get h.2
    refine ⟨by simp [h1], fun i k' c' e1 e2 => ?_⟩
    cases i with
    | zero => simp at e1 e2; subst e1; subst e2; exact h.1
    | succ i => exact h2 i k' c' (by simpa using e1) (by simpa using e2)
  | [], _ :: _, _, h => h.elim
  | _ :: _, [], _, h => h.elim
theorem ptrsI_at : ∀ {ks : List Nat} {i k : Nat}, ks[i]? = some k → (ptrsI ks)[i]? = some (.ptr 0 k 0)
  | [], i, k, h => by simp at h
  | x :: ks, 0, k, h => by simp at h; subst h; rfl
  | x :: ks, i + 1, k, h => by simpa [ptrsI] using ptrsI_at (ks := ks) (by simpa using h)
theorem hasN_mem : ∀ {l : List Nat} {i : Nat}, hasN l i = true ↔ i ∈ l
  | [], i => by simp [hasN]
  | x :: r, i => by
    simp only [hasN, List.mem_cons]
    cases h : Nat.beq x i with
    | true => simp [(beq_iff _ _).1 h]
    | false =>
      have hne : i ≠ x := fun e => by rw [(beq_iff _ _).2 e.symm] at h; cases h
      simp [hasN_mem, hne]
theorem fresh_nodup : ∀ {ks : List Nat} {ce : Ces}, freshB ce ks = true → ks.Nodup
  | [], _, _ => List.nodup_nil
  | k :: ks, ce, h => by
    simp only [freshB, Bool.and_eq_true, Bool.not_eq_true'] at h
    refine List.nodup_cons.2 ⟨fun hm => ?_, fresh_nodup h.2.2⟩
    rw [hasN_mem.2 hm] at h; cases h.2.1
theorem Rel.blocks (r : Rel Γ S a w I X β σ) {ks : List Nat} {cs : List (List IV)} (hc : heldC S.ce ks cs) (hn : ks.Nodup) :
    ∃ bs : List Nat, bs.length = ks.length ∧ bs.Nodup ∧ (∀ (i k b : Nat), ks[i]? = some k → bs[i]? = some b → β 0 k = some b) ∧ ∀ (i b : Nat) c, bs[i]? = some b → cs[i]? = some c → OwnC w I X b c := by
  obtain ⟨hl, hget⟩ := heldC_get hc
  have hb : ∀ (i k : Nat), ks[i]? = some k → ∃ b, β 0 k = some b := fun i k hk => by
    obtain ⟨c0, h1, _⟩ := hget i k _ hk (List.getElem?_eq_getElem (by have := (List.getElem?_eq_some_iff.1 hk).1; omega))
    obtain ⟨b, arr, el, h2, _⟩ := r.mem.cell 0 k c0 h1
    exact ⟨b, h2⟩
  have hbs : ∀ (i k b : Nat), ks[i]? = some k → (ks.map fun k => (β 0 k).getD 0)[i]? = some b → β 0 k = some b := fun i k b h1 h2 => by
    rw [List.getElem?_map, h1] at h2
    simp only [Option.map_some, Option.some.injEq] at h2
    obtain ⟨b', hb'⟩ := hb i k h1
    rw [hb'] at h2 ⊢
    simpa using h2
  refine ⟨ks.map fun k => (β 0 k).getD 0, by simp, ?_, hbs, fun i b c h1 h2 => ?_⟩
  · have hpw : ks.Pairwise (fun x y => (β 0 x).getD 0 ≠ (β 0 y).getD 0) := List.Pairwise.imp_of_mem (R := fun x y => x ≠ y) (fun {x y} hx hy hne e => by
      obtain ⟨i, hi⟩ := List.mem_iff_getElem?.1 hx
      obtain ⟨j, hj⟩ := List.mem_iff_getElem?.1 hy
      obtain ⟨b, hb1⟩ := hb i x hi
      obtain ⟨b', hb2⟩ := hb j y hj
      rw [hb1, hb2] at e
      have e : b = b' := e
      subst e
      exact hne (r.mem.inj 0 _ 0 _ _ hb1 hb2).2) hn
    exact List.pairwise_map.2 hpw
  · obtain ⟨hlt, _⟩ := List.getElem?_eq_some_iff.1 h2
    have hk : ks[i]? = some ks[i] := List.getElem?_eq_getElem (by omega)
    obtain ⟨c0, g1, g2, g3⟩ := hget i _ c hk h2
    obtain ⟨b', arr, el, q1, q2, q3, q4, q5, q6, q7⟩ := r.mem.cell 0 _ c0 g1
    have hb' := hbs i _ _ hk h1
    rw [q1] at hb'; cases hb'
    refine ⟨arr, el, q2, by rw [q3, ← g3, noOwnL_eq, List.length_map], q4, fun j x hx => ?_, q6, q7⟩
    rw [← g3, noOwnL_eq] at hx
    obtain ⟨y, hy, rfl⟩ := map_get hx
    exact (q5 j y hy).data' (noPtrL_get g2 j y hy)
theorem range_sound (wr : Nat → Bool) (hm : Γ.P.follows .mixedOrders = true) (hT : TOK Γ.P Γ.T) (hC : HC C Γ) (hds : Γ.ds = none) (hV : HV C Γ) (n : Nat)
    (f : Operand) (ps : Array Tmp) (assign body : Code) (Q : Ex → St → Prop) (S : St) (a : Act) (w : World) (I : Imm) (X : Nat → Prop) (β : Beta) (σ : Nat → Sig) (hwr : ∀ d ∈ wrs (.rangeFunc f ps assign body), wr d = true)
    (h : iwp C Γ (.rangeFunc f ps assign body) Q S) (hr : Rel Γ S a w I X β σ) : (Code.rangeFunc f ps assign body).wpIn (Fw none) n Γ.P (QRG Γ (Wn wr) Q I X w β σ a) a w := by
  have hvf := evo_V hr f
  cases h with
  | mk g c nn xs hf hp hv hok hlen Inv ix a0 h0 i0 hw hrd hd =>
    obtain ⟨⟨fn, code, hfn, hbody, hname⟩, hvis⟩ := hV.1 _ _ _ _ hv
    rw [hf] at hvf
    obtain ⟨us0, us, hval, hl1, hl2, _, hV2⟩ := hvf.fn_inv
    have hus0 : us0 = #[] := Array.eq_empty_of_size_eq_zero (by rw [← hl1]; rfl)
    subst hus0
    refine range_core wr hm hT hC hds n f ps assign body Q S a w I X β σ hwr hr g us nn xs hval fn code hfn hbody hname hok hlen Inv ix a0 h0 i0 hw hrd hd fun l J W1 β1 _ r1 _ hst hY h0 => ?_
    refine hvis l us J W1 I (mine X β1 σ) ⟨r1.mem.im, r1.mem.glo, r1.mine_lt, r1.mem.gz⟩ (by rw [noOwnL_eq, List.length_map]; exact hl2) (fun j x hx => ?_) hst hY h0
    rw [noOwnL_eq] at hx
    obtain ⟨y, hy, rfl⟩ := map_get hx
    exact (hV2 j y hy).data' (noPtrL_get hp j y hy)
  | own g ks cs nn xs hf hc hn hv hok hlen Inv ix a0 h0 hdrop i0 hw hrd hd =>
    obtain ⟨⟨fn, code, hfn, hbody, hname⟩, hvis⟩ := hV.2 _ _ _ _ hv
    rw [hf] at hvf
    obtain ⟨us0, us, hval, hl1, hl2, _, hV2⟩ := hvf.fn_inv
    have hus0 : us0 = #[] := Array.eq_empty_of_size_eq_zero (by rw [← hl1]; rfl)
    subst hus0
    obtain ⟨bs, b1, b2, b3, b4⟩ := hr.blocks hc (fresh_nodup hn)
    have hlc := (heldC_get hc).1
    rw [ptrsI_len] at hl2
    have hus : us = (bs.map ptrV).toArray := by
      apply Array.ext
      · simp; omega
      · intro i h1 h2
        have hi : i < ks.length := by omega
        have hk : ks[i]? = some ks[i] := List.getElem?_eq_getElem hi
        have hb : bs[i]? = some bs[i] := List.getElem?_eq_getElem (by omega)
        have hvi := hV2 i _ (ptrsI_at hk)
        rw [Array.getD_eq_getD_getElem?, Array.getElem?_eq_getElem h1, Option.getD_some] at hvi
        have hbb := b3 i _ _ hk hb
        have : us[i] = ptrV bs[i] := by
          generalize us[i] = u at hvi
          cases hvi with
          | data h => cases h
          | ptr l d off b hb' => rw [hbb] at hb'; cases hb'; rfl
        rw [this]; simp
    refine range_core wr hm hT hC hds n f ps assign body Q S a w I X β σ hwr hr g us nn xs hval fn code hfn hbody hname hok hlen Inv ix a0 h0 i0 hw hrd hd fun l J W1 β1 hold r1 hsub hst hY h0 => ?_
    rw [hus]
    refine hvis l bs J W1 I (mine X β1 σ) ⟨r1.mem.im, r1.mem.glo, r1.mine_lt, r1.mem.gz⟩ (by omega) b2 (fun i b c h1 h2 => ?_) hst hY h0
    obtain ⟨arr, el, q1, q2, q3, q4, q5, q6⟩ := b4 i b c h1 h2
    have hi := (List.getElem?_eq_some_iff.1 h1).1
    have hk : ks[i]? = some ks[i] := List.getElem?_eq_getElem (by omega)
    have hbk := b3 i _ _ hk h1
    refine ⟨arr, el, by rw [hold b (heap_lt q1)]; exact q1, q2, q3, q4, q5, ?_⟩
    rintro (hx | ⟨l', d, hld⟩ | ⟨t, g', ht, rfl⟩)
    · exact q6 hx
    · have h3 := hsub _ _ _ hld
      obtain ⟨rfl, rfl⟩ := hr.mem.inj _ _ _ _ _ h3 hbk
      obtain ⟨c', hc'⟩ := r1.mem.keys 0 _ b hld
      have h4 := List.all_eq_true.1 hdrop _ (List.mem_of_getElem? hk)
      rw [show hasKey (Inv a0).ce ks[i] = true from hasKey_iff.2 ⟨c', hc'⟩] at h4
      cases h4
    · obtain ⟨_, _, _, _, _, _, _, k7⟩ := hr.own.row t g' ht
      exact k7 _ _ hbk
theorem iwp_sound (hm : Γ.P.follows .mixedOrders = true) (hT : TOK Γ.P Γ.T) (hC : HC C Γ) (hds : Γ.ds = none) (hV : HV C Γ) (n : Nat) (c : Code) (Q : Ex → St → Prop) (S : St) (a : Act) (w : World) (I : Imm) (X : Nat → Prop) (β : Beta) (σ : Nat → Sig)
    (h : iwp C Γ c Q S) (hr : Rel Γ S a w I X β σ) : c.wpIn (Fw none) n Γ.P (QRG Γ (Wn fun _ => true) Q I X w β σ a) a w :=
  iwp_soundG (W := Wn fun _ => true) false false (opOK_n _ hT hC none n) (map_n _ hT hC none n) (fun _ => draw_n _ hm hT hC none n)
    (fun _ f ps assign body Q S a w I X β σ hw h hr _ => range_sound _ hm hT hC hds hV n f ps assign body Q S a w I X β σ hw h hr) c Q S a w I X β σ (fun e => by cases e) (fun e => by cases e) (fun _ _ => rfl) h hr trivial
end
end Go.Proofs.YtfoenhiohhmnlaaGreatDoor.Ix

namespace Go.Proofs.YtfoenhiohhmnlaaGreatDoor.Ix
set_option linter.unusedVariables false
section
variable {Γ : Env} {S : St} {a : Act} {w : World} {I : Imm} {X : Nat → Prop} {β : Beta} {σ : Nat → Sig} {K : St → Prop}
theorem params_look : ∀ (args : List IV) (k i : Nat), look (params k args) i = if k ≤ i then args.getD (i - k) .dead else .dead
  | [], k, i => by simp [params, look]
  | x :: r, k, i => by
    simp only [params, look_cons, params_look r (k + 1) i]
    by_cases h : k = i
    · subst h; simp
    · rw [if_neg h]
      by_cases h2 : k ≤ i
      · rw [if_pos (by omega), if_pos h2, show i - k = (i - (k + 1)) + 1 by omega]; simp
      · rw [if_neg (by omega), if_neg h2]
theorem V.noOwnCell {I : Imm} {β β' : Beta} {s s' : Sig} (hb : ∀ l d b, β (l + 1) d = some b → β' (l + 1) d = some b) (hs : ∀ t g, s t = some g → s' t = some g) {x : IV} {v : Value} (h : V I β s x v) : clV [] x = true → V I β' s' x v := by
  intro hc
  have h1 : V I β' s x v := V.cl (ds := []) (fun l d b hb' hk => by
    cases l with
    | zero => simpa using hk rfl
    | succ l => exact hb l d b hb') h hc
  exact h1.mono (fun _ _ h => h) (fun _ _ _ h => h) hs
theorem freezeL_eq (ce : Ces) : ∀ l, freezeL ce l = l.map (freeze ce)
  | [] => rfl
  | x :: r => by simp only [freezeL, List.map_cons, freezeL_eq ce r]
theorem D.frz {I I2 : Imm} (hI : ∀ a v, I a = some v → I2 a = some v) (ce : Ces) {x : IV} {v : Value} (h : D I x v) : D I2 (freeze ce x) v := by
  induction h with
  | int k n => exact .int k n
  | bool b => exact .bool b
  | str s => exact .str s
  | lit v h => exact .lit v h
  | nilS => exact .nilS
  | lstN e f => exact .lstN e f
  | lst e n f b off c g hc hl hi h1 h _ => exact (D.lst e n f b off c g hc hl hi h1 h).mono hI
  | vptr e n f i j b off g hi0 hl hi h1 h _ => exact (D.vptr e n f i j b off g hi0 hl hi h1 h).mono hI
  | agg xs vs hl h1 _ ih =>
    simp only [freeze, freezeL_eq]
    exact .agg _ vs (by simpa using hl) h1 fun j y hy => by obtain ⟨z, hz, rfl⟩ := map_get hy; exact ih j z hz
  | tup xs vs hl _ ih =>
    simp only [freeze, freezeL_eq]
    exact .tup _ vs (by simpa using hl) fun j y hy => by obtain ⟨z, hz, rfl⟩ := map_get hy; exact ih j z hz
  | fn f xs ys vs us hl hk _ _ ih ih' =>
    simp only [freeze, freezeL_eq]
    exact .fn f _ _ vs us (by simpa using hl) (by simpa using hk) (fun j y hy => by obtain ⟨z, hz, rfl⟩ := map_get hy; exact ih j z hz) (fun j y hy => by obtain ⟨z, hz, rfl⟩ := map_get hy; exact ih' j z hz)
  | ifc d x => exact .ifc d x
  | dead v => exact .dead v
open Classical in
theorem Rel.frz (r : Rel Γ S a w I X β σ) : ∃ I2 : Imm, (∀ a v, I a = some v → I2 a = some v) ∧ (∀ x, X x.block → I2 x = I x) ∧ (∀ x v, V I β (σ 0) x v → V I2 β (σ 0) (freeze S.ce x) v) ∧ OwnR w I2 X β (σ 0) ∧
    MemR Γ.gl S.up w I2 X (fun l d => β (l + 1) d) (fun l => σ (l + 1)) := by
  let P : Addr → Prop := fun x => ∃ d c, lookC S.ce d = some c ∧ noPtrL c = true ∧ β 0 d = some x.block ∧ x.spot = none ∧ x.off < c.length
  let I2 : Imm := fun x => if P x then hcell w x else I x
  have cell : ∀ d c b, lookC S.ce d = some c → β 0 d = some b → ∃ arr el, w.heap[b]? = some (.cells arr el (0, 0)) ∧ arr.size = c.length ∧ (∀ (j : Nat) (u : Value), arr[j]? = some u → u.oneCell' = true) ∧ (∀ (j : Nat) x, c[j]? = some x → V I β (σ 0) x (arr.getD j undef)) ∧ ¬ X b ∧ ∀ j, I ⟨b, j, none⟩ = none := by
    intro d c b hc hb
    obtain ⟨b', arr, el, h1, h2, h3, h4, h5, h6, h7⟩ := r.mem.cell 0 d c hc
    rw [hb] at h1; cases h1
    exact ⟨arr, el, h2, h3, h4, fun j x hx => by simpa using h5 j x hx, h7, h6⟩
  have hI : ∀ x v, I x = some v → I2 x = some v := by
    intro x v hx
    show (if P x then _ else _) = _
    split
    · exact r.mem.im x v hx
    · exact hx
  have hXP : ∀ x, X x.block → ¬ P x := by
    rintro x hx ⟨d, c, hc, _, hb, _⟩
    obtain ⟨_, _, _, _, _, _, h, _⟩ := cell d c _ hc hb
    exact h hx
  have hup : ∀ l d b (x : Addr), β (l + 1) d = some b → x.block = b → ¬ P x := by
    rintro l d b x hb rfl ⟨d', c, hc, _, hb', _⟩
    have := r.mem.inj _ _ _ _ _ hb hb'; omega
  have him : ∀ x v, I2 x = some v → hcell w x = some v := by
    intro x v hx
    have hx : (if P x then hcell w x else I x) = some v := hx
    split at hx
    · exact hx
    · exact r.mem.im x v hx
  refine ⟨I2, hI, fun x hx => if_neg (hXP x hx), fun x v hv => ?_, ⟨fun t g hg => ?_, r.own.inj⟩, ⟨fun l d c hc => ?_, fun l d l' d' b h1 h2 => ?_, fun l d b h1 => r.mem.keys (l + 1) d b h1, him, fun g => (r.mem.glo g).mono hI, r.mem.xb, r.mem.gz⟩⟩
  · induction hv with
    | data h => exact .data (h.frz hI _)
    | ptr l d off b hb =>
      cases l with
      | succ l => exact .ptr (l + 1) d off b hb
      | zero =>
        simp only [freeze]
        split
        · rename_i c hc
          split
          · rename_i hp
            obtain ⟨arr, el, h2, h3, h4, h5, h6, h7⟩ := cell d c b hc hb
            obtain ⟨arr0, hoff⟩ : True ∧ True := ⟨trivial, trivial⟩
            have hcell : ∀ j, j < c.length → I2 ⟨b, j, none⟩ = some (arr.getD j undef) := by
              intro j hj
              show (if P _ then _ else _) = _
              rw [if_pos ⟨d, c, hc, hp, hb, rfl, hj⟩]
              have hlt : j < arr.size := by omega
              simp [hcell, h2, Array.getD_eq_getD_getElem?, hlt]
            have := D.vptr (I := I2) c.length 1 (fun _ => noOwnL c) 0 off b 0 (fun _ j => arr.getD j undef) (by omega) (fun i _ => by rw [noOwnL_eq]; simp) (fun i j hi hj => by
              have : i = 0 := by omega
              subst this; simpa using hcell j hj) (fun i j hi hj => h4 j _ (by rw [Array.getD_eq_getD_getElem?]; have : j < arr.size := by omega
                                                                               simp [this])) (fun i j x hi hx => by
              rw [noOwnL_eq] at hx
              obtain ⟨y, hy, rfl⟩ := map_get hx
              exact ((h5 j y hy).data' (noPtrL_get hp j y hy)).mono hI)
            exact .data (by simpa using this)
          · exact .ptr 0 d off b hb
        · exact .ptr 0 d off b hb
    | ownN t e f => exact .ownN t e f
    | raw t e n b el ht => exact .raw t e n b el ht
    | row d e n b c h hc => exact .data (.dead _)
    | own t e n f b el c g ht hc hl hi h1 h => exact .own t e n f b el c g ht hc hl (fun i j h h' => hI _ _ (hi i j h h')) h1 (fun i j x a b => (h i j x a b).mono hI)
    | agg xs vs hl h1 _ ih =>
      simp only [freeze, freezeL_eq]
      exact .agg _ vs (by simpa using hl) h1 fun j y hy => by obtain ⟨z, hz, rfl⟩ := map_get hy; exact ih j z hz
    | tup xs vs hl _ ih =>
      simp only [freeze, freezeL_eq]
      exact .tup _ vs (by simpa using hl) fun j y hy => by obtain ⟨z, hz, rfl⟩ := map_get hy; exact ih j z hz
    | mp ks xs b vs hm hl _ ih =>
      simp only [freeze, freezeL_eq]
      exact .mp ks _ b vs (hm.mono hI) (by simpa using hl) fun j y hy => by obtain ⟨z, hz, rfl⟩ := map_get hy; exact ih j z hz
    | fn f xs ys vs us hl hk _ _ ih ih' =>
      simp only [freeze, freezeL_eq]
      exact .fn f _ _ vs us (by simpa using hl) (by simpa using hk) (fun j y hy => by obtain ⟨z, hz, rfl⟩ := map_get hy; exact ih j z hz) (fun j y hy => by obtain ⟨z, hz, rfl⟩ := map_get hy; exact ih' j z hz)
  · obtain ⟨cur, c1, c2, c3, c4, c5, c6, c7⟩ := r.own.row t g hg
    refine ⟨cur, c1, c2, c3, c4, fun j hj => ?_, c6, c7⟩
    show (if P _ then _ else _) = _
    rw [if_neg]
    · exact c5 j hj
    · rintro ⟨d, c, hc, _, hb, _⟩; exact c7 0 d hb
  · obtain ⟨b, arr, el, h1, h2, h3, h4, h5, h6, h7⟩ := r.mem.cell (l + 1) d c hc
    refine ⟨b, arr, el, h1, h2, h3, h4, fun j x hx => ?_, fun j => ?_, h7⟩
    · have := (h5 j x hx).mono hI (fun _ _ _ h => h) (fun _ _ h => h)
      have e : (fun l' => β (l + 1 + l')) = fun l' d => β (l + l' + 1) d := by funext l'; rw [show l + 1 + l' = l + l' + 1 by omega]
      rw [e] at this; exact this
    · show (if P _ then _ else _) = _
      rw [if_neg (hup l d b _ h1 rfl)]; exact h6 j
  · have := r.mem.inj (l + 1) d (l' + 1) d' b h1 h2
    exact ⟨by omega, this.2⟩
theorem Rel.putDef {D : Nat} {c : Option (List Deferred)} (r : Rel Γ S a w I X β σ) (hl : w.heap[D]? = some (.deferred c)) {ds : List Deferred} (o' : Obj) (hm : Dfs Γ.ds ds (w.putObj D o') X) : Rel Γ S { a with defers := ds } (w.putObj D o') I X β σ := by
  refine ⟨r.tm, hm, r.nt, ⟨fun l' d c hc => ?_, r.mem.inj, r.mem.keys, fun x v hx => cell_put (r.mem.im x v hx) hl rfl, r.mem.glo, fun b h => by simpa using r.mem.xb b h, r.mem.gz.of fun g arr el mm hg => ⟨arr, el, mm, by rw [World.putObj_heap_other (by rintro rfl; rw [hl] at hg; cases hg)]; exact hg, rfl⟩⟩, ⟨fun t g hg => ?_, r.own.inj⟩⟩
  · obtain ⟨b, arr, el, h1, h2, h3, h4, h5, h6, h7⟩ := r.mem.cell l' d c hc
    exact ⟨b, arr, el, h1, by rw [World.putObj_heap_other (fixed_cells h2 hl rfl)]; exact h2, h3, h4, h5, h6, h7⟩
  · obtain ⟨cur, k1, k2⟩ := r.own.row t g hg
    exact ⟨cur, by rw [World.putObj_heap_other (fixed_cells k1 hl rfl)]; exact k1, k2⟩
theorem leaves_marks (hds : Γ.ds = none) {n : Nat} {fn : Func} {R : Ending → World → Prop} {w0 : World} {I0 : Imm} {X0 : Nat → Prop} (h0 : ∀ (b : Nat) o, w0.heap[b]? = some o → fixed o = true → X b) (hx : ∀ b, X0 b → X b)
    (hR : ∀ w', Rel Γ S { a with defers := [] } w' I X β σ → Ext I0 X0 w0 I w' → ∃ v, (results fn a.tmps).run Γ.P w' = .ok v w' ∧ R (.returned v) w') :
    ∀ (Ds : List Nat) (w : World), Ds.Nodup → (∀ D ∈ Ds, w.heap[D]? = some (.deferred (some [])) ∧ ¬ X D) → Rel Γ S { a with defers := Ds.map fun D => { target := .collected D, args := #[] } } w I X β σ → Ext I0 X0 w0 I w →
      LeavesInM (Fw none) n Γ.P fn a.tmps R (Ds.map fun D => { target := .collected D, args := #[] }) .returning w
  | [], w, _, _, r, he => hR w r he
  | D :: Ds, w, hn, hD, r, he => by
    obtain ⟨hn1, hn2⟩ := List.nodup_cons.1 hn
    obtain ⟨g1, g2⟩ := hD D (by simp)
    have hD' : ∀ E ∈ Ds, (w.putObj D (.deferred none)).heap[E]? = some (.deferred (some [])) ∧ ¬ X E := fun E hE => by
      have hne : E ≠ D := fun e => hn1 (e ▸ hE)
      rw [World.putObj_heap_other hne]; exact hD E (by simp [hE])
    refine ⟨nofun, .inl ⟨D, _, rfl, run_takeDeferred g1, leaves_marks hds h0 hx hR Ds _ hn2 hD' ?_ ?_⟩⟩
    · exact r.putDef g1 (.deferred none) ⟨⟨Ds, rfl, hn2, hD'⟩, fun d e => (by rw [hds] at e; cases e)⟩
    · refine ⟨he.os, he.tape, he.output, by simpa using he.size, fun b hb => ?_, he.imm, he.new, fun k o hk ho => ?_⟩
      · have hne : b ≠ D := fun e => g2 (e ▸ hx b hb)
        rw [World.putObj_heap_other hne]; exact he.keep b hb
      · have hne : k ≠ D := fun e => g2 (e ▸ h0 k o hk ho)
        rw [World.putObj_heap_other hne]; exact he.fix k o hk ho
theorem comp_of_body {C : Con} (hmo : Γ.P.follows .mixedOrders = true) (hT : TOK Γ.P Γ.T) (hC : HCC C Γ.P Γ.gl) (hV : HV C Γ) {g : Nat} {fn : Func} {c : Code} (hf : Γ.P.funcs[g]? = some fn)
    (hb : fn.body = some c) (hn : (fn.name == "runtime.NumGoroutine") = false) {up up2 : List Ces} {args : List IV} {rv : IV}
    (h : ibody C Γ fn up args fun r up' => r = rv ∧ up' = up2) : Comp Γ.P Γ.gl g up args rv up2 := by
  refine ⟨⟨fn, c, hf, hb, hn⟩, fun vals w I X β σ hm hlen hargs => ?_⟩
  refine (callsIn_wide (n := 1)).1 (callsIn_of_wp_marks (F := Fw none) hf hb trivial ?_)
  simp only [ibody, hb, fps_eq] at h
  let Γ' : Env := ⟨Γ.P, Γ.T, Γ.gl, fn.ntmps, Γ.vis, none, none, Γ.rw⟩
  let σu : Nat → Sig := fun l => match l with | 0 => noSig | l + 1 => σ l
  let X1 : Nat → Prop := fun b => X b ∨ ∃ o, w.heap[b]? = some o ∧ fixed o = true
  have r0 : Rel Γ' ⟨params 0 args, [], up⟩ { tmps := vals ++ Array.replicate (fn.ntmps - vals.size) undef, defers := [] } w I X1 (under β) σu := by
    refine ⟨fun i => ?_, ⟨.nil _ _, fun d e => (by cases e)⟩, ?_, ⟨fun l d c hc => ?_, fun l d l' d' b h1 h2 => ?_, fun l d b h1 => ?_, hm.im, hm.glo, fun b hb => ?_, hm.gz⟩, ⟨fun t g h => (by cases h), fun t t' g g' h => (by cases h)⟩⟩
    · rw [params_look]
      simp only [Nat.zero_le, if_true, Nat.sub_zero]
      cases hi : args[i]? with
      | none => simp only [List.getD_eq_getElem?_getD, hi, Option.getD_none]; exact .data (.dead _)
      | some x =>
        have hlt : i < vals.size := by rw [← hlen]; exact (List.getElem?_eq_some_iff.1 hi).1
        have := hargs i x hi
        simp only [List.getD_eq_getElem?_getD, hi, Option.getD_some]
        rw [Array.getD_eq_getD_getElem?] at this ⊢
        rw [Array.getElem?_append_left hlt]; exact this
    · simp only [Array.size_append, Array.size_replicate]; show fn.ntmps ≤ _; omega
    · cases l with
      | zero => simp [upC, lookC] at hc
      | succ l =>
        obtain ⟨b, arr, el, h1, h2, h3, h4, h5, h6, h7⟩ := hm.cell l d c hc
        refine ⟨b, arr, el, h1, h2, h3, h4, fun j x hx => ?_, h6, fun hx => ?_⟩
        · have := h5 j x hx
          have e : (fun l' => under β (l + 1 + l')) = fun l' => β (l + l') := by funext l'; rw [show l + 1 + l' = (l + l') + 1 by omega]; rfl
          rw [e]; exact this
        · rcases hx with hx | ⟨o, ho, hf⟩
          · exact h7 hx
          · rw [h2] at ho; cases ho; cases hf
    · cases l with
      | zero => cases h1
      | succ l => cases l' with
        | zero => cases h2
        | succ l' => have := hm.inj l d l' d' b h1 h2; exact ⟨by omega, this.2⟩
    · cases l with
      | zero => cases h1
      | succ l => exact hm.keys l d b h1
    · rcases hb with hb | ⟨o, ho, _⟩
      · exact hm.xb b hb
      · exact heap_lt ho
  have hw := iwp_sound (X := X1) (Γ := Γ') hmo hT ⟨hC, rfl⟩ rfl hV 1 c _ _ _ w I (under β) σu h r0
  have fin : ∀ a' w', AftG Γ' (Wn fun _ => true) (fun S => resL Γ' S fn.results.toList fun vs => fv (freeze S.ce (one vs)) fun v => match clV [] v with
      | true => v = rv ∧ S.up = up2
      | false => False) I X1 w (under β) σu { tmps := vals ++ Array.replicate (fn.ntmps - vals.size) undef, defers := [] } a' w' → LeavesInM (Fw none) 1 Γ.P fn a'.tmps (fun e w' => ∃ u I' s, e = .returned u ∧ V I' (under β) s rv u ∧ OwnR w' I' X (under β) s ∧ MemR Γ.gl up2 w' I' X β σ ∧ Ext I X w I' w') a'.defers .returning w' := by
    rintro a' w' ⟨S', I', X', β', σ', hk, r, _, ⟨he, hx'⟩, hab, _⟩
    have r := r.sub hx'
    obtain ⟨Ds, d1, d2, d3⟩ := r.df.m
    rw [d1]
    refine leaves_marks rfl (Γ := Γ') (S := S') (a := a') (I := I') (X := X1) (X0 := X) (w0 := w) (I0 := I) (β := β') (σ := σ') (fun b o h1 h2 => .inr ⟨o, h1, h2⟩) (fun b h => .inl h) ?_ Ds w' d2 d3 (by rw [← d1]; exact r) (he.sub fun b h => .inl h)
    intro w2 r2 he2
    obtain ⟨ivs, us, k1, k2, k3, k4⟩ := resL_sound (Γ := Γ') hT r2 _ _ hk
    rw [fv_eq] at k1
    split at k1
    case h_2 => exact k1.elim
    rename_i hcl
    obtain ⟨rfl, rfl⟩ := k1
    have hbe : ∀ l d, β' (l + 1) d = β l d := fun l d => by rw [hab.1 l]; rfl
    obtain ⟨I3, z1, z2, z3, z4, z5⟩ := r2.frz
    refine ⟨if h : us.toArray.size = 1 then us.toArray[0] else .tuple us.toArray, ?_, _, I3, σ' 0, rfl, ?_, ?_, ?_, ?_⟩
    · have k4' : (fn.results.toList.mapM (resSem a'.tmps)).run Γ.P w2 = .ok us w2 := k4
      show (results fn a'.tmps).run Γ.P w2 = _
      simp only [results_eq, Array.mapM_eq_mapM_toList, Sem.run_bind, Sem.run_map, k4']; rfl
    · refine V.noOwnCell (β := β') (fun l d b hb => by rw [hbe] at hb; exact hb) (fun _ _ h => h) (z3 _ _ ?_) hcl
      cases ivs with
      | nil =>
        have : us = [] := by cases us <;> simp at k2 ⊢
        subst this
        simp only [one]
        exact .tup [] _ rfl (fun j x hx => by simp at hx)
      | cons x ivs =>
        cases ivs with
        | nil =>
          obtain ⟨u, rfl⟩ : ∃ u, us = [u] := by
            cases us with
            | nil => simp at k2
            | cons u us => cases us with
              | nil => exact ⟨u, rfl⟩
              | cons u' us => simp at k2
          simpa [one] using k3 0 x (by simp)
        | cons y ivs =>
          have h2 : ¬ us.toArray.size = 1 := by simp at k2 ⊢; omega
          rw [dif_neg h2]
          simp only [one]
          exact .tup _ _ (by simpa using k2) (fun j z hz => by simpa using k3 j z hz)
    · refine ⟨fun t g h => ?_, z4.inj⟩
      obtain ⟨cur, c1, c2, c3, c4, c5, c6, c7⟩ := z4.row t g h
      refine ⟨cur, c1, c2, c3, c4, c5, fun hx => c6 (.inl hx), fun l d hb => ?_⟩
      cases l with
      | zero => cases hb
      | succ l => exact c7 (l + 1) d (by rw [hbe]; exact hb)
    · have e1 : (fun l d => β' (l + 1) d) = β := by funext l d; exact hbe l d
      have e2 : (fun l => σ' (l + 1)) = σ := by funext l; exact hab.2 l
      rw [e1, e2] at z5
      exact z5.sub fun b h => .inl h
    · exact ⟨he2.os, he2.tape, he2.output, he2.size, he2.keep, fun x v hx => z1 x v (he2.imm x v hx), fun x hx => (z2 x (.inl hx)).trans (he2.new x hx), he2.fix⟩
  refine wpIn_mono hw fun e a' w' h' => ?_
  cases e with
  | normal => exact fin a' w' h'
  | ret => exact fin a' w' h'
  | exit id => obtain ⟨S', I', X', β', σ', hk, _⟩ := h'; exact hk.elim
  | goto l => exact h'.elim
  | panic ch => exact h'.elim
  | outgrown => exact h'.elim
theorem own_of_body {C : Con} (hmo : Γ.P.follows .mixedOrders = true) (hT : TOK Γ.P Γ.T) (hC : HCC C Γ.P Γ.gl) (hV : HV C Γ) {g : Nat} {fn : Func} {c : Code} (hf : Γ.P.funcs[g]? = some fn)
    (hb : fn.body = some c) (hn : (fn.name == "runtime.NumGoroutine") = false) {args : List IV} {k : Nat} {cs : List (List IV)} (h : ibodyO C Γ fn args k cs) : CompO Γ.P Γ.gl g args k cs := by
  refine ⟨⟨fn, c, hf, hb, hn⟩, fun up vals w I X β σ hm hlen hargs => ?_⟩
  refine (callsIn_wide (n := 1)).1 (callsIn_of_wp_marks (F := Fw none) hf hb trivial ?_)
  simp only [ibodyO, hb, fps_eq] at h
  have h := h up
  let Γ' : Env := ⟨Γ.P, Γ.T, Γ.gl, fn.ntmps, Γ.vis, none, none, Γ.rw⟩
  let σu : Nat → Sig := fun l => match l with | 0 => noSig | l + 1 => σ l
  let X1 : Nat → Prop := fun b => X b ∨ ∃ o, w.heap[b]? = some o ∧ fixed o = true
  have r0 : Rel Γ' ⟨params 0 args, [], up⟩ { tmps := vals ++ Array.replicate (fn.ntmps - vals.size) undef, defers := [] } w I X1 (under β) σu := by
    refine ⟨fun i => ?_, ⟨.nil _ _, fun d e => (by cases e)⟩, ?_, ⟨fun l d c hc => ?_, fun l d l' d' b h1 h2 => ?_, fun l d b h1 => ?_, hm.im, hm.glo, fun b hb => ?_, hm.gz⟩, ⟨fun t g h => (by cases h), fun t t' g g' h => (by cases h)⟩⟩
    · rw [params_look]
      simp only [Nat.zero_le, if_true, Nat.sub_zero]
      cases hi : args[i]? with
      | none => simp only [List.getD_eq_getElem?_getD, hi, Option.getD_none]; exact .data (.dead _)
      | some x =>
        have hlt : i < vals.size := by rw [← hlen]; exact (List.getElem?_eq_some_iff.1 hi).1
        have := hargs i x hi
        simp only [List.getD_eq_getElem?_getD, hi, Option.getD_some]
        rw [Array.getD_eq_getD_getElem?] at this ⊢
        rw [Array.getElem?_append_left hlt]; exact this
    · simp only [Array.size_append, Array.size_replicate]; show fn.ntmps ≤ _; omega
    · cases l with
      | zero => simp [upC, lookC] at hc
      | succ l =>
        obtain ⟨b, arr, el, h1, h2, h3, h4, h5, h6, h7⟩ := hm.cell l d c hc
        refine ⟨b, arr, el, h1, h2, h3, h4, fun j x hx => ?_, h6, fun hx => ?_⟩
        · have := h5 j x hx
          have e : (fun l' => under β (l + 1 + l')) = fun l' => β (l + l') := by funext l'; rw [show l + 1 + l' = (l + l') + 1 by omega]; rfl
          rw [e]; exact this
        · rcases hx with hx | ⟨o, ho, hf⟩
          · exact h7 hx
          · rw [h2] at ho; cases ho; cases hf
    · cases l with
      | zero => cases h1
      | succ l => cases l' with
        | zero => cases h2
        | succ l' => have := hm.inj l d l' d' b h1 h2; exact ⟨by omega, this.2⟩
    · cases l with
      | zero => cases h1
      | succ l => exact hm.keys l d b h1
    · rcases hb with hb | ⟨o, ho, _⟩
      · exact hm.xb b hb
      · exact heap_lt ho
  have hw := iwp_sound (X := X1) (Γ := Γ') hmo hT ⟨hC, rfl⟩ rfl hV 1 c _ _ _ w I (under β) σu h r0
  have fin : ∀ a' w', AftG Γ' (Wn fun _ => true) (fun S => resL Γ' S fn.results.toList fun vs => S.up = up ∧ ∃ ks, vs = [.fn k [] (ptrsI ks)] ∧ heldC S.ce ks cs ∧ freshB [] ks = true) I X1 w (under β) σu { tmps := vals ++ Array.replicate (fn.ntmps - vals.size) undef, defers := [] } a' w' →
      LeavesInM (Fw none) 1 Γ.P fn a'.tmps (fun e w' => ∃ (bs : List Nat) (I' : Imm), e = .returned (.func (.func k) #[] (bs.map ptrV).toArray) ∧ bs.length = cs.length ∧ bs.Nodup ∧
        (∀ (i b : Nat) c, bs[i]? = some b → cs[i]? = some c → OwnC w' I' X b c ∧ ∀ l d, β l d ≠ some b) ∧ MemR Γ.gl up w' I' X β σ ∧ Ext I X w I' w') a'.defers .returning w' := by
    rintro a' w' ⟨S', I', X', β', σ', hk, r, _, ⟨he, hx'⟩, hab, _⟩
    have r := r.sub hx'
    obtain ⟨Ds, d1, d2, d3⟩ := r.df.m
    rw [d1]
    refine leaves_marks rfl (Γ := Γ') (S := S') (a := a') (I := I') (X := X1) (X0 := X) (w0 := w) (I0 := I) (β := β') (σ := σ') (fun b o h1 h2 => .inr ⟨o, h1, h2⟩) (fun b h => .inl h) ?_ Ds w' d2 d3 (by rw [← d1]; exact r) (he.sub fun b h => .inl h)
    intro w2 r2 he2
    obtain ⟨ivs, us, k1, k2, k3, k4⟩ := resL_sound (Γ := Γ') hT r2 _ _ hk
    obtain ⟨rfl, ks, rfl, hcl, hfr⟩ := k1
    have hbe : ∀ l d, β' (l + 1) d = β l d := fun l d => by rw [hab.1 l]; rfl
    obtain ⟨bs, b1, b2, b3, b4⟩ := r2.blocks hcl (fresh_nodup hfr)
    have hlc := (heldC_get hcl).1
    obtain ⟨u, rfl⟩ : ∃ u, us = [u] := by
      match us, k2 with
      | [u], _ => exact ⟨u, rfl⟩
    have hu := k3 0 _ rfl
    have hu : V I' β' (σ' 0) (.fn k [] (ptrsI ks)) u := by simpa using hu
    obtain ⟨us0, us1, hval, hl1, hl2, _, hV2⟩ := hu.fn_inv
    have hus0 : us0 = #[] := Array.eq_empty_of_size_eq_zero (by rw [← hl1]; rfl)
    subst hus0
    rw [ptrsI_len] at hl2
    have hus : us1 = (bs.map ptrV).toArray := by
      apply Array.ext
      · simp; omega
      · intro i h1 h2
        have hi : i < ks.length := by omega
        have hk : ks[i]? = some ks[i] := List.getElem?_eq_getElem hi
        have hb : bs[i]? = some bs[i] := List.getElem?_eq_getElem (by omega)
        have hvi := hV2 i _ (ptrsI_at hk)
        rw [Array.getD_eq_getD_getElem?, Array.getElem?_eq_getElem h1, Option.getD_some] at hvi
        have hbb := b3 i _ _ hk hb
        have : us1[i] = ptrV bs[i] := by
          generalize us1[i] = u at hvi
          cases hvi with
          | data h => cases h
          | ptr l d off b hb' => rw [hbb] at hb'; cases hb'; rfl
        rw [this]; simp
    subst hus
    subst hval
    have e1 : (fun l d => β' (l + 1) d) = β := by funext l d; exact hbe l d
    have e2 : (fun l => σ' (l + 1)) = σ := by funext l; exact hab.2 l
    have hmem : MemR Γ.gl S'.up w2 I' X1 β σ := by
      rw [← e1, ← e2]
      refine ⟨fun l d c hc => ?_, fun l d l' d' b h1 h2 => ?_, fun l d b h1 => r2.mem.keys (l + 1) d b h1, r2.mem.im, r2.mem.glo, r2.mem.xb, r2.mem.gz⟩
      · obtain ⟨b, arr, el, h1, h2, h3, h4, h5, h6, h7⟩ := r2.mem.cell (l + 1) d c hc
        refine ⟨b, arr, el, h1, h2, h3, h4, fun j x hx => ?_, h6, h7⟩
        have := h5 j x hx
        have e : (fun l' => β' (l + 1 + l')) = fun l' d => β' (l + l' + 1) d := by funext l'; rw [show l + 1 + l' = l + l' + 1 by omega]
        rw [e] at this; exact this
      · have := r2.mem.inj (l + 1) d (l' + 1) d' b h1 h2
        exact ⟨by omega, this.2⟩
    refine ⟨_, ?_, bs, I', rfl, by omega, b2, fun i b c h1 h2 => ?_, hmem.sub fun b h => .inl h, ⟨he2.os, he2.tape, he2.output, he2.size, he2.keep, he2.imm, he2.new, he2.fix⟩⟩
    · have k4' : (fn.results.toList.mapM (resSem a'.tmps)).run Γ.P w2 = .ok [.func (.func k) #[] (bs.map ptrV).toArray] w2 := k4
      show (results fn a'.tmps).run Γ.P w2 = _
      simp only [results_eq, Array.mapM_eq_mapM_toList, Sem.run_bind, Sem.run_map, k4']; rfl
    · obtain ⟨arr, el, q1, q2, q3, q4, q5, q6⟩ := b4 i b c h1 h2
      refine ⟨⟨arr, el, q1, q2, q3, q4, q5, fun hx => q6 (.inl hx)⟩, fun l d hh => ?_⟩
      have hi := (List.getElem?_eq_some_iff.1 h1).1
      have hk : ks[i]? = some (ks[i]'(by omega)) := List.getElem?_eq_getElem (by omega)
      have := b3 i _ _ hk h1
      rw [← hbe] at hh
      have := (r2.mem.inj _ _ _ _ _ hh this).1
      omega
  refine wpIn_mono hw fun e a' w' h' => ?_
  cases e with
  | normal => exact fin a' w' h'
  | ret => exact fin a' w' h'
  | exit id => obtain ⟨S', I', X', β', σ', hk, _⟩ := h'; exact hk.elim
  | goto l => exact h'.elim
  | panic ch => exact h'.elim
  | outgrown => exact h'.elim
end
end Go.Proofs.YtfoenhiohhmnlaaGreatDoor.Ix

namespace Go.Proofs.YtfoenhiohhmnlaaGreatDoor.Ix
set_option linter.unusedVariables false
def flatFs (P : Program) (g : TypeId → Option (List LK)) : List Field → Nat → Option (List LK)
  | [], off => some []
  | f :: fs, off => match f.name == "_", f.offset == off, g f.type with
    | false, true, some s => if (P.info? f.type).map (·.size) = some s.length then (match flatFs P g fs (off + s.length) with
        | some r => some (s ++ r)
        | none => none) else none
    | _, _, _ => none
def flatN (P : Program) : Nat → TypeId → Option (List LK)
  | 0, _ => none
  | n + 1, t => match P.underlying t with
    | some (.int _) => some [.int]
    | some .bool => some [.bool]
    | some .string => some [.str]
    | some (.float _) => some [.flt]
    | some (.complex _) => some [.cpx]
    | some (.struct fs) => if P.stoodInHeld t then none else flatFs P (flatN P n) fs.toList 0
    | some (.array m e) => match flatN P n e with
      | some s => if (P.info? e).map (·.size) = some s.length then some (List.flatten (List.replicate m s)) else none
      | none => none
    | _ => none
def toVal (P : Program) (t : TypeId) (vs : List Value) : Value :=
  match aggOf P t with
  | some true => .agg vs.toArray
  | _ => vs.getD 0 undef
theorem eqVal_int {x y : Value} {b : Bool} (h : eqVal .int x y = some b) : ∃ k a c, x = .int k a ∧ y = .int k c ∧ b = (a == c) := by
  cases x <;> cases y <;> simp [eqVal] at h
  obtain ⟨rfl, rfl⟩ := h; exact ⟨_, _, _, rfl, rfl, rfl⟩
theorem eqVal_bool {x y : Value} {b : Bool} (h : eqVal .bool x y = some b) : ∃ a c, x = .bool a ∧ y = .bool c ∧ b = (a == c) := by
  cases x <;> cases y <;> simp [eqVal] at h
  exact ⟨_, _, rfl, rfl, h.symm⟩
theorem eqVal_str {x y : Value} {b : Bool} (h : eqVal .str x y = some b) : ∃ a c, x = .string a ∧ y = .string c ∧ b = (a.toList == c.toList) := by
  cases x <;> cases y <;> simp [eqVal] at h
  exact ⟨_, _, rfl, rfl, h.symm⟩
theorem eqVal_flt {x y : Value} {b : Bool} (h : eqVal .flt x y = some b) : ∃ k a c, x = .float k a ∧ y = .float k c ∧ b = (k.format.order a c == some .eq) := by
  cases x <;> cases y <;> simp [eqVal] at h
  obtain ⟨rfl, rfl⟩ := h; exact ⟨_, _, _, rfl, rfl, rfl⟩
theorem eqVal_cpx {x y : Value} {b : Bool} (h : eqVal .cpx x y = some b) : ∃ k a c a' c', x = .complex k a c ∧ y = .complex k a' c' ∧ b = ((k.format.order a a' == some .eq) && (k.format.order c c' == some .eq)) := by
  cases x <;> cases y <;> simp [eqVal] at h
  obtain ⟨rfl, rfl⟩ := h; exact ⟨_, _, _, _, _, rfl, rfl, rfl⟩
theorem eqVals_len : ∀ (ks : List LK) (a b : List Value) (r : Bool), eqVals ks a b = some r → a.length = ks.length ∧ b.length = ks.length
  | [], [], [], _, _ => ⟨rfl, rfl⟩
  | [], [], _ :: _, _, h => by simp [eqVals] at h
  | [], _ :: _, _, _, h => by simp [eqVals] at h
  | _ :: _, [], _, _, h => by simp [eqVals] at h
  | _ :: _, _ :: _, [], _, h => by simp [eqVals] at h
  | k :: ks, x :: a, y :: b, r, h => by
    simp only [eqVals] at h
    cases h2 : eqVals ks a b with
    | none => cases h1 : eqVal k x y <;> simp [h1, h2, andO] at h
    | some c => obtain ⟨g1, g2⟩ := eqVals_len ks a b c h2; exact ⟨by simp [g1], by simp [g2]⟩
theorem andO_some {x y : Option Bool} {b : Bool} (h : andO x y = some b) : ∃ a c, x = some a ∧ y = some c ∧ b = (a && c) := by
  cases x <;> cases y <;> simp [andO] at h
  exact ⟨_, _, rfl, rfl, h.symm⟩
theorem eqVals_append : ∀ (ks ks' : List LK) (vs us : List Value) (b : Bool), eqVals (ks ++ ks') vs us = some b →
    ∃ b1 b2, eqVals ks (vs.take ks.length) (us.take ks.length) = some b1 ∧ eqVals ks' (vs.drop ks.length) (us.drop ks.length) = some b2 ∧ b = (b1 && b2)
  | [], ks', vs, us, b, h => ⟨true, b, by simp [eqVals], by simpa using h, by simp⟩
  | k :: ks, ks', [], us, b, h => by simp [eqVals] at h
  | k :: ks, ks', _ :: _, [], b, h => by simp [eqVals] at h
  | k :: ks, ks', x :: vs, y :: us, b, h => by
    simp only [List.cons_append, eqVals] at h
    obtain ⟨a, c, h1, h2, rfl⟩ := andO_some h
    obtain ⟨b1, b2, g1, g2, rfl⟩ := eqVals_append ks ks' vs us c h2
    exact ⟨a && b1, b2, by simp [eqVals, h1, g1, andO], by simpa using g2, by simp [Bool.and_assoc]⟩
section
variable {P : Program}
theorem run_part {t off s : Nat} {b : Bool} (ha : aggOf P t = some b) (hs : (P.info? t).map (·.size) = some s) (h1 : b = false → s = 1) {xs : List Value} (hb : off + s ≤ xs.length) (w : World) :
    (part t xs.toArray off).run P w = .ok (toVal P t ((xs.drop off).take s)) w := by
  cases b
  · have := h1 rfl; subst this
    have hlt : off < xs.length := by omega
    simp [part, run_isAgg' ha, toVal, ha, hlt]
  · simp [part, run_isAgg' ha, toVal, ha, run_sz hs]
theorem flatN_agg : ∀ (n : Nat) (t : Nat) (s : List LK), flatN P n t = some s → ∃ b, aggOf P t = some b ∧ (b = false → s.length = 1)
  | 0, t, s, h => by simp [flatN] at h
  | n + 1, t, s, h => by
    unfold flatN at h
    unfold aggOf
    split at h
    · rename_i hu; rw [hu]; simp at h; exact ⟨false, rfl, fun _ => by simp [← h]⟩
    · rename_i hu; rw [hu]; simp at h; exact ⟨false, rfl, fun _ => by simp [← h]⟩
    · rename_i hu; rw [hu]; simp at h; exact ⟨false, rfl, fun _ => by simp [← h]⟩
    · rename_i hu; rw [hu]; simp at h; exact ⟨false, rfl, fun _ => by simp [← h]⟩
    · rename_i hu; rw [hu]; simp at h; exact ⟨false, rfl, fun _ => by simp [← h]⟩
    · rename_i fs hu; rw [hu]; exact ⟨true, rfl, nofun⟩
    · rename_i m e hu; rw [hu]; exact ⟨true, rfl, nofun⟩
    · cases h
theorem eqVals_one {k : LK} {vs us : List Value} {b : Bool} (h : eqVals [k] vs us = some b) : ∃ x y, vs = [x] ∧ us = [y] ∧ eqVal k x y = some b := by
  obtain ⟨h1, h2⟩ := eqVals_len _ _ _ _ h
  match vs, us, h1, h2 with
  | [x], [y], _, _ =>
    refine ⟨x, y, rfl, rfl, ?_⟩
    simp only [eqVals] at h
    cases hx : eqVal k x y with
    | none => simp [hx, andO] at h
    | some c => simpa [hx, andO] using h
theorem eqItems_eq {k e : Nat} {s : List LK} {vs us : List Value} (hinfo : (P.info? e).map (·.size) = some s.length) {ag : Bool} (ha : aggOf P e = some ag) (h1 : ag = false → s.length = 1)
    (ih : ∀ (vs us : List Value) (b : Bool) (w : World), eqVals s vs us = some b → (Op.equalIn k e (toVal P e vs) (toVal P e us)).run P w = .ok b w) :
    ∀ (m i : Nat) (b : Bool) (w : World), eqVals (List.flatten (List.replicate m s)) (vs.drop (i * s.length)) (us.drop (i * s.length)) = some b →
      (Op.eqItems k e (P.cellsOf e) vs.toArray us.toArray (List.range' i m)).run P w = .ok b w
  | 0, i, b, w, h => by
    simp only [List.replicate_zero, List.flatten_nil] at h
    have := eqVals_len _ _ _ _ h
    cases hv : vs.drop (i * s.length) <;> cases hu : us.drop (i * s.length) <;> rw [hv, hu] at h <;> simp [eqVals] at h
    subst h; simp [Op.eqItems]
  | m + 1, i, b, w, h => by
    rw [List.replicate_succ, List.flatten_cons] at h
    obtain ⟨b1, b2, g1, g2, rfl⟩ := eqVals_append _ _ _ _ _ h
    have hlen := eqVals_len _ _ _ _ h
    simp only [List.length_append, List.length_drop] at hlen
    have hc : P.cellsOf e = s.length := by unfold Program.cellsOf; rw [hinfo]; rfl
    have hv : i * s.length + s.length ≤ vs.length := by
      by_cases h0 : s.length = 0
      · have hag : ag = true := by cases ag; exact absurd (h1 rfl) (by omega); rfl
        rw [h0] at hlen ⊢; simp
      · omega
    have hu : i * s.length + s.length ≤ us.length := by
      by_cases h0 : s.length = 0
      · rw [h0] at hlen ⊢; simp
      · omega
    simp only [List.range'_succ, Op.eqItems, Sem.run_bind, hc, run_part ha hinfo h1 hv, run_part ha hinfo h1 hu, Result.andThen_ok, ih _ _ b1 w g1]
    cases b1
    · simp
    · have := eqItems_eq hinfo ha h1 ih m (i + 1) b2 w (by simpa [Nat.add_mul, List.drop_drop] using g2)
      rw [hc] at this
      simpa using this
theorem flatFs_eq {g : TypeId → Option (List LK)} {k : Nat} (hg : ∀ (t : Nat) (s : List LK), g t = some s → ∃ b, aggOf P t = some b ∧ (b = false → s.length = 1))
    (ih : ∀ (t : Nat) (s : List LK), g t = some s → ∀ (vs us : List Value) (b : Bool) (w : World), eqVals s vs us = some b → (Op.equalIn k t (toVal P t vs) (toVal P t us)).run P w = .ok b w) :
    ∀ (fs : List Field) (off : Nat) (s : List LK), flatFs P g fs off = some s → ∀ (vs us : List Value) (b : Bool) (w : World),
    eqVals s (vs.drop off) (us.drop off) = some b → (Op.eqFields k vs.toArray us.toArray fs).run P w = .ok b w
  | [], off, s, h, vs, us, b, w, he => by
    simp [flatFs] at h; subst h
    cases hv : vs.drop off <;> cases hu : us.drop off <;> rw [hv, hu] at he <;> simp [eqVals] at he
    subst he
    simp [Op.eqFields]
  | f :: fs, off, s, h, vs, us, b, w, he => by
    simp only [flatFs] at h
    split at h
    · rename_i s1 h1 h2 h3
      split at h
      · rename_i h4
        split at h
        · rename_i s2 h6
          simp at h; subst h
          obtain ⟨ag, ha, h5⟩ := hg f.type s1 h3
          obtain ⟨b1, b2, g1, g2, rfl⟩ := eqVals_append _ _ _ _ _ he
          have hlen := eqVals_len _ _ _ _ he
          simp only [List.length_append, List.length_drop] at hlen
          have hoff : f.offset = off := by simpa using h2
          simp only [Op.eqFields]
          have hname : f.name ≠ "_" := by simpa using h1
          rw [if_pos hname]
          by_cases h0 : s1.length = 0
          · have hag : ag = true := by cases ag; exact absurd (h5 rfl) (by omega); rfl
            subst hag
            have hz : s1 = [] := List.eq_nil_of_length_eq_zero h0
            subst hz
            simp [eqVals] at g1; subst g1
            have hp : ∀ (l : List Value), (part f.type l.toArray f.offset).run P w = .ok (.agg #[]) w := by
              intro l
              simp [part, run_isAgg' ha, run_sz h4]
            have hih := ih f.type [] h3 [] [] true w (by simp [eqVals])
            simp only [toVal, ha] at hih
            simp only [Sem.run_bind, hp, Result.andThen_ok, hih]
            have := flatFs_eq hg ih fs (off + 0) s2 h6 vs us b2 w (by simpa using g2)
            simpa using this
          · have hv : off + s1.length ≤ vs.length := by omega
            have hu : off + s1.length ≤ us.length := by omega
            simp only [Sem.run_bind, hoff, run_part ha h4 h5 hv, run_part ha h4 h5 hu, Result.andThen_ok, ih f.type s1 h3 _ _ b1 w g1]
            cases b1
            · simp
            · have := flatFs_eq hg ih fs (off + s1.length) s2 h6 vs us b2 w (by simpa [List.drop_drop] using g2)
              simpa using this
        · cases h
      · cases h
    · cases h
theorem flatN_eq : ∀ (n t : Nat) (s : List LK), flatN P n t = some s → ∀ (k : Nat) (vs us : List Value) (b : Bool) (w : World), n ≤ k → eqVals s vs us = some b →
    (Op.equalIn k t (toVal P t vs) (toVal P t us)).run P w = .ok b w
  | 0, t, s, h, _, _, _, _, _, _, _ => by simp [flatN] at h
  | n + 1, t, s, h, 0, _, _, _, _, hk, _ => by omega
  | n + 1, t, s, h, k + 1, vs, us, b, w, hk, he => by
    unfold flatN at h
    split at h
    · rename_i k' hu
      simp at h; subst h
      obtain ⟨x, y, rfl, rfl, hxy⟩ := eqVals_one he
      have ha : aggOf P t = some false := by unfold aggOf; rw [hu]
      simp only [toVal, ha, List.getD_cons_zero]
      obtain ⟨q, c, d, rfl, rfl, rfl⟩ := eqVal_int hxy
      exact run_equalIn_int w k t q k' c d hu
    · rename_i hu
      simp at h; subst h
      obtain ⟨x, y, rfl, rfl, hxy⟩ := eqVals_one he
      have ha : aggOf P t = some false := by unfold aggOf; rw [hu]
      simp only [toVal, ha, List.getD_cons_zero]
      obtain ⟨c, d, rfl, rfl, rfl⟩ := eqVal_bool hxy
      exact run_equalIn_bool' w k t c d hu
    · rename_i hu
      simp at h; subst h
      obtain ⟨x, y, rfl, rfl, hxy⟩ := eqVals_one he
      have ha : aggOf P t = some false := by unfold aggOf; rw [hu]
      simp only [toVal, ha, List.getD_cons_zero]
      obtain ⟨c, d, rfl, rfl, rfl⟩ := eqVal_str hxy
      exact run_equalIn_string w k t c d hu
    · rename_i k' hu
      simp at h; subst h
      obtain ⟨x, y, rfl, rfl, hxy⟩ := eqVals_one he
      have ha : aggOf P t = some false := by unfold aggOf; rw [hu]
      simp only [toVal, ha, List.getD_cons_zero]
      obtain ⟨q, c, d, rfl, rfl, rfl⟩ := eqVal_flt hxy
      rw [Op.equalIn]
      simp only [Sem.run_bind, run_underlying hu, Result.andThen_ok]
      simp [Op.floatEq]
    · rename_i k' hu
      simp at h; subst h
      obtain ⟨x, y, rfl, rfl, hxy⟩ := eqVals_one he
      have ha : aggOf P t = some false := by unfold aggOf; rw [hu]
      simp only [toVal, ha, List.getD_cons_zero]
      obtain ⟨q, c, d, c', d', rfl, rfl, rfl⟩ := eqVal_cpx hxy
      rw [Op.equalIn]
      simp only [Sem.run_bind, run_underlying hu, Result.andThen_ok]
      simp [Op.floatEq]
    · rename_i fs hu
      split at h
      · cases h
      · rename_i hp
        have ha : aggOf P t = some true := by unfold aggOf; rw [hu]
        have hf : P.fieldsOf t = fs := by unfold Program.fieldsOf; rw [hu]
        simp only [toVal, ha]
        rw [run_equalIn_struct w k t _ _ (by rw [hf]; exact hu) (by simpa using hp), hf]
        exact flatFs_eq (flatN_agg n) (fun t s h vs us b w he => flatN_eq n t s h k vs us b w (by omega) he) fs.toList 0 s h vs us b w (by simpa using he)
    · rename_i m e hu
      split at h
      · rename_i s1 hs1
        split at h
        · rename_i hi
          simp at h; subst h
          have ha : aggOf P t = some true := by unfold aggOf; rw [hu]
          obtain ⟨ag, hae, h1⟩ := flatN_agg n e s1 hs1
          cases hie : P.info? e with
          | none => rw [hie] at hi; cases hi
          | some inf =>
            simp only [toVal, ha]
            rw [run_equalIn_array w k _ _ hu hie, List.range_eq_range']
            exact eqItems_eq hi hae h1 (fun vs us b w h => flatN_eq n e s1 hs1 k vs us b w (by omega) h) m 0 b w (by simpa using he)
        · cases h
      · cases h
    · cases h
def litEq : Value → Value → Bool
  | .float k b, .float k' b' => decide (k = k') && b == b'
  | .complex k a b, .complex k' a' b' => decide (k = k') && a == a' && b == b'
  | .pointer none, .pointer none | .nilFunc, .nilFunc | .nilIface, .nilIface | .map none, .map none | .chan none, .chan none => true
  | _, _ => false
theorem litEq_spec {a b : Value} (h : litEq a b = true) : a = b ∧ scal a = true := by
  unfold litEq at h
  split at h <;> simp_all [scal]
def zOK : IV → Value → Bool
  | .int k n, .int k' n' => decide (k = k') && decide (n = n')
  | .bool a, .bool b => a == b
  | .str s, .string s' => s.data == s'.data
  | .nilS, .slice none 0 0 => true
  | .lit v, v' => litEq v v'
  | _, _ => false
theorem zOK_spec {x : IV} {v : Value} (h : zOK x v = true) (I : Imm) : D I x v ∧ v.oneCell' = true := by
  unfold zOK at h
  split at h
  · simp at h; obtain ⟨rfl, rfl⟩ := h; exact ⟨.int _ _, rfl⟩
  · simp at h; subst h; exact ⟨.bool _, rfl⟩
  · rename_i s s'
    have : s = s' := by
      obtain ⟨a⟩ := s; obtain ⟨b⟩ := s'
      simp at h; rw [h]
    subst this; exact ⟨.str _, rfl⟩
  · exact ⟨.nilS, rfl⟩
  · obtain ⟨rfl, hs⟩ := litEq_spec h
    exact ⟨.lit _ hs, by rename_i v v'; unfold scal at hs; split at hs <;> first | rfl | cases hs⟩
  · cases h
def zAll : List IV → List Value → Bool
  | [], [] => true
  | x :: xs, v :: vs => zOK x v && zAll xs vs
  | _, _ => false
theorem zAll_spec : ∀ {xs : List IV} {vs : List Value}, zAll xs vs = true → xs.length = vs.length ∧ (∀ (j : Nat) u, vs[j]? = some u → u.oneCell' = true) ∧
    ∀ (I : Imm) (j : Nat) x, xs[j]? = some x → D I x (vs.getD j undef)
  | [], [], _ => ⟨rfl, fun j u h => by simp at h, fun I j x h => by simp at h⟩
  | [], _ :: _, h => by simp [zAll] at h
  | _ :: _, [], h => by simp [zAll] at h
  | x :: xs, v :: vs, h => by
    simp [zAll] at h
    obtain ⟨g1, g2, g3⟩ := zAll_spec h.2
    refine ⟨by simp [g1], fun j u hu => ?_, fun I j y hy => ?_⟩
    · cases j with
      | zero => simp at hu; subst hu; exact (zOK_spec h.1 (fun _ => none)).2
      | succ j => exact g2 j u (by simpa using hu)
    · cases j with
      | zero => simp at hy; subst hy; simpa using (zOK_spec h.1 I).1
      | succ j => simpa using g3 I j y (by simpa using hy)
def fieldsOK (P : Program) : List (Nat × Nat × Bool) → List Field → Bool
  | [], [] => true
  | (off, sz, ag) :: r, f :: fs => f.offset == off && (P.info? f.type).map (·.size) == some sz && decide (0 < sz) && aggOf P f.type == some ag && (ag || sz == 1) && fieldsOK P r fs
  | _, _ => false
theorem fieldsOK_spec : ∀ {l : List (Nat × Nat × Bool)} {fs : List Field}, fieldsOK P l fs = true → fs.length = l.length ∧ ∀ (i : Nat) off sz ag, l[i]? = some (off, sz, ag) →
    ∃ f, fs[i]? = some f ∧ f.offset = off ∧ (P.info? f.type).map (·.size) = some sz ∧ 0 < sz ∧ aggOf P f.type = some ag ∧ (ag = false → sz = 1)
  | [], [], _ => ⟨rfl, fun i off sz ag h => by simp at h⟩
  | [], _ :: _, h => by simp [fieldsOK] at h
  | _ :: _, [], h => by simp [fieldsOK] at h
  | (off, sz, ag) :: r, f :: fs, h => by
    simp only [fieldsOK, Bool.and_eq_true] at h
    obtain ⟨⟨⟨⟨⟨h1, h2⟩, h3⟩, h4⟩, h5⟩, h6⟩ := h
    obtain ⟨g1, g2⟩ := fieldsOK_spec h6
    refine ⟨by simp [g1], fun i off' sz' ag' hi => ?_⟩
    cases i with
    | zero =>
      simp at hi
      obtain ⟨rfl, rfl, rfl⟩ := hi
      refine ⟨f, by simp, by simpa using h1, by simpa using h2, by simpa using h3, by simpa using h4, fun e => ?_⟩
      subst e; simpa using h5
    | succ i => simpa using g2 i off' sz' ag' (by simpa using hi)
def lkEq : List LK → List LK → Bool
  | [], [] => true
  | .int :: a, .int :: b | .bool :: a, .bool :: b | .str :: a, .str :: b | .flt :: a, .flt :: b | .cpx :: a, .cpx :: b => lkEq a b
  | _, _ => false
theorem lkEq_spec : ∀ {a b : List LK}, lkEq a b = true → a = b
  | [], [], _ => rfl
  | [], _ :: _, h => by cases h
  | k :: _, [], h => by cases k <;> cases h
  | k :: a, k' :: b, h => by
    cases k <;> cases k' <;> first | (cases h; done) | (rw [lkEq_spec (show lkEq a b = true from h)])
def eqOKb (P : Program) (t : Nat) (ks : List LK) : Bool :=
  match ks with
  | [] => true
  | _ => aggOf P t == some true && !P.eqGuardType P.depth t && (match flatN P 20 t with | some s => lkEq s ks | none => false)
theorem eqOKb_spec {t : Nat} {ks : List LK} (h : eqOKb P t ks = true) (hne : ks ≠ []) : EqOK P t ks := by
  unfold eqOKb at h
  split at h
  · exact absurd rfl hne
  · simp only [Bool.and_eq_true] at h
    obtain ⟨⟨h1, h2⟩, h3⟩ := h
    split at h3
    · rename_i s hs
      have := lkEq_spec h3; subst this
      intro op ox oy vs us b w he
      refine ⟨run_eqGuard_agg w op t ox oy vs us (by simpa using h2), ?_⟩
      have := flatN_eq 20 t s hs 10000 vs.toList us.toList b w (by omega) he
      have ha : aggOf P t = some true := by simpa using h1
      simp only [toVal, ha] at this
      exact this
    · cases h3
def kindOK (P : Program) (T : Nat → Ty) (d : TypeDesc) : TK → Bool
  | .other => true
  | .struct fs => match d with | .struct fields => fieldsOK P fs fields.toList | _ => false
  | .array n e => match d with | .array n' e' => n == n' && e == e' && (T e).size != 0 | _ => false
  | .slice e => match d with | .slice e' => e == e' && (T e).size != 0 | _ => false
  | .str => match d with | .string => true | _ => false
  | .map k e => match d with
    | .map k' e' => k == k' && e == e' && (match P.info? e with
      | some i => (match i.zero with
        | some (.bool false) => true
        | _ => false)
      | none => false)
    | _ => false
  | .mapv k e => match d with
    | .map k' e' => k == k' && e == e' && (match P.info? e with
      | some i => (match i.zero with
        | some (.agg _) => true
        | _ => false)
      | none => false)
    | _ => false
  | .iface => match d with | .interface _ => true | _ => false
def isInt (d : TypeDesc) (z : List IV) : Bool := match z with
  | [.int k _] => (match d with | .int k' => decide (k = k') | _ => false)
  | [.bool _] => (match d with | .bool => true | _ => false)
  | [.lit (.float k _)] => (match d with | .float k' => decide (k = k') | _ => false)
  | [.lit (.complex k _ _)] => (match d with | .complex k' => decide (k = k') | _ => false)
  | _ => true
def tokB (P : Program) (T : Nat → Ty) (t : Nat) : Bool :=
  match P.info? t, P.underlying t with
  | some inf, some d => match inf.zero with
    | some z => inf.size == (T t).size && decide (0 < (T t).size) && decide (inf.bytes ≤ 131072) && aggOf P t == some (T t).agg && z.cells.size == (T t).size &&
        zAll (T t).zero z.cells.toList && kindOK P T d (T t).k && ((T t).agg || (T t).size == 1) && eqOKb P t (T t).eq && (match (T t).k with | .other => isInt d (T t).zero | _ => true)
    | none => false
  | _, _ => false
theorem tokB_spec {T : Nat → Ty} {t : Nat} (h : tokB P T t = true) : ∃ inf d z, TOK1 P T t inf d z := by
  unfold tokB at h
  split at h
  · rename_i inf d hi hd
    split at h
    · rename_i z hz
      simp only [Bool.and_eq_true] at h
      obtain ⟨⟨⟨⟨⟨⟨⟨⟨⟨h1, h2⟩, h3⟩, h4⟩, h5⟩, h6⟩, h7⟩, h8⟩, h9⟩, h10⟩ := h
      obtain ⟨g1, g2, g3⟩ := zAll_spec h6
      refine ⟨inf, d, z, hi, hd, by simpa using h1, by simpa using h2, by simpa using h3, by simpa using h4, hz, by simpa using h5, ?_, fun j u hu => g2 j u (by simpa using hu), fun I j x hx => ?_, ?_, fun e => ?_, fun hne => eqOKb_spec h9 hne, fun hk b hb => ?_, fun hk k m hb => ?_, fun hk k b hb => ?_, fun hk k a b hb => ?_⟩
      · rw [g1]; simpa using h5
      · have := g3 I j x hx
        simpa [Array.getD_eq_getD_getElem?] using this
      · unfold kindOK at h7
        split at h7
        · rename_i hk; rw [hk]; trivial
        · rename_i fs hk
          rw [hk]
          split at h7
          · rename_i fields
            obtain ⟨e1, e2⟩ := fieldsOK_spec h7
            exact ⟨fields, rfl, by simpa using e1, fun i off sz ag hx => by
              obtain ⟨f, f1, f2⟩ := e2 i off sz ag hx
              exact ⟨f, by simpa using f1, f2⟩⟩
          · cases h7
        · rename_i n e hk
          rw [hk]
          split at h7
          · simp only [Bool.and_eq_true] at h7
            obtain ⟨⟨a1, a2⟩, a3⟩ := h7
            simp at a1 a2 a3; subst a1 a2
            exact ⟨rfl, a3⟩
          · cases h7
        · rename_i e hk
          rw [hk]
          split at h7
          · simp only [Bool.and_eq_true] at h7
            obtain ⟨a2, a3⟩ := h7
            simp at a2 a3; subst a2
            exact ⟨rfl, a3⟩
          · cases h7
        · rename_i hk
          rw [hk]
          split at h7
          · rfl
          · cases h7
        · rename_i k e hk
          rw [hk]
          split at h7
          · simp only [Bool.and_eq_true] at h7
            obtain ⟨⟨a2, a3⟩, a4⟩ := h7
            simp at a2 a3; subst a2 a3
            split at a4
            · rename_i i hi
              split at a4
              · rename_i hz0
                exact ⟨rfl, i, hi, hz0⟩
              · cases a4
            · cases a4
          · cases h7
        · rename_i k e hk
          rw [hk]
          split at h7
          · simp only [Bool.and_eq_true] at h7
            obtain ⟨⟨a2, a3⟩, a4⟩ := h7
            simp at a2 a3; subst a2 a3
            split at a4
            · rename_i i hi
              split at a4
              · rename_i vs hz0
                exact ⟨rfl, i, vs, hi, hz0⟩
              · cases a4
            · cases a4
          · cases h7
        · rename_i hk
          rw [hk]
          split at h7
          · exact ⟨_, rfl⟩
          · cases h7
      · rw [e] at h8; simpa using h8
      · rw [hk] at h10
        simp only [hb, isInt] at h10
        split at h10 <;> first | rfl | cases h10
      · rw [hk] at h10
        simp only [hb, isInt] at h10
        split at h10
        · simp at h10; rw [h10]
        · cases h10
      · rw [hk] at h10
        simp only [hb, isInt] at h10
        split at h10
        · simp at h10; rw [h10]
        · cases h10
      · rw [hk] at h10
        simp only [hb, isInt] at h10
        split at h10
        · simp at h10; rw [h10]
        · cases h10
    · cases h
  · cases h
def tyNone : Ty → Bool
  | ⟨0, 0, false, [], [], .other⟩ => true
  | _ => false
theorem tyNone_spec {x : Ty} (h : tyNone x = true) : x = Ty.none := by
  unfold tyNone at h
  split at h
  · rfl
  · cases h
theorem tok_of {T : Nat → Ty} (n : Nat) (h : (List.range n).all (fun t => tokB P T t || tyNone (T t)) = true) (hT : ∀ t, Nat.blt t n = false → T t = Ty.none) : TOK P T := by
  intro t
  cases hb : Nat.blt t n with
  | false => exact .inl (hT t hb)
  | true =>
    rw [List.all_eq_true] at h
    have := h t (by simpa using blt_lt hb)
    simp only [Bool.or_eq_true] at this
    rcases this with h | h
    · exact .inr (tokB_spec h)
    · exact .inl (tyNone_spec h)
end
end Go.Proofs.YtfoenhiohhmnlaaGreatDoor.Ix

namespace Go.Proofs.YtfoenhiohhmnlaaGreatDoor.Ix
set_option linter.unusedVariables false
set_option linter.unusedSimpArgs false
section
variable {C : Con} {Γ : Env} {S : St} {a : Act} {w : World} {I : Imm} {X : Nat → Prop} {β : Beta} {σ : Nat → Sig} {K : St → Prop}
mutual
theorem noOwn_idem : ∀ (x : IV), noOwn (noOwn x) = noOwn x
  | .agg xs => by simp only [noOwn, noOwnL_idem xs]
  | .tup xs => by simp only [noOwn, noOwnL_idem xs]
  | .mp _ xs => by simp only [noOwn, noOwnL_idem xs]
  | .fn f a c => by simp only [noOwn, noOwnL_idem a, noOwnL_idem c]
  | .lst _ _ _ _ | .int _ _ | .bool _ | .str _ | .lit _ | .nilS | .ptr _ _ _ | .vptr _ _ _ _ _ | .raw _ _ _ | .row _ _ _ _ _ | .ifc | .dead => rfl
theorem noOwnL_idem : ∀ (l : List IV), noOwnL (noOwnL l) = noOwnL l
  | [] => rfl
  | x :: r => by simp only [noOwnL, noOwn_idem x, noOwnL_idem r]
end
theorem putT_len {d : Option Nat} {v : IV} {n : Nat} (hn : S.up.length = n) (h : putT Γ S d v K) : putT Γ S d v fun S' => K S' ∧ S'.up.length = n := by
  obtain ⟨tm, ce, up⟩ := S
  cases d with
  | none => exact ⟨h, hn⟩
  | some t =>
    simp only [putT] at h ⊢
    split
    · rename_i hb; rw [hb] at h; exact ⟨h, hn⟩
    · rename_i hb; rw [hb] at h; exact h.elim
theorem putT_mono {d : Option Nat} {v : IV} {n : Nat} {K K' : St → Prop} (hn : S.up.length = n) (hk : ∀ S', S'.up.length = n → K S' → K' S') (h : putT Γ S d v K) : putT Γ S d v K' := by
  obtain ⟨tm, ce, up⟩ := S
  cases d with
  | none => exact hk _ hn h
  | some t =>
    simp only [putT] at h ⊢
    split
    · rename_i hb; rw [hb] at h; exact hk _ hn h
    · rename_i hb; rw [hb] at h; exact h.elim
theorem newC_mono {d : Nat} {c : List IV} {n : Nat} {K K' : St → Prop} (hn : S.up.length = n) (hk : ∀ S', S'.up.length = n → K S' → K' S') (h : newC Γ S d c K) : newC Γ S d c K' := by
  have h0 : ∀ {S : St} {c : List IV}, S.up.length = n → newC0 Γ S d c K → newC0 Γ S d c K' := fun {S} {c} hn h => by
    obtain ⟨tm, ce, up⟩ := S
    simp only [newC0] at h ⊢
    split at h
    · exact h.elim
    · split at h
      · exact hk _ hn h
      · exact h.elim
  obtain ⟨tm, ce, up⟩ := S
  simp only [newC] at h ⊢
  split at h
  · rename_i hq
    (try simp only [hq])
    rw [fps_eq, fcs_eq] at h ⊢
    exact h0 (S := ⟨killT d tm, killC d ce, up⟩) hn h
  · rename_i hq
    (try simp only [hq])
    exact h0 (S := ⟨tm, ce, up⟩) hn h
theorem rowI_mono {d e m : Nat} {c : List IV} {n : Nat} {K K' : St → Prop} (hn : S.up.length = n) (hk : ∀ S', S'.up.length = n → K S' → K' S') (h : rowI Γ S d e m c K) : rowI Γ S d e m c K' :=
  newC_mono (K := fun S => ∀ b, putT Γ S (some d) (.row d e m m b) K) (K' := fun S => ∀ b, putT Γ S (some d) (.row d e m m b) K') hn (fun S' hs hh b => putT_mono hs hk (hh b)) h
theorem newC0_len {d : Nat} {c : List IV} {n : Nat} (hn : S.up.length = n) (h : newC0 Γ S d c K) : newC0 Γ S d c fun S' => K S' ∧ S'.up.length = n := by
  obtain ⟨tm, ce, up⟩ := S
  simp only [newC0] at h ⊢
  split at h
  · exact h.elim
  · split at h
    · exact ⟨h, hn⟩
    · exact h.elim
theorem newC_len {d : Nat} {c : List IV} {n : Nat} (hn : S.up.length = n) (h : newC Γ S d c K) : newC Γ S d c fun S' => K S' ∧ S'.up.length = n := by
  obtain ⟨tm, ce, up⟩ := S
  simp only [newC] at h ⊢
  split at h
  · rename_i hk
    (try simp only [hk])
    rw [fps_eq, fcs_eq] at h ⊢
    exact newC0_len (S := ⟨killT d tm, killC d ce, up⟩) hn h
  · rename_i hk
    (try simp only [hk])
    exact newC0_len (S := ⟨tm, ce, up⟩) hn h
theorem untag_len {t n : Nat} {K K' : St → Prop} (hn : S.up.length = n) (hk : ∀ S', S'.up.length = n → K S' → K' S') (h : untag t S K) : untag t S K' := by
  obtain ⟨tm, ce, up⟩ := S
  simp only [untag] at h ⊢
  split at h
  · exact hk _ hn h
  · exact hk _ hn h
theorem untagO_len {d : Option Nat} {n : Nat} {K K' : St → Prop} (hn : S.up.length = n) (hk : ∀ S', S'.up.length = n → K S' → K' S') (h : untagO d S K) : untagO d S K' := by
  cases d with
  | none => exact hk _ hn h
  | some t => exact untag_len hn hk h
theorem putUp_len : ∀ (l : Nat) (up : List Ces) (d : Nat) (c : List IV), (putUp up l d c).length = up.length
  | _, [], _, _ => rfl
  | 0, _ :: _, _, _ => rfl
  | l + 1, c :: r, d, x => by simp [putUp, putUp_len l r d x]
theorem cellsK_mono {v : IV} {n : Nat} {K K' : List IV → Prop} (hk : ∀ c, K c → K' c) (h : cellsK v n K) : cellsK v n K' := by
  unfold cellsK at h ⊢
  split at h
  · split at h
    · exact hk _ h
    · exact h.elim
  · exact h.elim
theorem storeI_len {m n : Nat} {p v : IV} (hn : S.up.length = n) (h : storeI S m p v K) : storeI S m p v fun S' => K S' ∧ S'.up.length = n := by
  obtain ⟨tm, ce, up⟩ := S
  cases p with
  | ptr l d off =>
    cases l with
    | zero =>
      simp only [storeI] at h ⊢
      split at h
      · refine cellsK_mono (fun c hc => ?_) h
        split at hc
        · exact ⟨hc, hn⟩
        · exact hc.elim
      · exact h.elim
    | succ l =>
      simp only [storeI] at h ⊢
      split at h
      · refine cellsK_mono (fun c hc => ?_) h
        split at hc
        · exact ⟨hc, by simpa [putUp_len] using hn⟩
        · exact hc.elim
      · exact h.elim
  | _ => simp [storeI] at h
theorem appendI_len {d e n : Nat} {s x : IV} (hn : S.up.length = n) (h : appendI Γ S d e s x K) : appendI Γ S d e s x fun S' => K S' ∧ S'.up.length = n := by
  unfold appendI at h ⊢
  split at h
  · split at h
    · exact putT_len hn h
    · exact putT_len hn h
    · exact h.elim
  · split at h
    · exact h.elim
    · rename_i hb
      (try simp only [hb])
      split at h
      · rw [chk_iff] at h ⊢
        exact ⟨h.1, untag_len hn (fun S' hs => putT_len hs) h.2⟩
      · split at h
        · exact h.elim
        · rename_i hb2
          (try simp only [hb2])
          rw [chk_iff] at h ⊢
          exact ⟨h.1, untag_len hn (fun S' hs => untag_len hs fun S2 hs2 => putT_len hs2) h.2⟩
      · exact h.elim
  · exact h.elim
theorem copyI_len {o : Option Nat} {t e m n : Nat} {x : IV} (hn : S.up.length = n) (h : copyI Γ S o t e m x K) : copyI Γ S o t e m x fun S' => K S' ∧ S'.up.length = n := by
  obtain ⟨tm, ce, up⟩ := S
  unfold copyI at h ⊢
  split at h
  case h_2 => exact h.elim
  rename_i tm' ce' up' o2 e2 m2 g heq
  cases heq
  split at h
  case h_2 => exact h.elim
  rename_i he2
  (try simp only [he2])
  obtain ⟨h1, h2⟩ := chk_spec h
  rw [h1]
  simp only [chk]
  split at h2
  · rename_i hal
    (try simp only [hal])
    rw [fps_eq, fcs_eq] at h2 ⊢
    exact putT_len (S := ⟨settleT t (.lst (some t) e m g) tm, settleC t (.lst (some t) e m g) ce, up⟩) hn h2
  · rename_i hal
    (try simp only [hal])
    intro b
    have h2 := h2 b
    rw [fps_eq, fcs_eq] at h2 ⊢
    exact putT_len (S := ⟨settleT t (.row t e m m b) tm, (t, flatR e m g) :: settleC t (.row t e m m b) ce, up⟩) hn h2
theorem makeI_len {d e n : Nat} {z : List IV} {len : Operand} {l c : IV} (hn : S.up.length = n) (h : makeI Γ S d e z len l c K) : makeI Γ S d e z len l c fun S' => K S' ∧ S'.up.length = n := by
  unfold makeI at h ⊢
  split at h
  · obtain ⟨h1, h⟩ := chk_spec h
    obtain ⟨h2, h⟩ := chk_spec h
    rw [h1, h2]
    simp only [chk]
    split at h
    · exact untag_len hn (fun S' hs => putT_len hs) h
    · obtain ⟨h3, h⟩ := chk_spec h
      (try rw [h3])
      (try simp only [chk])
      split at h
      · rename_i hrw
        (try simp only [hrw])
        exact rowI_mono hn (fun S' hs hh => ⟨hh, hs⟩) h
      rename_i hrw
      (try simp only [hrw])
      exact untag_len hn (fun S' hs => putT_len hs) h
  · exact h.elim
theorem iop_len {n : Nat} (hC : ∀ g up args r up', C g up args r up' → up'.length = up.length) (hn : S.up.length = n) (o : Oper) (hy : (∀ c x v, o.op = .call c → c.callee = .value x → evo Γ S x = .lit v → False) ∨ Γ.yld = none)
    (h : iop C Γ S o K) : iop C Γ S o fun S' => K S' ∧ S'.up.length = n := by
  obtain ⟨dst, op, type, pos, after, guard⟩ := o
  have pure : ival Γ S ⟨dst, op, type, pos, after, guard⟩ (fun v => putT Γ S dst v K) → ival Γ S ⟨dst, op, type, pos, after, guard⟩ fun v => putT Γ S dst v fun S' => K S' ∧ S'.up.length = n := fun h => by
    obtain ⟨v, h1, h2⟩ := ival_wit h
    exact h2 _ (putT_len hn h1)
  cases op with
  | alloc t =>
    simp only [iop] at h ⊢
    split at h
    · unfold tyK at h ⊢
      split at h
      · rw [fvL_eq] at h ⊢; exact newC_len hn h
      · exact h.elim
    · exact h.elim
  | box t x =>
    simp only [iop, ev_eq] at h ⊢
    split at h
    · split at h
      · rename_i hc; (try simp only [hc]); exact newC_len hn h
      · exact h.elim
    · exact h.elim
  | buildSlice t len parts =>
    simp only [iop] at h ⊢
    split at h
    · rename_i e d hk
      (try simp only [hk])
      split at h
      · rename_i h1 h2
        (try simp only [h1, h2])
        obtain ⟨xs, h3, h4⟩ := buildI_wit _ _ h
        refine h4 _ ?_
        split at h3
        · rename_i hnp
          (try simp only [hnp])
          split at h3
          · exact putT_len hn h3
          · split at h3
            · rename_i hrw
              (try simp only [hrw])
              rw [fvL_eq] at h3 ⊢
              exact rowI_mono hn (fun S' hs hh => ⟨hh, hs⟩) h3
            rename_i hrw
            (try simp only [hrw])
            rw [fvL_eq] at h3 ⊢
            exact untag_len hn (fun S' hs => putT_len hs) h3
        · exact h3.elim
      · exact h.elim
    · exact h.elim
  | store t x y =>
    simp only [iop, ev_eq] at h ⊢
    split at h
    · unfold tyK at h ⊢
      split at h
      · exact storeI_len hn h
      · exact h.elim
    · exact h.elim
  | call c =>
    simp only [iop] at h ⊢
    unfold calls at h ⊢
    split at h
    · rename_i f hf
      split at h
      · rename_i g first captured hx
        (try simp only [hf])
        (try simp only [hx])
        rw [fvL_eq] at h ⊢
        cases h with
        | mk aa r r' ce up h0 h1 h2 h3 =>
          have hl : up.length = n := by have := hC _ _ _ _ _ h1; simp at this; omega
          exact .mk aa r r' ce up h0 h1 h2 (untagO_len (S := ⟨S.tm, ce, up⟩) hl (fun S' hs hk => by rw [fv_eq] at hk ⊢; exact putT_len hs hk) h3)
        | cut ks aa r r' ce up h0 h1 h2 h3 =>
          have hl : up.length = n := by have := hC _ _ _ _ _ h1; simp at this; omega
          rw [fpsK_eq] at h3
          exact .cut ks aa r r' ce up h0 h1 h2 (by rw [fpsK_eq]; exact untagO_len (S := ⟨keepT ks S.tm, ce, up⟩) hl (fun S' hs hk => by rw [fv_eq] at hk ⊢; exact putT_len hs hk) h3)
        | own ks args' k cs hle hh hl hf' hk => exact .own ks args' k cs hle hh hl hf' (untagO_len (S := ⟨S.tm, addC ks cs S.ce, S.up⟩) hn (fun S' hs hk => by rw [fv_eq] at hk ⊢; exact putT_len hs hk) hk)
        | lend dd c0 c' rest hle hr hc0 hn1 hn2 hh ht hk => exact .lend dd c0 c' rest hle hr hc0 hn1 hn2 hh ht (untagO_len (S := ⟨S.tm, putC S.ce dd c', S.up⟩) hn (fun S' hs hk => by rw [fv_eq] at hk ⊢; exact putT_len hs hk) hk)
        | thaw ks dd hd xs e n' z f hle hxs hi hpos hh hn' hk =>
          refine .thaw ks dd hd xs e n' z f hle hxs hi hpos hh hn' (fun m cc bb => ?_)
          have h3 : untagO dst ⟨keepT ks S.tm, (dd, flatR e n' f ++ List.replicate m .dead) :: S.ce, S.up⟩ (fun S' => fv (.agg (xs ++ [.row dd e n' cc bb])) fun r => putT Γ S' dst r K) := by
            have := hk m cc bb
            rw [fpsK_eq] at this
            exact this
          rw [fpsK_eq]
          exact untagO_len hn (fun S' hs hk => by rw [fv_eq] at hk ⊢; exact putT_len hs hk) h3
      · rename_i v hx
        rcases hy with hy | hy
        · exact (hy c f v rfl hf hx).elim
        · rw [hy] at h; exact h.elim
      · exact h.elim
    · rename_i b hb
      (try simp only [hb])
      rw [fvL_eq] at h ⊢
      split at h
      · split at h
        · rename_i ht
          (try simp only [ht])
          split at h
          · rename_i hk; (try simp only [hk]); exact putT_len hn h
          · rename_i hk; (try simp only [hk]); exact putT_len hn h
          · rename_i hk; (try simp only [hk]); exact putT_len hn h
          · rename_i hk; (try simp only [hk]); exact putT_len hn h
          · exact h.elim
        · exact h.elim
      · obtain ⟨v, h1, h2⟩ := minL_wit _ _ (K := fun v => putT Γ S dst v K) h
        exact h2 _ (putT_len hn h1)
      · obtain ⟨v, h1, h2⟩ := maxL_wit _ _ (K := fun v => putT Γ S dst v K) h
        exact h2 _ (putT_len hn h1)
      · exact putT_len hn h
      · exact putT_len hn h
      · split at h
        · rename_i hk; (try simp only [hk]); exact putT_len hn h
        · exact h.elim
      · split at h
        · rename_i ht
          (try simp only [ht])
          split at h
          · rename_i hk
            (try simp only [hk])
            split at h
            · rename_i he; (try simp only [he]); exact copyI_len hn h
            · exact h.elim
          · exact h.elim
        · exact h.elim
      · split at h
        · rename_i hd ht
          (try simp only at hd); subst hd
          (try simp only [ht])
          split at h
          · rename_i h1 h2; (try simp only [h1, h2]); exact appendI_len hn h
          · exact h.elim
        · exact h.elim
      · exact h.elim
    · exact h.elim
  | makeSlice t len cap =>
    simp only [iop] at h ⊢
    split at h
    · rename_i e d hk
      (try simp only [hk])
      split at h
      · rename_i hp
        (try simp only [hp])
        exact makeI_len hn h
      · exact h.elim
    · exact h.elim
  | slice t x lo hi mx =>
    simp only [iop] at h ⊢
    split at h
    · rename_i m e hk
      (try simp only [hk])
      split at h
      · rename_i hx0
        (try simp only [hx0])
        exact pure h
      rename_i hnv
      obtain ⟨tm, ce, up⟩ := S
      unfold sliceA at h ⊢
      split at h
      case h_2 => exact h.elim
      rename_i tm' ce' up' c off heq hx
      cases heq
      (try simp only [hx])
      split at h
      case h_2 => exact h.elim
      rename_i xs hxs
      (try simp only [hxs])
      split at h
      case h_2 => exact h.elim
      rename_i hok
      (try simp only [hok])
      rw [fvL_eq, fps_eq, fcs_eq] at h ⊢
      exact putT_len (S := ⟨stT c (noOwnL xs) tm, stC c (noOwnL xs) ce, up⟩) hn h
    · exact pure h
  | binOp op t x y t' =>
    simp only [iop] at h ⊢
    split at h
    · rename_i k hf; (try simp only [hf]); exact fun n => putT_len hn (h n)
    · rename_i k n hf; (try simp only [hf]); rw [frcN_eq] at h ⊢; exact putT_len hn h
    · rename_i hf; (try simp only [hf]); exact pure h
  | _ => exact pure h
theorem untagL_len {n : Nat} {K K' : St → Prop} (hk : ∀ S', S'.up.length = n → K S' → K' S') : ∀ (ds : List Nat) {S : St}, S.up.length = n → untagL ds K S → untagL ds K' S
  | [], _, hn, h => hk _ hn h
  | d :: ds, _, hn, h => untag_len (K := untagL ds K) (K' := untagL ds K') hn (fun S' hs hh => untagL_len hk ds hs hh) h
theorem insK_mono {d : Nat} {K K' : List (ByteArray × Bool) → Prop} : ∀ {l : List Oper}, (∀ x, K x → K' x) → insK Γ S d l K → insK Γ S d l K'
  | [], hk, h => hk _ h
  | o :: r, hk, h => by
    unfold insK at h ⊢
    split at h
    · split at h
      · split at h
        · exact insK_mono (l := r) (fun x hx => hk _ hx) h
        · exact h.elim
      · exact insK_mono (l := r) hk h
    · exact insK_mono (l := r) hk h
theorem mapK_mono {t : Nat} {p q : Prop} (hk : p → q) (h : mapK Γ t p) : mapK Γ t q := by
  unfold mapK at h ⊢
  split at h
  · split at h
    · exact hk h
    · exact h.elim
  · exact h.elim
theorem tyK_mono {t : Nat} {p q : Prop} (hk : p → q) (h : tyK Γ t p) : tyK Γ t q := by
  unfold tyK at h ⊢
  split at h
  · exact hk h
  · exact h.elim
theorem pstep_len {all : List Oper} {cr : List Nat} {n : Nat} {K K' : St → Prop} (hn : S.up.length = n) (hk : ∀ S', S'.up.length = n → K S' → K' S') (o : Oper) (h : pstep C Γ all cr S o K) : pstep C Γ all cr S o K' := by
  obtain ⟨dst, op, type, pos, after, guard⟩ := o
  have pv : (pval C Γ S ⟨dst, op, type, pos, after, guard⟩ fun v => match tagOK cr S ⟨dst, op, type, pos, after, guard⟩ v with | true => putT Γ S dst v K | false => False) →
      pval C Γ S ⟨dst, op, type, pos, after, guard⟩ fun v => match tagOK cr S ⟨dst, op, type, pos, after, guard⟩ v with | true => putT Γ S dst v K' | false => False := fun h => by
    obtain ⟨v, h1, h2⟩ := pval_wit h
    refine h2 _ ?_
    split at h1
    · rename_i hq; (try simp only [hq]); exact putT_mono hn hk h1
    · exact h1.elim
  cases op with
  | makeMap t r => exact putT_mono hn hk h
  | insert t m k x =>
    refine mapK_mono (fun h => ?_) h
    split at h
    · exact hk _ hn h
    · exact h.elim
  | lookup t m x ok =>
    unfold pstep at h ⊢
    cases m with
    | tmp d =>
      simp only at h ⊢
      split at h
      · rename_i hmd
        (try simp only [hmd])
        refine mapK_mono (fun h => ?_) h
        split at h
        · exact insK_mono (fun l hl => putT_mono hn hk hl) h
        · exact h.elim
      · rename_i hmd
        (try simp only [hmd])
        exact pv h
    | _ => exact pv h
  | alloc t => exact tyK_mono (fun h => putT_mono hn hk h) h
  | box t x =>
    simp only [pstep, ev_eq] at h ⊢
    split at h
    · exact putT_mono hn hk h
    · exact h.elim
  | store t x y =>
    simp only [pstep, ev_eq] at h ⊢
    refine tyK_mono (fun h => ?_) h
    exact cellsK_mono (fun c hc => hk _ hn hc) h
  | _ => exact pv h
theorem pres_len {all : List Oper} {cr : List Nat} {n : Nat} {K K' : St → Prop} (hk : ∀ S', S'.up.length = n → K S' → K' S') : ∀ (l : List Oper) {S : St}, S.up.length = n → pres C Γ all cr l K S → pres C Γ all cr l K' S
  | [], S, hn, h => hk _ hn h
  | o :: r, S, hn, h => by
    have ih : ∀ S', S'.up.length = n → pres C Γ all cr r K S' → pres C Γ all cr r K' S' := fun S' hs hh => pres_len hk r hs hh
    unfold pres at h ⊢
    split at h
    · exact pstep_len hn ih o h
    · split at h
      · exact h.elim
      · split at h
        · rename_i b hb
          have brkm : ∀ {b : Bool} {k k' : Bool → Prop}, (∀ b, k b → k' b) → brk b k → brk b k' := fun {b} {k} {k'} hkk hh => by cases b <;> exact hkk _ hh
          refine brkm (fun b h => ?_) h
          refine putT_mono hn (fun S' hs h => ?_) h
          split at h
          · exact pstep_len hs ih o h
          · exact pstep_len hs ih o h
          · rename_i h1 h2
            exact putT_mono hs ih h
        · exact putT_mono hn ih h
        · exact h.elim
theorem content_mono {t : Nat} {x : Option Operand} {K K' : List IV → Prop} (hk : ∀ c, K c → K' c) (h : content Γ S t x K) : content Γ S t x K' := by
  unfold content at h ⊢
  split at h
  · refine tyK_mono (fun h => ?_) h
    rw [fvL_eq] at h ⊢; exact hk _ h
  · rw [ev_eq] at h ⊢
    split at h
    · exact hk _ h
    · exact h.elim
theorem adopt_len {front : List Oper} {n : Nat} {K K' : St → Prop} (hk : ∀ S', S'.up.length = n → K S' → K' S') : ∀ (l : List Oper) {S : St}, S.up.length = n → adopt Γ front l K S → adopt Γ front l K' S
  | [], S, hn, h => hk _ hn h
  | o :: r, S, hn, h => by
    have ih : ∀ S', S'.up.length = n → adopt Γ front r K S' → adopt Γ front r K' S' := fun S' hs hh => adopt_len hk r hs hh
    unfold adopt at h ⊢
    split at h
    · exact content_mono (fun c hc => newC_mono hn ih hc) h
    · exact content_mono (fun c hc => newC_mono hn ih hc) h
    · exact ih _ hn h
theorem storeI_mono {m n : Nat} {p v : IV} {K' : St → Prop} (hn : S.up.length = n) (hk' : ∀ S', S'.up.length = n → K S' → K' S') (h : storeI S m p v K) : storeI S m p v K' := by
  obtain ⟨tm, ce, up⟩ := S
  cases p with
  | ptr l d off =>
    cases l with
    | zero =>
      simp only [storeI] at h ⊢
      split at h
      · refine cellsK_mono (fun c hc => ?_) h
        split at hc
        · exact hk' _ hn hc
        · exact hc.elim
      · exact h.elim
    | succ l =>
      simp only [storeI] at h ⊢
      split at h
      · refine cellsK_mono (fun c hc => ?_) h
        split at hc
        · exact hk' _ (by simpa [putUp_len] using hn) hc
        · exact hc.elim
      · exact h.elim
  | _ => simp [storeI] at h
theorem appendI_mono {d e n : Nat} {s x : IV} {K' : St → Prop} (hn : S.up.length = n) (hk' : ∀ S', S'.up.length = n → K S' → K' S') (h : appendI Γ S d e s x K) : appendI Γ S d e s x K' := by
  unfold appendI at h ⊢
  split at h
  · split at h
    · exact putT_mono hn hk' h
    · exact putT_mono hn hk' h
    · exact h.elim
  · split at h
    · exact h.elim
    · rename_i hb
      (try simp only [hb])
      split at h
      · rw [chk_iff] at h ⊢
        exact ⟨h.1, untag_len hn (fun S' hs => putT_mono hs hk') h.2⟩
      · split at h
        · exact h.elim
        · rename_i hb2
          (try simp only [hb2])
          rw [chk_iff] at h ⊢
          exact ⟨h.1, untag_len hn (fun S' hs => untag_len hs fun S2 hs2 => putT_mono hs2 hk') h.2⟩
      · exact h.elim
  · exact h.elim
theorem copyI_mono {o : Option Nat} {t e m n : Nat} {x : IV} {K' : St → Prop} (hn : S.up.length = n) (hk' : ∀ S', S'.up.length = n → K S' → K' S') (h : copyI Γ S o t e m x K) : copyI Γ S o t e m x K' := by
  obtain ⟨tm, ce, up⟩ := S
  unfold copyI at h ⊢
  split at h
  case h_2 => exact h.elim
  rename_i tm' ce' up' o2 e2 m2 g heq
  cases heq
  split at h
  case h_2 => exact h.elim
  rename_i he2
  (try simp only [he2])
  obtain ⟨h1, h2⟩ := chk_spec h
  rw [h1]
  simp only [chk]
  split at h2
  · rename_i hal
    (try simp only [hal])
    rw [fps_eq, fcs_eq] at h2 ⊢
    exact putT_mono (S := ⟨settleT t (.lst (some t) e m g) tm, settleC t (.lst (some t) e m g) ce, up⟩) hn hk' h2
  · rename_i hal
    (try simp only [hal])
    intro b
    have h2 := h2 b
    rw [fps_eq, fcs_eq] at h2 ⊢
    exact putT_mono (S := ⟨settleT t (.row t e m m b) tm, (t, flatR e m g) :: settleC t (.row t e m m b) ce, up⟩) hn hk' h2
theorem makeI_mono {d e n : Nat} {z : List IV} {len : Operand} {l c : IV} {K' : St → Prop} (hn : S.up.length = n) (hk' : ∀ S', S'.up.length = n → K S' → K' S') (h : makeI Γ S d e z len l c K) : makeI Γ S d e z len l c K' := by
  unfold makeI at h ⊢
  split at h
  · obtain ⟨h1, h⟩ := chk_spec h
    obtain ⟨h2, h⟩ := chk_spec h
    rw [h1, h2]
    simp only [chk]
    split at h
    · exact untag_len hn (fun S' hs => putT_mono hs hk') h
    · obtain ⟨h3, h⟩ := chk_spec h
      (try rw [h3])
      (try simp only [chk])
      split at h
      · rename_i hrw
        (try simp only [hrw])
        exact rowI_mono hn hk' h
      rename_i hrw
      (try simp only [hrw])
      exact untag_len hn (fun S' hs => putT_mono hs hk') h
  · exact h.elim
theorem iop_mono {n : Nat} (hC : ∀ g up args r up', C g up args r up' → up'.length = up.length) {K' : St → Prop} (hn : S.up.length = n) (hk' : ∀ S', S'.up.length = n → K S' → K' S') (o : Oper) (hy : (∀ c x v, o.op = .call c → c.callee = .value x → evo Γ S x = .lit v → False) ∨ Γ.yld = none)
    (h : iop C Γ S o K) : iop C Γ S o K' := by
  obtain ⟨dst, op, type, pos, after, guard⟩ := o
  have pure : ival Γ S ⟨dst, op, type, pos, after, guard⟩ (fun v => putT Γ S dst v K) → ival Γ S ⟨dst, op, type, pos, after, guard⟩ fun v => putT Γ S dst v K' := fun h => by
    obtain ⟨v, h1, h2⟩ := ival_wit h
    exact h2 _ (putT_mono hn hk' h1)
  cases op with
  | alloc t =>
    simp only [iop] at h ⊢
    split at h
    · unfold tyK at h ⊢
      split at h
      · rw [fvL_eq] at h ⊢; exact newC_mono hn hk' h
      · exact h.elim
    · exact h.elim
  | box t x =>
    simp only [iop, ev_eq] at h ⊢
    split at h
    · split at h
      · rename_i hc; (try simp only [hc]); exact newC_mono hn hk' h
      · exact h.elim
    · exact h.elim
  | buildSlice t len parts =>
    simp only [iop] at h ⊢
    split at h
    · rename_i e d hk
      (try simp only [hk])
      split at h
      · rename_i h1 h2
        (try simp only [h1, h2])
        obtain ⟨xs, h3, h4⟩ := buildI_wit _ _ h
        refine h4 _ ?_
        split at h3
        · rename_i hnp
          (try simp only [hnp])
          split at h3
          · exact putT_mono hn hk' h3
          · split at h3
            · rename_i hrw
              (try simp only [hrw])
              rw [fvL_eq] at h3 ⊢
              exact rowI_mono hn hk' h3
            rename_i hrw
            (try simp only [hrw])
            rw [fvL_eq] at h3 ⊢
            exact untag_len hn (fun S' hs => putT_mono hs hk') h3
        · exact h3.elim
      · exact h.elim
    · exact h.elim
  | store t x y =>
    simp only [iop, ev_eq] at h ⊢
    split at h
    · unfold tyK at h ⊢
      split at h
      · exact storeI_mono hn hk' h
      · exact h.elim
    · exact h.elim
  | call c =>
    simp only [iop] at h ⊢
    unfold calls at h ⊢
    split at h
    · rename_i f hf
      split at h
      · rename_i g first captured hx
        (try simp only [hf])
        (try simp only [hx])
        rw [fvL_eq] at h ⊢
        cases h with
        | mk aa r r' ce up h0 h1 h2 h3 =>
          have hl : up.length = n := by have := hC _ _ _ _ _ h1; simp at this; omega
          exact .mk aa r r' ce up h0 h1 h2 (untagO_len (S := ⟨S.tm, ce, up⟩) hl (fun S' hs hk => by rw [fv_eq] at hk ⊢; exact putT_mono hs hk' hk) h3)
        | cut ks aa r r' ce up h0 h1 h2 h3 =>
          have hl : up.length = n := by have := hC _ _ _ _ _ h1; simp at this; omega
          rw [fpsK_eq] at h3
          exact .cut ks aa r r' ce up h0 h1 h2 (by rw [fpsK_eq]; exact untagO_len (S := ⟨keepT ks S.tm, ce, up⟩) hl (fun S' hs hk => by rw [fv_eq] at hk ⊢; exact putT_mono hs hk' hk) h3)
        | own ks args' k cs hle hh hl hf' hk => exact .own ks args' k cs hle hh hl hf' (untagO_len (S := ⟨S.tm, addC ks cs S.ce, S.up⟩) hn (fun S' hs hk => by rw [fv_eq] at hk ⊢; exact putT_mono hs hk' hk) hk)
        | lend dd c0 c' rest hle hr hc0 hn1 hn2 hh ht hk => exact .lend dd c0 c' rest hle hr hc0 hn1 hn2 hh ht (untagO_len (S := ⟨S.tm, putC S.ce dd c', S.up⟩) hn (fun S' hs hk => by rw [fv_eq] at hk ⊢; exact putT_mono hs hk' hk) hk)
        | thaw ks dd hd xs e n' z f hle hxs hi hpos hh hn' hk =>
          refine .thaw ks dd hd xs e n' z f hle hxs hi hpos hh hn' (fun m cc bb => ?_)
          have h3 : untagO dst ⟨keepT ks S.tm, (dd, flatR e n' f ++ List.replicate m .dead) :: S.ce, S.up⟩ (fun S' => fv (.agg (xs ++ [.row dd e n' cc bb])) fun r => putT Γ S' dst r K) := by
            have := hk m cc bb
            rw [fpsK_eq] at this
            exact this
          rw [fpsK_eq]
          exact untagO_len hn (fun S' hs hk => by rw [fv_eq] at hk ⊢; exact putT_mono hs hk' hk) h3
      · rename_i v hx
        rcases hy with hy | hy
        · exact (hy c f v rfl hf hx).elim
        · rw [hy] at h; exact h.elim
      · exact h.elim
    · rename_i b hb
      (try simp only [hb])
      rw [fvL_eq] at h ⊢
      split at h
      · split at h
        · rename_i ht
          (try simp only [ht])
          split at h
          · rename_i hk; (try simp only [hk]); exact putT_mono hn hk' h
          · rename_i hk; (try simp only [hk]); exact putT_mono hn hk' h
          · rename_i hk; (try simp only [hk]); exact putT_mono hn hk' h
          · rename_i hk; (try simp only [hk]); exact putT_mono hn hk' h
          · exact h.elim
        · exact h.elim
      · obtain ⟨v, h1, h2⟩ := minL_wit _ _ (K := fun v => putT Γ S dst v K) h
        exact h2 _ (putT_mono hn hk' h1)
      · obtain ⟨v, h1, h2⟩ := maxL_wit _ _ (K := fun v => putT Γ S dst v K) h
        exact h2 _ (putT_mono hn hk' h1)
      · exact putT_mono hn hk' h
      · exact putT_mono hn hk' h
      · split at h
        · rename_i hk; (try simp only [hk]); exact putT_mono hn hk' h
        · exact h.elim
      · split at h
        · rename_i ht
          (try simp only [ht])
          split at h
          · rename_i hk
            (try simp only [hk])
            split at h
            · rename_i he; (try simp only [he]); exact copyI_mono hn hk' h
            · exact h.elim
          · exact h.elim
        · exact h.elim
      · split at h
        · rename_i hd ht
          (try simp only at hd); subst hd
          (try simp only [ht])
          split at h
          · rename_i h1 h2; (try simp only [h1, h2]); exact appendI_mono hn hk' h
          · exact h.elim
        · exact h.elim
      · exact h.elim
    · exact h.elim
  | makeSlice t len cap =>
    simp only [iop] at h ⊢
    split at h
    · rename_i e d hk
      (try simp only [hk])
      split at h
      · rename_i hp
        (try simp only [hp])
        exact makeI_mono hn hk' h
      · exact h.elim
    · exact h.elim
  | slice t x lo hi mx =>
    simp only [iop] at h ⊢
    split at h
    · rename_i m e hk
      (try simp only [hk])
      split at h
      · rename_i hx0
        (try simp only [hx0])
        exact pure h
      rename_i hnv
      obtain ⟨tm, ce, up⟩ := S
      unfold sliceA at h ⊢
      split at h
      case h_2 => exact h.elim
      rename_i tm' ce' up' c off heq hx
      cases heq
      (try simp only [hx])
      split at h
      case h_2 => exact h.elim
      rename_i xs hxs
      (try simp only [hxs])
      split at h
      case h_2 => exact h.elim
      rename_i hok
      (try simp only [hok])
      rw [fvL_eq, fps_eq, fcs_eq] at h ⊢
      exact putT_mono (S := ⟨stT c (noOwnL xs) tm, stC c (noOwnL xs) ce, up⟩) hn hk' h
    · exact pure h
  | binOp op t x y t' =>
    simp only [iop] at h ⊢
    split at h
    · rename_i k hf; (try simp only [hf]); exact fun n => putT_mono hn hk' (h n)
    · rename_i k n hf; (try simp only [hf]); rw [frcN_eq] at h ⊢; exact putT_mono hn hk' h
    · rename_i hf; (try simp only [hf]); exact pure h
  | _ => exact pure h
theorem iops_len {all : List Oper} {n : Nat} {K K' : St → Prop} (hC : ∀ g up args r up', C g up args r up' → up'.length = up.length) (hy : Γ.yld = none) (hk : ∀ S', S'.up.length = n → K S' → K' S') :
    ∀ (l : List Oper) {S : St}, S.up.length = n → iops C Γ all l K S → iops C Γ all l K' S
  | [], S, hn, h => hk _ hn h
  | o :: r, S, hn, h => by
    have ih : ∀ S', S'.up.length = n → iops C Γ all r K S' → iops C Γ all r K' S' := fun S' hs hh => iops_len hC hy hk r hs hh
    unfold iops at h ⊢
    split at h
    · exact iop_mono hC hn ih o (.inr hy) h
    · split at h
      · exact h.elim
      · split at h
        · rename_i b hb
          have brkm : ∀ {b : Bool} {k k' : Bool → Prop}, (∀ b, k b → k' b) → brk b k → brk b k' := fun {b} {k} {k'} hkk hh => by cases b <;> exact hkk _ hh
          refine brkm (fun b h => ?_) h
          refine putT_mono hn (fun S' hs h => ?_) h
          split at h
          · exact iop_mono hC hs ih o (.inr hy) h
          · exact iop_mono hC hs ih o (.inr hy) h
          · exact putT_mono hs ih h
        · exact putT_mono hn ih h
        · exact h.elim
theorem drawn_len {all : List Oper} {p n : Nat} {K : St → Prop} (hC : ∀ g up args r up', C g up args r up' → up'.length = up.length) (hy : Γ.yld = none) (hn : S.up.length = n) (h : drawn C Γ all p K S) : drawn C Γ all p (fun S' => K S' ∧ S'.up.length = n) S :=
  untagL_len (fun S' hs hh => pres_len (fun S2 hs2 hh2 => adopt_len (fun S3 hs3 hh3 => iops_len hC hy (fun S4 hs4 hk4 => ⟨hk4, hs4⟩) _ hs3 hh3) _ hs2 hh2) _ hs hh) _ hn h
def Wy (gl : Nat → IV) (J : Nat → World → Imm → (Nat → Prop) → Prop) : Way where
  wr := fun _ => true
  T := fun L w I X => J L w I X
  E := fun _ _ _ _ _ _ => True
  refl := fun _ _ _ => trivial
  trans := fun _ _ => trivial
theorem upC_rep (m l : Nat) : upC (List.replicate m []) l = [] := by
  induction m generalizing l with
  | zero => rfl
  | succ m ih => cases l with
    | zero => rfl
    | succ l => exact ih l
theorem rounds_rep (n : Nat) (b : Bool) (m : Nat) : rounds n b (List.replicate m []) = List.replicate (bif b then m + 1 else n + 1 + m) [] := by
  cases b
  · simp [rounds, List.replicate_append_replicate]
  · simp [rounds, List.replicate_succ]
theorem opOK_y {n : Nat} {xs : Nat → List IV} {l : Nat} (hT : TOK Γ.P Γ.T) (hC : HCC C Γ.P Γ.gl) (hCl : ∀ g up args r up', C g up args r up' → up'.length = up.length) (hyl : Γ.yld = some (l, n, xs))
    {J : Nat → World → Imm → (Nat → Prop) → Prop}
    (hst : ∀ k w1 I1 X1 w2 I2, J k w1 I1 X1 → Ext I1 X1 w1 I2 w2 → Base Γ.gl w2 I2 X1 → J k w2 I2 X1)
    (hY : ∀ (k : Nat) w1 I1 X1 (Y : Nat → Prop) (vs : Array Value), k < n → J k w1 I1 X1 → Base Γ.gl w1 I1 X1 → (∀ b, Y b → ¬ X1 b ∧ ∃ o, w1.heap[b]? = some o ∧ notLoop o = true) →
      (xs k).length = vs.size → (∀ (j : Nat) x, (xs k)[j]? = some x → D I1 x (vs.getD j undef)) →
      YieldAt (Fw none) 0 Γ.P l vs w1 fun e w2 => ∃ I2 X2 b, e = .returned (.bool b) ∧ Kept I1 Y w1 I2 w2 ∧ Base Γ.gl w2 I2 X2 ∧ (∀ b, Y b → ¬ X2 b) ∧ J (bif b then k + 1 else n + 1 + k) w2 I2 X2) (m : Nat) :
    OpOK C Γ (Wy Γ.gl J) none m := by
  intro o S K a w I X β σ Q hwr h hr ht
  by_cases hy : ∃ c x v, o.op = .call c ∧ c.callee = .value x ∧ evo Γ S x = .lit v
  · obtain ⟨c, x, v, hop, hc, hx⟩ := hy
    have hd : ∀ cc, o.op ≠ .defer cc := fun cc e => by rw [hop] at e; cases e
    simp only [iop, hop, calls, hc, hx, hyl] at h
    rw [fvL_eq] at h
    obtain ⟨rfl, hu0, h1, h2, h3, hk⟩ := h
    have hvx := evo_V hr x
    rw [hx] at hvx
    have hval : a.eval x = yv l := by
      generalize a.eval x = u at hvx
      cases hvx with
      | data h => cases h; rfl
    refine ⟨fun _ _ => trivial, ?_⟩
    rw [Oper.semAt_eq _ _ _ hd]
    have hargs : ∀ (j : Nat) y, (xs S.up.length)[j]? = some y → D I y ((c.args.map a.eval).getD j undef) := by
      intro j y hy
      have hy0 := hy
      rw [← h2, noOwnL_eq, evoL_eq] at hy
      obtain ⟨z, hz, rfl⟩ := map_get hy
      simp only [List.getElem?_map, Option.map_eq_some_iff] at hz
      obtain ⟨q, hq, rfl⟩ := hz
      have hnp : noPtr (noOwn (evo Γ S q)) = true := noPtrL_get h3 j _ (by rw [noOwnL_eq, evoL_eq]; exact hy)
      have hV : V I β (σ 0) (noOwn (evo Γ S q)) (a.eval q) := (evo_V hr q).noOwn
      have hD := hV.data' hnp
      simp only [Array.getElem?_toList] at hq
      rw [noOwn_idem] at hD
      simpa [Array.getD_eq_getD_getElem?, hq] using hD
    have hlen : (xs S.up.length).length = (c.args.map a.eval).size := by rw [← h2, noOwnL_eq, evoL_eq]; simp
    obtain ⟨Ds, d1, d2, d3⟩ := hr.df.m
    let Y : Nat → Prop := fun b => (∃ l d, β l d = some b) ∨ (∃ t g, σ 0 t = some g ∧ g.b = b) ∨ b ∈ Ds
    have hYc : ∀ b, Y b → ¬ X b ∧ ∃ o, w.heap[b]? = some o ∧ notLoop o = true := by
      rintro b (⟨l, d, hb⟩ | ⟨t, g, hg, rfl⟩ | hb)
      · obtain ⟨cc, hcc⟩ := hr.mem.keys l d b hb
        obtain ⟨b', arr, el, k1, k2, _, _, _, _, k7⟩ := hr.mem.cell l d cc hcc
        rw [hb] at k1; cases k1
        exact ⟨k7, _, k2, rfl⟩
      · obtain ⟨cur, k1, _, _, _, _, k6, _⟩ := hr.own.row t g hg
        exact ⟨k6, _, k1, rfl⟩
      · exact ⟨(d3 b hb).2, _, (d3 b hb).1, rfl⟩
    obtain ⟨fn, tmps, asg, body, hrun, hround⟩ := hY S.up.length w I X Y (c.args.map a.eval) h1 ht hr.base hYc hlen hargs
    have hrun2 : (execOp a.eval o).run Γ.P w = .ok (.round l fn tmps asg body) w := by
      rw [← hrun]
      simp [execOp, hop, resolve, hc, hval, yv, Deferred.ofValue, invoke, callFunc]
    rw [hrun2]
    refine ⟨fun e => (by cases e), (roundIn_any hround).mono ?_⟩
    rintro e w2 ⟨I2, X2, b, rfl, hkp, hb2, hYX, hJ2⟩
    simp only
    have hu := hk b
    have hnoβ : ∀ l' d b', β (l' + 1) d = some b' → False := fun l' d b' hb => by
      obtain ⟨cc, hcc⟩ := hr.mem.keys (l' + 1) d b' hb
      simp only [upC] at hcc
      rw [hu0, upC_rep] at hcc; cases hcc
    have hlr : (rounds n b S.up).length = bif b then S.up.length + 1 else n + 1 + S.up.length := by rw [hu0, rounds_rep]; simp
    have r2 : Rel Γ ⟨S.tm, S.ce, rounds n b S.up⟩ a w2 I2 X2 β σ := by
      refine ⟨fun i => (hr.tm i).mono hkp.imm (fun _ _ _ h => h) (fun _ _ h => h), ⟨⟨Ds, d1, d2, fun D hD => ⟨hkp.dfr D _ (d3 D hD).1, hYX D (.inr (.inr hD))⟩⟩, hr.df.e⟩, hr.nt,
        ⟨fun l' d cc hcc => ?_, hr.mem.inj, fun l' d b' hb => ?_, hb2.im, hb2.glo, hb2.xb, hb2.gz⟩, ⟨fun t g hg => ?_, hr.own.inj⟩⟩
      · cases l' with
        | succ l' =>
          simp only [upC] at hcc
          rw [hu0, rounds_rep, upC_rep] at hcc; cases hcc
        | zero =>
          obtain ⟨b', arr, el, k1, k2, k3, k4, k5, k6, k7⟩ := hr.mem.cell 0 d cc hcc
          have hy : Y b' := .inl ⟨0, d, k1⟩
          exact ⟨b', arr, el, k1, by rw [hkp.keep b' hy]; exact k2, k3, k4, fun j z hz => (k5 j z hz).mono hkp.imm (fun _ _ _ h => h) (fun _ _ h => h), fun j => by rw [hkp.new ⟨b', j, none⟩ hy]; exact k6 j, hYX b' hy⟩
      · cases l' with
        | succ l' => exact (hnoβ l' d b' hb).elim
        | zero => exact hr.mem.keys 0 d b' hb
      · obtain ⟨cur, k1, k2, k3, k4, k5, k6, k7⟩ := hr.own.row t g hg
        have hy : Y g.b := .inr (.inl ⟨t, g, hg, rfl⟩)
        exact ⟨cur, by rw [hkp.keep g.b hy]; exact k1, k2, k3, k4, fun j hj => by rw [hkp.new ⟨g.b, j, none⟩ hy]; exact k5 j hj, hYX g.b hy, k7⟩
    obtain ⟨S', ⟨hk1, hk2⟩, r3⟩ := putT_sound (putT_len (n := (rounds n b S.up).length) rfl hu) r2 (.data (.bool b))
    refine ⟨S', I2, X2, β, σ, hk1, r3, ?_, trivial, .refl _ _, fun i hi => by cases hi⟩
    show J S'.up.length w2 I2 X2
    rw [hk2, hlr]; exact hJ2
  · have hy' : ∀ c x v, o.op = .call c → c.callee = .value x → evo Γ S x = .lit v → False := fun c x v e1 e2 e3 => hy ⟨c, x, v, e1, e2, e3⟩
    refine wpIn_of_wp (iop_noDefer h) (Oper.wp_mono ?_ (iop_all' hT hC o (fun c x v e1 e2 e3 => (hy' c x v e1 e2 e3).elim) (iop_len hCl rfl o (.inl hy') h) hr Q))
    rintro a' w' ⟨S', I', β', σ', ⟨h1, h2⟩, r', he, hab⟩
    refine ⟨S', I', X, β', σ', h1, r', ?_, trivial, hab, fun i hi => by cases hi⟩
    show J S'.up.length w' I' X
    rw [h2]
    exact hst _ _ _ _ _ _ ht he r'.base
theorem draw_y {yy : Nat × Nat × (Nat → List IV)} (hm : Γ.P.follows .mixedOrders = true) (hT : TOK Γ.P Γ.T) (hC : HCC C Γ.P Γ.gl) (hCl : ∀ g up args r up', C g up args r up' → up'.length = up.length) (hyl : Γ.yld = some yy)
    {J : Nat → World → Imm → (Nat → Prop) → Prop} (hst : ∀ k w1 I1 X1 w2 I2, J k w1 I1 X1 → Ext I1 X1 w1 I2 w2 → Base Γ.gl w2 I2 X1 → J k w2 I2 X1) (m : Nat)
    (id : Nat) (ops : Array Oper) (S : St) (K : St → Prop) (a : Act) (w : World) (I : Imm) (X : Nat → Prop) (β : Beta) (σ : Nat → Sig)
    (Q : Exit → Act → World → Prop) (hwr : ∀ o ∈ ops.toList, ∀ d, o.dst = some d → (Wy Γ.gl J).wr d = true) (hq : ¬ LetsOut Q) (h : DRAWR C Γ ops.toList K S) (hr : Rel Γ S a w I X β σ) (ht : (Wy Γ.gl J).T S.up.length w I X)
    (hQ : ∀ a' w', AftG Γ (Wy Γ.gl J) K I X w β σ a a' w' → Q .normal a' w') : (Code.region id ops true).wpIn (Fw none) m Γ.P Q a w := by
  unfold DRAWR at h
  rw [hyl] at h
  obtain ⟨p, hok, hk⟩ := h
  let Γ0 : Env := ⟨Γ.P, Γ.T, Γ.gl, Γ.nt, Γ.vis, none, Γ.ds, Γ.rw⟩
  have hr0 : Rel Γ0 S a w I X β σ := ⟨hr.tm, hr.df, hr.nt, hr.mem, hr.own⟩
  have hd := drawn_len (Γ := Γ0) (n := S.up.length) hCl rfl rfl hk
  obtain ⟨h1, h2⟩ := drawn_any (Γ := Γ0) (Q := fun e a' w' => match e with | .normal => Aft Γ0 (fun S' => K S' ∧ S'.up.length = S.up.length) I X w β σ a' w' | _ => False) hT ⟨hC, rfl⟩ (.mk p hok hd) hr0 (fun a' w' h => h) (fun _ _ _ h => h)
  have h3 := wpAny_same (W := Wy Γ.gl J) (Q := Q) (fun _ _ _ h => h) (fun ⟨_, _, h⟩ => h) hwr a (fun a' w' hs ha => hQ a' w' (by
    obtain ⟨S', I', β', σ', ⟨k1, kl⟩, k2, k3, k4⟩ := ha
    have k2' : Rel Γ S' a' w' I' X β' σ' := ⟨k2.tm, k2.df, k2.nt, k2.mem, k2.own⟩
    refine ⟨S', I', X, β', σ', k1, k2', ?_, trivial, k4, hs⟩
    show J S'.up.length w' I' X
    rw [kl]
    exact hst _ _ _ _ _ _ ht k3 k2'.base)) _ _ _ _ (Same.refl _ _) h1
  exact wpIn_region_any hm (wpAnyIn_of_wpAny hq h2 _ _ _ _ h3)
theorem vis_of_body {C : Con} (hT : TOK Γ.P Γ.T) (hC : HCC C Γ.P Γ.gl) (hCl : ∀ g up args r up', C g up args r up' → up'.length = up.length)
    {g : Nat} {fn : Func} {c : Code} (hf : Γ.P.funcs[g]? = some fn) (hb : fn.body = some c) (hn : (fn.name == "runtime.NumGoroutine") = false) (hnr : noRange c = true) (hnd : noDraw c = true)
    {args : List IV} {n : Nat} {xs : Nat → List IV} (h : ivis C Γ fn args n xs) : Vis Γ.P Γ.gl g args n xs := by
  refine ⟨⟨fn, c, hf, hb, hn⟩, fun l vals J w I X hbase hlen hargs hst hY h0 => ?_⟩
  refine (callsIn_wide (n := 1)).1 (callsIn_of_wp_marks (F := Fw none) hf hb trivial ?_)
  simp only [ivis, hb] at h
  have h := h l
  let Γ' : Env := ⟨Γ.P, Γ.T, Γ.gl, fn.ntmps, Γ.vis, some (l, n, xs), some [], Γ.rw⟩
  let X1 : Nat → Prop := X
  have r0 : Rel Γ' ⟨params 0 (.lit (yv l) :: args), [], []⟩ { tmps := (#[yv l] ++ vals) ++ Array.replicate (fn.ntmps - (#[yv l] ++ vals).size) undef, defers := [] } w I X (fun _ _ => none) (fun _ => noSig) := by
    refine ⟨fun i => ?_, ⟨.nil _ _, fun d e => (by cases e; rfl)⟩, ?_, ⟨fun l d c hc => ?_, fun l d l' d' b h1 => (by cases h1), fun l d b h1 => (by cases h1), hbase.im, hbase.glo, hbase.xb, hbase.gz⟩, ⟨fun t g h => (by cases h), fun t t' g g' h => (by cases h)⟩⟩
    · rw [params_look]
      simp only [Nat.zero_le, if_true, Nat.sub_zero]
      cases i with
      | zero =>
        simp only [List.getD_cons_zero]
        have e : ((#[yv l] ++ vals) ++ Array.replicate (fn.ntmps - (#[yv l] ++ vals).size) undef).getD 0 undef = yv l := by
          have e1 : ((#[yv l] ++ vals) ++ Array.replicate (fn.ntmps - (#[yv l] ++ vals).size) undef)[0]? = some (yv l) := by
            rw [Array.getElem?_append_left (by simp; omega), Array.getElem?_append_left (by simp)]
            rfl
          rw [Array.getD_eq_getD_getElem?, e1]; rfl
        rw [e]; exact .data (D.lit (yv l) rfl)
      | succ i =>
        simp only [List.getD_cons_succ]
        cases hi : args[i]? with
        | none => simp only [List.getD_eq_getElem?_getD, hi, Option.getD_none]; exact .data (.dead _)
        | some x =>
          have hlt : i < vals.size := by rw [← hlen]; exact (List.getElem?_eq_some_iff.1 hi).1
          have := hargs i x hi
          simp only [List.getD_eq_getElem?_getD, hi, Option.getD_some]
          refine .data ?_
          rw [Array.getD_eq_getD_getElem?] at this ⊢
          rw [Array.getElem?_append_left (by simp; omega), Array.getElem?_append_right (by simp)]
          simpa using this
    · simp only [Array.size_append, Array.size_replicate]; show fn.ntmps ≤ _; omega
    · cases l with
      | zero => simp [upC, lookC] at hc
      | succ l => simp [upC, lookC] at hc
  have hw := iwp_soundG (W := Wy Γ.gl J) (Γ := Γ') (r := none) (n := 1) true true (opOK_y (Γ := Γ') (l := l) (n := n) (xs := xs) hT hC hCl rfl hst hY 1) (fun _ _ _ _ _ _ _ _ _ _ _ _ _ _ h => by unfold MAPR at h; exact h.elim) (fun e => by cases e) (fun e => by cases e) c _ _ _ w I X _ _ (fun _ => hnr) (fun _ => hnd) (fun _ _ => rfl) h r0 h0
  have fin : ∀ a' w', AftG Γ' (Wy Γ.gl J) (fun S => resL Γ' S fn.results.toList fun _ => n ≤ S.up.length) I X w (fun _ _ => none) (fun _ => noSig) { tmps := (#[yv l] ++ vals) ++ Array.replicate (fn.ntmps - (#[yv l] ++ vals).size) undef, defers := [] } a' w' →
      LeavesInM (Fw none) 1 Γ.P fn a'.tmps (fun e w' => ∃ v I' X' L, e = .returned v ∧ n ≤ L ∧ J L w' I' X' ∧ Base Γ.gl w' I' X') a'.defers .returning w' := by
    rintro a' w' ⟨S', I', X', β', σ', hk, r, hJ, _, hab, _⟩
    have hd : a'.defers = [] := r.df.e [] rfl
    obtain ⟨ivs, us, k1, k2, k3, k4⟩ := resL_sound (Γ := Γ') hT r _ _ hk
    rw [hd]
    refine ⟨if h : us.toArray.size = 1 then us.toArray[0] else .tuple us.toArray, ?_, _, I', X', S'.up.length, rfl, k1, hJ, r.base⟩
    have k4' : (fn.results.toList.mapM (resSem a'.tmps)).run Γ.P w' = .ok us w' := k4
    show (results fn a'.tmps).run Γ.P w' = _
    simp only [results_eq, Array.mapM_eq_mapM_toList, Sem.run_bind, Sem.run_map, k4']; rfl
  refine wpIn_mono hw fun e a' w' h' => ?_
  cases e with
  | normal => exact fin a' w' h'
  | ret => exact fin a' w' h'
  | exit id => obtain ⟨S', I', X', β', σ', hk, _⟩ := h'; exact hk.elim
  | goto l => exact h'.elim
  | panic ch => exact h'.elim
  | outgrown => exact h'.elim
theorem vis_of_bodyO {C : Con} (hm : Γ.P.follows .mixedOrders = true) (hT : TOK Γ.P Γ.T) (hC : HCC C Γ.P Γ.gl) (hCl : ∀ g up args r up', C g up args r up' → up'.length = up.length)
    {g : Nat} {fn : Func} {c : Code} (hf : Γ.P.funcs[g]? = some fn) (hb : fn.body = some c) (hn : (fn.name == "runtime.NumGoroutine") = false) (hnr : noRange c = true)
    {ks : List Nat} {cs : List (List IV)} {n : Nat} {xs : Nat → List IV} (hl : ks.length = cs.length) (hks : freshB [] ks = true) (h : ivisO C Γ fn ks cs n xs) : VisO Γ.P Γ.gl g cs n xs := by
  refine ⟨⟨fn, c, hf, hb, hn⟩, fun l bs J w I X hbase hlen hbn hcells hst hY h0 => ?_⟩
  refine (callsIn_wide (n := 1)).1 (callsIn_of_wp_marks (F := Fw none) hf hb trivial ?_)
  simp only [ivisO, hb] at h
  have h := h l
  let Γ' : Env := ⟨Γ.P, Γ.T, Γ.gl, fn.ntmps, Γ.vis, some (l, n, xs), some [], Γ.rw⟩
  let vals : Array Value := (bs.map ptrV).toArray
  let a0 : Act := { tmps := (#[yv l] ++ vals) ++ Array.replicate (fn.ntmps - (#[yv l] ++ vals).size) undef, defers := [] }
  have r00 : Rel Γ' ⟨[], [], []⟩ a0 w I X (fun _ _ => none) (fun _ => noSig) := by
    refine ⟨fun i => .data (.dead _), ⟨.nil _ _, fun d e => (by cases e; rfl)⟩, ?_, ⟨fun l d c hc => ?_, fun l d l' d' b h1 => (by cases h1), fun l d b h1 => (by cases h1), hbase.im, hbase.glo, hbase.xb, hbase.gz⟩, ⟨fun t g h => (by cases h), fun t t' g g' h => (by cases h)⟩⟩
    · show fn.ntmps ≤ ((#[yv l] ++ vals) ++ Array.replicate (fn.ntmps - (#[yv l] ++ vals).size) undef).size
      simp only [Array.size_append, Array.size_replicate]; omega
    · cases l with
      | zero => simp [upC, lookC] at hc
      | succ l => simp [upC, lookC] at hc
  obtain ⟨β0, r01, _, _, p1, _⟩ := r00.addCells ks cs bs hl (by omega) hbn (fun i b c e1 e2 => ⟨hcells i b c e1 e2, fun l d h => (by cases h)⟩) (fun b hb t g h => (by cases h)) hks
  have r0 : Rel Γ' ⟨params 0 (.lit (yv l) :: ptrsI ks), addC ks cs [], []⟩ a0 w I X β0 (fun _ => noSig) := by
    refine ⟨fun i => ?_, r01.df, r01.nt, r01.mem, r01.own⟩
    rw [params_look]
    simp only [Nat.zero_le, if_true, Nat.sub_zero]
    show V I β0 noSig _ (((#[yv l] ++ vals) ++ Array.replicate (fn.ntmps - (#[yv l] ++ vals).size) undef).getD i undef)
    cases i with
    | zero =>
      simp only [List.getD_cons_zero]
      have e : ((#[yv l] ++ vals) ++ Array.replicate (fn.ntmps - (#[yv l] ++ vals).size) undef).getD 0 undef = yv l := by
        have e1 : ((#[yv l] ++ vals) ++ Array.replicate (fn.ntmps - (#[yv l] ++ vals).size) undef)[0]? = some (yv l) := by
          rw [Array.getElem?_append_left (by simp; omega), Array.getElem?_append_left (by simp)]
          rfl
        rw [Array.getD_eq_getD_getElem?, e1]; rfl
      rw [e]; exact .data (D.lit (yv l) rfl)
    | succ i =>
      simp only [List.getD_cons_succ]
      cases hi : (ptrsI ks)[i]? with
      | none => simp only [List.getD_eq_getElem?_getD, hi, Option.getD_none]; exact .data (.dead _)
      | some x =>
        obtain ⟨kk, h1, rfl⟩ := ptrsI_get hi
        have hj := (List.getElem?_eq_some_iff.1 h1).1
        have hjb : i < bs.length := by omega
        have hb' : bs[i]? = some bs[i] := List.getElem?_eq_getElem hjb
        have e : ((#[yv l] ++ vals) ++ Array.replicate (fn.ntmps - (#[yv l] ++ vals).size) undef).getD (i + 1) undef = ptrV bs[i] := by
          have hlt : i < vals.size := by show i < ((bs.map ptrV).toArray).size; simpa using hjb
          have e1 : ((#[yv l] ++ vals) ++ Array.replicate (fn.ntmps - (#[yv l] ++ vals).size) undef)[i + 1]? = some (ptrV bs[i]) := by
            rw [Array.getElem?_append_left (by simp; omega), Array.getElem?_append_right (by simp)]
            show ((bs.map ptrV).toArray)[i + 1 - 1]? = _
            simp [hb']
          rw [Array.getD_eq_getD_getElem?, e1]; rfl
        simp only [List.getD_eq_getElem?_getD, hi, Option.getD_some]
        rw [e]
        exact .ptr 0 kk 0 _ (p1 i kk _ h1 hb')
  have hw := iwp_soundG (W := Wy Γ.gl J) (Γ := Γ') (r := none) (n := 1) true false (opOK_y (Γ := Γ') (l := l) (n := n) (xs := xs) hT hC hCl rfl hst hY 1) (fun _ _ _ _ _ _ _ _ _ _ _ _ _ _ h => by unfold MAPR at h; exact h.elim) (fun _ => draw_y (Γ := Γ') hm hT hC hCl rfl hst 1) (fun e => by cases e) c _ _ _ w I X _ _ (fun _ => hnr) (fun e => by cases e) (fun _ _ => rfl) h r0 h0
  have fin : ∀ a' w', AftG Γ' (Wy Γ.gl J) (fun S => resL Γ' S fn.results.toList fun _ => n ≤ S.up.length) I X w β0 (fun _ => noSig) a0 a' w' →
      LeavesInM (Fw none) 1 Γ.P fn a'.tmps (fun e w' => ∃ v I' X' L, e = .returned v ∧ n ≤ L ∧ J L w' I' X' ∧ Base Γ.gl w' I' X') a'.defers .returning w' := by
    rintro a' w' ⟨S', I', X', β', σ', hk, r, hJ, _, hab, _⟩
    have hd : a'.defers = [] := r.df.e [] rfl
    obtain ⟨ivs, us, k1, k2, k3, k4⟩ := resL_sound (Γ := Γ') hT r _ _ hk
    rw [hd]
    refine ⟨if h : us.toArray.size = 1 then us.toArray[0] else .tuple us.toArray, ?_, _, I', X', S'.up.length, rfl, k1, hJ, r.base⟩
    have k4' : (fn.results.toList.mapM (resSem a'.tmps)).run Γ.P w' = .ok us w' := k4
    show (results fn a'.tmps).run Γ.P w' = _
    simp only [results_eq, Array.mapM_eq_mapM_toList, Sem.run_bind, Sem.run_map, k4']; rfl
  refine wpIn_mono hw fun e a' w' h' => ?_
  cases e with
  | normal => exact fin a' w' h'
  | ret => exact fin a' w' h'
  | exit id => obtain ⟨S', I', X', β', σ', hk, _⟩ := h'; exact hk.elim
  | goto l => exact h'.elim
  | panic ch => exact h'.elim
  | outgrown => exact h'.elim
end
end Go.Proofs.YtfoenhiohhmnlaaGreatDoor.Ix

namespace Go.Proofs.YtfoenhiohhmnlaaGreatDoor.Ix
set_option linter.unusedVariables false
mutual
theorem leV_refl : ∀ (x : IV), leV x x
  | .lst o e n f => ⟨.inr rfl, rfl, rfl, fun _ _ => rfl⟩
  | .agg xs => leL_refl xs
  | .tup xs => leL_refl xs
  | .dead => trivial
  | .int _ _ | .bool _ | .str _ | .lit _ | .nilS | .ptr _ _ _ | .vptr _ _ _ _ _ | .raw _ _ _ | .row _ _ _ _ _ | .mp _ _ | .ifc | .fn _ _ _ => rfl
theorem leL_refl : ∀ (l : List IV), leL l l
  | [] => trivial
  | x :: r => ⟨leV_refl x, leL_refl r⟩
end
theorem leV_view (o : Option Nat) (e n : Nat) (f : Nat → List IV) : leV (.lst o e n f) (.lst none e n f) := ⟨.inl rfl, rfl, rfl, fun _ _ => rfl⟩
theorem leV_int {k : IntKind} {a b : Int} (h : a = b) : leV (.int k a) (.int k b) := by subst h; rfl
theorem wrap_in {n : Int} (h1 : -9223372036854775808 ≤ n) (h2 : n < 9223372036854775808) : IntKind.i64.wrap n = n := by
  unfold IntKind.wrap
  simp [IntKind.bits, IntKind.signed]
  omega
theorem Comp.le {P : Program} {gl : Nat → IV} {g : Nat} {up up' : List Ces} {args args' : List IV} {r : IV} (hle : leL args args') (h : Comp P gl g up args' r up') : Comp P gl g up args r up' := by
  refine ⟨h.1, fun vals w I X β σ hm hlen hargs => ?_⟩
  obtain ⟨h1, h2⟩ := leL_sound _ _ hle (fun j => vals.getD j undef) hargs
  exact h.2 vals w I X β σ hm (by rw [← h1]; exact hlen) h2
inductive TRYD (p : Nat) (C : Con) (Γ : Env) (all : List Oper) (K : St → Prop) (S : St) : Prop where
  | mk (h : DRAW C Γ all K S)
theorem DRAW.seek {C : Con} {Γ : Env} {all : List Oper} {K : St → Prop} {S : St} (h : TRYD 0 C Γ all K S) : DRAW C Γ all K S := by
  cases h with | mk h => exact h
theorem TRYD.take {p : Nat} {C : Con} {Γ : Env} {all : List Oper} {K : St → Prop} {S : St} (hk : drawn C Γ all p K S) (h : drawOK all p = true := by decide +kernel) : TRYD p C Γ all K S := .mk (.mk p h hk)
theorem TRYD.next {p : Nat} {C : Con} {Γ : Env} {all : List Oper} {K : St → Prop} {S : St} (h : TRYD (p + 1) C Γ all K S) (hp : Nat.blt p 45 = true := by rfl) : TRYD p C Γ all K S := by
  cases h with | mk h => exact .mk h
theorem CALL0.by {C : Con} {g : Nat} {tm : Tms} {ce0 ce : Ces} {up0 up : List Ces} {args : List IV} {d : Option Nat} {K : IV → St → Prop} {r r' : IV} (h : C g (ce0 :: up0) args r (ce :: up)) (hr : back d r = some r') (hk : K r' ⟨tm, ce, up⟩) : CALL0 C g tm ce0 up0 args d K :=
  .mk args r r' ce up (leL_refl _) h hr hk
end Go.Proofs.YtfoenhiohhmnlaaGreatDoor.Ix
