/-
  Ix22: a region that draws its order, the whole.
-/
import Derived.Test.YtllmejkmogepjaaDoorX21
namespace Go.Proofs.YtllmejkmogepjaaDoor.Ix
set_option linter.unusedVariables false
set_option linter.unusedSimpArgs false

def cntF (ℓ : Nat → Bool) : Nat → Nat
  | 0 => 0
  | n + 1 => cntF ℓ n + if ℓ n then 0 else 1

theorem cntF_pos {ℓ : Nat → Bool} {i : Nat} (h : ℓ i = false) : ∀ {n : Nat}, i < n → 1 ≤ cntF ℓ n
  | n + 1, hi => by
    simp only [cntF]
    rcases Nat.lt_or_ge i n with h' | h'
    · have := cntF_pos h h'; omega
    · have : i = n := by omega
      subst this; rw [h]; simp

theorem cntF_same {ℓ : Nat → Bool} {i : Nat} : ∀ {n : Nat}, n ≤ i → cntF (setF ℓ i true) n = cntF ℓ n
  | 0, _ => rfl
  | n + 1, hi => by
    simp only [cntF]
    rw [cntF_same (n := n) (by omega), show setF ℓ i true n = ℓ n from by simp [setF]; omega]

theorem cntF_set {ℓ : Nat → Bool} {i : Nat} (h : ℓ i = false) : ∀ {n : Nat}, i < n → cntF (setF ℓ i true) n + 1 = cntF ℓ n
  | n + 1, hi => by
    simp only [cntF]
    rcases Nat.lt_or_ge i n with h' | h'
    · have := cntF_set h h'
      rw [show setF ℓ i true n = ℓ n from by simp [setF]; omega]; omega
    · have : i = n := by omega
      subst this
      rw [cntF_same (Nat.le_refl _), setF_self, h]; simp

def Lof (listed : Array Bool) : Nat → Bool := fun i => listed.getD i false

theorem Lof_set {listed : Array Bool} {i : Nat} (h : i < listed.size) : Lof (listed.setIfInBounds i true) = setF (Lof listed) i true := by
  funext j
  simp only [Lof, setF, Array.getD_eq_getD_getElem?, Array.getElem?_setIfInBounds]
  by_cases e : i = j
  · subst e; simp [h]
  · have e' : ¬ j = i := fun e' => e e'.symm
    simp [e, e']

section
variable {C : Con} {Γ : Env} {ops : Array Oper} {p : Nat} {S : St} {S0 : St} {val : Nat → IV} {act : Nat → Bool} {w0 : World} {I0 : Imm} {X : Nat → Prop} {β0 : Beta} {σ0 : Nat → Sig} {a : Act} {w : World}
  {I : Imm} {β : Beta} {σ : Nat → Sig} {cr : List Nat} {K : St → Prop} {Q : Exit → Act → World → Prop}

theorem ready_spec {listed : Array Bool} {i : Nat} (hsz : listed.size = ops.size) : i ∈ Region.ready .any ops listed ↔ Lof listed i = false ∧ ∃ o, ops[i]? = some o ∧ ∀ j, bindOn o j = true → Lof listed j = true := by
  rw [mem_ready]
  constructor
  · rintro ⟨h1, o, ho, h⟩
    have hi : i < ops.size := (Array.getElem?_eq_some_iff.1 ho).1
    refine ⟨?_, o, ho, fun j hj => ?_⟩
    · simp only [Lof, Array.getD_eq_getD_getElem?] at h1 ⊢
      have : i < listed.size := by omega
      simpa [this] using h1
    · unfold bindOn at hj
      rw [List.any_eq_true] at hj
      obtain ⟨e, he, hb⟩ := hj
      simp only [Bool.and_eq_true] at hb
      have := (beq_iff _ _).1 hb.2
      subst this
      exact h e (by simpa using he) hb.1
  · rintro ⟨h1, o, ho, h⟩
    have hi : i < ops.size := (Array.getElem?_eq_some_iff.1 ho).1
    refine ⟨?_, o, ho, fun e he hb => ?_⟩
    · simp only [Lof, Array.getD_eq_getD_getElem?] at h1 ⊢
      have : i < listed.size := by omega
      simpa [this] using h1
    · refine h e.on ?_
      unfold bindOn
      rw [List.any_eq_true]
      exact ⟨e, by simpa using he, by simp [hb]⟩

theorem bindOn_lt (k : DOK ops p) {i : Nat} {o : Oper} (ho : ops[i]? = some o) {j : Nat} (h : bindOn o j = true) : j < i := by
  unfold bindOn at h
  rw [List.any_eq_true] at h
  obtain ⟨e, he, hb⟩ := h
  simp only [Bool.and_eq_true] at hb
  have := (beq_iff _ _).1 hb.2
  subst this
  exact k.acy i o ho e (by simpa using he) hb.1

/-- The first that has not come up may come up. -/
theorem ready_first (k : DOK ops p) {listed : Array Bool} (hsz : listed.size = ops.size) {i : Nat} (hi : i < ops.size) (hn : Lof listed i = false) (hl : ∀ j, j < i → Lof listed j = true) : i ∈ Region.ready .any ops listed := by
  rw [ready_spec hsz]
  exact ⟨hn, ops[i], by simp [hi], fun j hj => hl j (bindOn_lt k (by simp [hi]) hj)⟩

theorem first_false {ℓ : Nat → Bool} : ∀ (n : Nat), ℓ n = false → ∃ i, i ≤ n ∧ ℓ i = false ∧ ∀ j, j < i → ℓ j = true
  | 0, h => ⟨0, Nat.le_refl _, h, fun j hj => by omega⟩
  | n + 1, h => by
    by_cases hx : ∃ i, i ≤ n ∧ ℓ i = false
    · obtain ⟨i, hi, hf⟩ := hx
      obtain ⟨i', h1, h2, h3⟩ := first_false' i n hi hf
      exact ⟨i', by omega, h2, h3⟩
    · refine ⟨n + 1, Nat.le_refl _, h, fun j hj => ?_⟩
      cases hj' : ℓ j with
      | true => rfl
      | false => exact absurd ⟨j, by omega, hj'⟩ hx
where
  first_false' {ℓ : Nat → Bool} (i n : Nat) (hi : i ≤ n) (hf : ℓ i = false) : ∃ i, i ≤ n ∧ ℓ i = false ∧ ∀ j, j < i → ℓ j = true := by
    induction i using Nat.strongRecOn with
    | ind i ih =>
      by_cases hx : ∃ j, j < i ∧ ℓ j = false
      · obtain ⟨j, hj, hjf⟩ := hx
        exact ih j hj (by omega) hjf
      · refine ⟨i, hi, hf, fun j hj => ?_⟩
        cases hj' : ℓ j with
        | true => rfl
        | false => exact absurd ⟨j, hj, hj'⟩ hx

/-- Behind the front: one order. -/
theorem tail_any (hT : TOK Γ.P Γ.T) (hC : HC C Γ) (k : DOK ops p) (hQ : ∀ a' w', Aft Γ K I X w β σ a' w' → Q .normal a' w') :
    ∀ (fuel n : Nat) (listed : Array Bool) (S' : St) (a' : Act) (w' : World) (I' : Imm) (β' : Beta) (σ' : Nat → Sig), listed.size = ops.size → p ≤ n → n ≤ ops.size → (∀ j, j < n → Lof listed j = true) → (∀ j, n ≤ j → Lof listed j = false) →
      cntF (Lof listed) ops.size ≤ fuel → iops C Γ ops.toList (ops.toList.drop n) K S' → Rel Γ S' a' w' I' X β' σ' → Ext I X w I' w' → Above β β' σ σ' → wpAny Γ.P .any ops Q fuel listed a' w' := by
  intro fuel
  induction fuel with
  | zero =>
    intro n listed S' a' w' I' β' σ' hsz hp hn hl1 hl2 hc h r he ha
    have hnn : n = ops.size := by
      rcases Nat.lt_or_ge n ops.size with h' | h'
      · have := cntF_pos (hl2 n (Nat.le_refl _)) h'; omega
      · omega
    subst hnn
    have hd : ops.toList.drop ops.size = [] := List.drop_eq_nil_of_le (by simp)
    rw [hd] at h
    refine ⟨?_, hQ _ _ ⟨S', I', β', σ', h, r, he, ha⟩⟩
    cases hr : Region.ready .any ops listed with
    | nil => rfl
    | cons i l =>
      have : i ∈ Region.ready .any ops listed := by rw [hr]; simp
      rw [ready_spec hsz] at this
      obtain ⟨h1, o, ho, _⟩ := this
      rw [hl1 i (Array.getElem?_eq_some_iff.1 ho).1] at h1; cases h1
  | succ fuel ih =>
    intro n listed S' a' w' I' β' σ' hsz hp hn hl1 hl2 hc h r he ha
    rcases Nat.lt_or_ge n ops.size with hlt | hge
    · have hmem : n ∈ Region.ready .any ops listed := ready_first k hsz hlt (hl2 n (Nat.le_refl _)) hl1
      refine ⟨fun e => (by rw [e] at hmem; cases hmem), fun i hi => ?_⟩
      rw [ready_spec hsz] at hi
      obtain ⟨h1, o, ho, h2⟩ := hi
      have hin : i = n := by
        rcases Nat.lt_trichotomy i n with h' | h' | h'
        · rw [hl1 i h'] at h1; cases h1
        · exact h'
        · have := k.suf i o ho (by omega) (Lof listed) (fun i' o' ho' hl' j hb => hl1 j (by
            have hlt' := bindOn_lt k ho' hb
            rcases Nat.lt_or_ge i' n with h9 | h9
            · omega
            · rw [hl2 i' h9] at hl'; cases hl')) h2 n h'
          rw [hl2 n (Nat.le_refl _)] at this; cases this
      subst hin
      have hdrop : ops.toList.drop i = o :: ops.toList.drop (i + 1) := by
        have hi' : i < ops.toList.length := by simpa using hlt
        rw [List.drop_eq_getElem_cons hi']
        congr 1
        have := (Array.getElem?_eq_some_iff.1 ho).2
        simpa using this
      rw [hdrop, iops_cons] at h
      have h1' := iop1_sound hT hC (ops := ops) o h r Q
      have next : ∀ a2 w2, Aft Γ (fun S' => iops C Γ ops.toList (ops.toList.drop (i + 1)) K S') I' X w' β' σ' a2 w2 → wpAny Γ.P .any ops Q fuel (listed.setIfInBounds i true) a2 w2 := by
        rintro a2 w2 ⟨S2, I2, β2, σ2, k1, k2, k3, k4⟩
        have hset := Lof_set (listed := listed) (i := i) (by omega)
        refine ih (i + 1) _ S2 a2 w2 I2 β2 σ2 (by simpa using hsz) (by omega) hlt (fun j hj => ?_) (fun j hj => ?_) ?_ k1 k2 (he.trans k3) (ha.trans k4)
        · rw [hset]; unfold setF; split
          · rfl
          · exact hl1 j (by omega)
        · rw [hset]; unfold setF; split
          · omega
          · exact hl2 j (by omega)
        · rw [hset]
          have := cntF_set h1 hlt; omega
      unfold wpOp
      simp only [ho]
      split
      · rename_i hw
        rw [if_pos hw] at h1'
        exact .inl (Oper.wp_mono next h1')
      · rename_i hw
        rw [if_neg hw] at h1'
        exact next _ _ h1'
    · have hnn : n = ops.size := by omega
      subst hnn
      have hd : ops.toList.drop ops.size = [] := List.drop_eq_nil_of_le (by simp)
      rw [hd] at h
      refine ⟨fun _ => hQ _ _ ⟨S', I', β', σ', h, r, he, ha⟩, fun i hi => ?_⟩
      rw [ready_spec hsz] at hi
      obtain ⟨h1, o, ho, _⟩ := hi
      rw [hl1 i (Array.getElem?_eq_some_iff.1 ho).1] at h1; cases h1

/-- The front, in any order, and what comes behind it. -/
theorem front_any (hT : TOK Γ.P Γ.T) (hC : HC C Γ) (k : DOK ops p)
    (hf : ∀ (j : Nat) o, j < p → ops[j]? = some o → Fact C Γ ops.toList cr S0 val act j o) (hnt : noTags cr S0) (hcr : ∀ (i : Nat) o d, i < p → ops[i]? = some o → creates o = true → o.dst = some d → d ∈ cr)
    {Se : St} (hse : Is S0 ops.toList val p Se) (hk : adopt Γ (ops.toList.take p) (ops.toList.take p) (iops C Γ ops.toList (ops.toList.drop p) K) Se)
    (hQ : ∀ a' w', Aft Γ K I X w β σ a' w' → Q .normal a' w') :
    ∀ (fuel : Nat) (listed : Array Bool) (a' : Act) (w' : World) (I' : Imm) (β' : Beta) (σ' : Nat → Sig) (bl : Nat → Nat), listed.size = ops.size → (∀ j, p ≤ j → Lof listed j = false) → cntF (Lof listed) ops.size ≤ fuel → DC ops (Lof listed) →
      Inv Γ ops p S0 val w I X β σ (Lof listed) a' w' I' β' σ' bl → wpAny Γ.P .any ops Q fuel listed a' w' := by
  have whole : ∀ (fuel : Nat) (listed : Array Bool) (a' : Act) (w' : World) (I' : Imm) (β' : Beta) (σ' : Nat → Sig) (bl : Nat → Nat), listed.size = ops.size → (∀ j, p ≤ j → Lof listed j = false) → cntF (Lof listed) ops.size ≤ fuel →
      Inv Γ ops p S0 val w I X β σ (Lof listed) a' w' I' β' σ' bl → (∀ j, j < p → Lof listed j = true) → wpAny Γ.P .any ops Q fuel listed a' w' := by
    intro fuel listed a' w' I' β' σ' bl hsz hl2 hc v hall
    have r1 : Rel Γ Se a' w' I' (fun b => X b ∨ ∃ j, 0 ≤ j ∧ j < p ∧ MkAt ops j ∧ bl j = b) β' σ' := by
      refine (v.rel.congr (fun t => ?_) hse.ce hse.up).sub fun b hb => ?_
      · rw [hse.tm t]
        simp only [lex, some']
        congr 1
        have : ∀ n, n ≤ p → tmL S0.tm (dstOf ops.toList) val (fun _ => true) n = tmL S0.tm (dstOf ops.toList) val (Lof listed) n := by
          intro n
          induction n with
          | zero => intro _; rfl
          | succ n ih => intro hn; simp only [tmL]; rw [ih (by omega), hall n (by omega)]
        exact this p (Nat.le_refl _)
      · rcases hb with hb | ⟨j, _, h2, h3, h4⟩
        · exact .inl hb
        · exact .inr ⟨j, h2, hall j h2, h3, h4⟩
    obtain ⟨S', β2, g1, g2, g3⟩ := adopt_all hT k v hall (ops.toList.take p) 0 Se β' (fun j => by simp) (.refl _ _) r1 hk
    exact tail_any hT hC k hQ fuel p listed S' a' w' I' β2 σ' hsz (Nat.le_refl _) k.le hall hl2 hc g1 g2 v.ext (v.abv.trans g3)
  intro fuel
  induction fuel with
  | zero =>
    intro listed a' w' I' β' σ' bl hsz hl2 hc hdc v
    refine whole 0 listed a' w' I' β' σ' bl hsz hl2 hc v fun j hj => ?_
    cases hj' : Lof listed j with
    | true => rfl
    | false => have := cntF_pos hj' (n := ops.size) (by have := k.le; omega); omega
  | succ fuel ih =>
    intro listed a' w' I' β' σ' bl hsz hl2 hc hdc v
    by_cases hx : ∃ i, i < p ∧ Lof listed i = false
    · obtain ⟨i0, hi0, hf0⟩ := hx
      obtain ⟨i1, h1, h2, h3⟩ := first_false i0 hf0
      have hmem : i1 ∈ Region.ready .any ops listed := ready_first k hsz (by have := k.le; omega) h2 h3
      refine ⟨fun e => (by rw [e] at hmem; cases hmem), fun i hi => ?_⟩
      rw [ready_spec hsz] at hi
      obtain ⟨g1, o, ho, g2⟩ := hi
      have his : i < ops.size := (Array.getElem?_eq_some_iff.1 ho).1
      have hip : i < p := by
        rcases Nat.lt_or_ge i p with h' | h'
        · exact h'
        · have := k.suf i o ho h' (Lof listed) hdc g2 i0 (by omega)
          rw [hf0] at this; cases this
      refine wpOp_mono ?_ (front_step hT hC k hf hnt hcr hdc ho hip g1 g2 v Q)
      rintro a2 w2 ⟨I2, β2, σ2, bl2, v2⟩
      have hset := Lof_set (listed := listed) (i := i) (by omega)
      refine ih _ a2 w2 I2 β2 σ2 bl2 (by simpa using hsz) (fun j hj => ?_) ?_ ?_ (by rw [hset]; exact v2)
      · rw [hset]; unfold setF; split
        · omega
        · exact hl2 j hj
      · rw [hset]; have := cntF_set g1 his; omega
      · rw [hset]; exact hdc.upd ho g2
    · refine whole (fuel + 1) listed a' w' I' β' σ' bl hsz hl2 hc v fun j hj => ?_
      cases hj' : Lof listed j with
      | true => rfl
      | false => exact absurd ⟨j, hj, hj'⟩ hx

theorem Rel.draw (r : Rel Γ S a w I X β σ) (n : Nat) : Rel Γ S a { w with drawn := n } I X β σ :=
  ⟨r.tm, r.df.to (fun _ _ h _ => h) (fun _ _ h => h), r.nt, ⟨r.mem.cell, r.mem.inj, r.mem.keys, r.mem.im, r.mem.glo, r.mem.xb⟩, ⟨r.own.row, r.own.inj⟩⟩

theorem cntF_le (ℓ : Nat → Bool) : ∀ n, cntF ℓ n ≤ n
  | 0 => Nat.le_refl _
  | n + 1 => by simp only [cntF]; have := cntF_le ℓ n; split <;> omega

theorem drawn_any (hT : TOK Γ.P Γ.T) (hC : HC C Γ) (h : DRAW C Γ ops.toList K S) (r : Rel Γ S a w I X β σ)
    (hQ : ∀ a' w', Aft Γ K I X w β σ a' w' → Q .normal a' w') :
    wpAny Γ.P .any ops Q ops.size (Array.replicate ops.size false) a { w with drawn := w.drawn + 1 } ∧ ∀ (i : Nat) o, ops[i]? = some o → ∀ c, o.op ≠ .defer c := by
  obtain ⟨p, hok, hd⟩ := h
  have k := drawOK_spec hok
  have r1 := r.draw (w.drawn + 1)
  obtain ⟨S0, σ1, hp, r2, hab, hnt⟩ := untagL_sound (creators (ops.toList.take p)) [] S σ hd (fun d hd => by cases hd) r1
  obtain ⟨val, act, Se, hf, hse, hk⟩ := pres_spec (C := C) (Γ := Γ) (all := ops.toList) (cr := creators (ops.toList.take p)) (S0 := S0) (p := p) (fun _ _ _ _ _ _ _ _ => trivial)
    (fun i o t a x hi ho hop => (k.st i o t a x (by simpa using ho) hi hop).choose_spec.2.1) (ops.toList.take p) 0 (fun _ => .dead) (fun _ => false) S0 (by have := k.le; simp; omega)
    (fun j hj => by rw [List.getElem?_take, if_pos (by simp at hj; omega)]; simp) ⟨fun _ => rfl, rfl, rfl⟩ (fun j o hj => by omega) hp
  refine ⟨?_, k.nd⟩
  have hlof : ∀ j, Lof (Array.replicate ops.size false) j = false := fun j => by
    simp only [Lof, Array.getD_eq_getD_getElem?, Array.getElem?_replicate]
    split <;> rfl
  refine front_any hT hC k (fun j o hj ho => hf j o hj (by simpa using ho)) (by simpa using hnt) (fun i o d hi ho hc hdd => ?_) hse hk (I := I) (X := X) (β := β) (σ := σ) (w := w) hQ
    ops.size _ a _ I β σ1 (fun _ => 0) (by simp) (fun j _ => hlof j) (cntF_le _ _) (fun i o ho hl => by rw [hlof i] at hl; cases hl) ?_
  · refine creators_mem (List.mem_of_getElem? (i := i) ?_) hc hdd
    rw [List.getElem?_take, if_pos hi]; simpa using ho
  · refine ⟨?_, ⟨rfl, rfl, rfl, Nat.le_refl _, fun _ _ => rfl, fun _ _ h => h, fun _ _ => rfl, fun _ _ h _ => h⟩, ⟨fun _ => rfl, hab⟩, r.mem.xb, fun i o d _ _ _ _ hl => (by rw [hlof i] at hl; cases hl), fun i j _ _ _ _ hl => (by rw [hlof i] at hl; cases hl)⟩
    refine (r2.congr (S' := some' S0 ops val p (Lof (Array.replicate ops.size false))) (fun t => ?_) rfl rfl).sub fun b hb => ?_
    · simp only [some']
      exact look_tmL_none fun i _ hl => by rw [hlof i] at hl; cases hl
    · rcases hb with hb | ⟨j, _, h2, _⟩
      · exact hb
      · rw [hlof j] at h2; cases h2

end
end Go.Proofs.YtllmejkmogepjaaDoor.Ix
