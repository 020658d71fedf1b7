/-
  Ix21: a region that draws its order: the steps, and the whole.
-/
import Derived.Test.YtllmejkmogepjaaDoorX20
namespace Go.Proofs.YtllmejkmogepjaaDoor.Ix
set_option linter.unusedVariables false
set_option linter.unusedSimpArgs false

section
variable {C : Con} {Γ : Env} {ops : Array Oper} {p : Nat} {S0 : St} {val : Nat → IV} {act : Nat → Bool} {w0 : World} {I0 : Imm} {X : Nat → Prop} {β0 : Beta} {σ0 : Nat → Sig} {ℓ : Nat → Bool} {a : Act} {w : World}
  {I : Imm} {β : Beta} {σ : Nat → Sig} {bl : Nat → Nat} {cr : List Nat}

theorem setF_or {ℓ : Nat → Bool} {i j : Nat} (h : setF ℓ i true j = true) : j = i ∨ ℓ j = true := by
  unfold setF at h
  split at h
  · exact .inl (by assumption)
  · exact .inr h

/-- One that stores in a cell made by the front. -/
theorem Inv.stores (k : DOK ops p) (hdc : DC ops ℓ) {i : Nat} {o : Oper} {t : Nat} {y x : Operand} (ho : ops[i]? = some o) (hi : i < p) (hn : ℓ i = false) (hl : ∀ j, bindOn o j = true → ℓ j = true) (hop : o.op = .store t y x)
    (hs : (Γ.P.info? t).map (·.size) = some (Γ.T t).size) {c : List IV} (hc : cellsI (evo Γ (some' S0 ops val p ℓ) x) = some c) (hcl : c.length = (Γ.T t).size)
    (v : Inv Γ ops p S0 val w0 I0 X β0 σ0 ℓ a w I β σ bl) :
    ∃ w', (Instr.storeAt t (a.eval y) (a.eval x)).run Γ.P w = .ok () w' ∧ Inv Γ ops p S0 val w0 I0 X β0 σ0 (setF ℓ i true) a w' I β σ bl := by
  obtain ⟨d, rfl, hd, hg, j, oj, hj, hoj, hoj1, hoj2, hoj3⟩ := k.st i o t y x ho hi hop
  have hmemd : d ∈ looks ops.toList o := by
    simp only [looks, hop, List.mem_append]
    exact .inl (mem_opTs (x := .tmp d) (by simp [Op.operands]) (by simp [opT]))
  have hlj : ℓ j = true := hl j (k.look i o ho hi d hmemd j (by omega) (by rw [dst_of hoj, hoj2])).2
  obtain ⟨h1, h2, h3, arr, el, h4, h5⟩ := v.blk j oj d (by omega) hoj (.inl ⟨t, hoj1⟩) hoj2 hlj
  have hfree : ∀ (s : Nat) os t' x', s < p → ops[s]? = some os → ℓ s = true → os.op ≠ .store t' (.tmp d) x' := fun s os t' x' hs' hos hls e => by
    have := k.st1 i s o os t t' d x x' hi hs' ho hos hop e
    subst this; rw [hn] at hls; cases hls
  obtain ⟨hsz, _⟩ := h5.fresh t hoj1 hfree
  have hcv := (evo_V v.rel x).cells hc
  have hvs : (a.eval x).cells.size = (Γ.T t).size := by rw [← hcv.1, hcl]
  have hrun := run_storeAt (P := Γ.P) (t := t) (off := 0) hs h4 hvs hcv.2.1 (by simp; omega)
  have hval : a.eval (.tmp d) = .pointer (some ⟨bl j, 0, none⟩) := h2
  have harr : (arr.toList.take 0 ++ (a.eval x).cells.toList ++ arr.toList.drop (0 + (a.eval x).cells.toList.length)).toArray = (a.eval x).cells := by
    have : arr.toList.drop (a.eval x).cells.toList.length = [] := List.drop_eq_nil_of_le (by simp; omega)
    simp only [Nat.zero_add, this]
    simp
  rw [harr] at hrun
  refine ⟨_, by rw [hval]; exact hrun, ?_⟩
  have hXb : X (bl j) ∨ Hid ops p ℓ bl (bl j) := .inr ⟨j, by omega, hlj, ⟨oj, hoj, .inl ⟨t, hoj1⟩⟩, rfl⟩
  have hmi : ¬ MkAt ops i := fun ⟨o', e1, e2⟩ => by
    rw [ho] at e1; cases e1
    rcases e2 with ⟨t', e⟩ | ⟨t', x', e⟩ <;> rw [hop] at e <;> cases e
  have hup : ∀ j, MkAt ops j → setF ℓ i true j = true → ℓ j = true := fun j hm h => by
    rcases setF_or h with e | h
    · subst e; exact absurd hm hmi
    · exact h
  have hnX : ¬ X (bl j) := fun hx => by have := v.x0 _ hx; omega
  have hr : Rel Γ (some' S0 ops val p (setF ℓ i true)) a (w.setRow (bl j) (a.eval x).cells) I (fun b => X b ∨ Hid ops p (setF ℓ i true) bl b) β σ := by
    have r1 := v.rel.lays hXb (fun q => by
      cases hI : I ⟨bl j, q, none⟩ with
      | none => rfl
      | some u => exact (h3 _ u hI rfl).elim) h3 (a.eval x).cells
    refine (r1.congr (S' := some' S0 ops val p (setF ℓ i true)) (fun u => by rw [look_upd k ho hi hn u, hd]; rfl) rfl rfl).sub fun b hb => ?_
    rcases hb with hb | ⟨q, q1, q2, q3, q4⟩
    · exact .inl hb
    · exact .inr ⟨q, q1, hup q q3 q2, q3, q4⟩
  refine ⟨hr, v.ext.trans (.setRow hnX _), v.abv, v.x0, fun q oq dq hq hoq hm hdq hlq => ?_, fun i' j' hi' hj' hm hm' hl1 hl2 hb => v.inj i' j' hi' hj' hm hm' (hup _ hm hl1) (hup _ hm' hl2) hb⟩
  have hlq' := hup q ⟨oq, hoq, hm⟩ hlq
  obtain ⟨g1, g2, g3, arrq, elq, g4, g5⟩ := v.blk q oq dq hq hoq hm hdq hlq'
  by_cases hqj : q = j
  · subst hqj
    rw [hoj] at hoq; cases hoq
    rw [hoj2] at hdq; cases hdq
    refine ⟨g1, g2, g3, (a.eval x).cells, el, setRow_heap w _ _ _ _ _ h4, fun t' e hno => ?_, fun t' e s os t2 x' hs' hos hls hop' => ?_, fun t' x' e => ?_⟩
    · exact absurd hop (hno i o t x hi ho (setF_self _ _ _))
    · have := k.st1 i s o os t t2 d x x' hi hs' ho hos hop hop'
      subst this; rw [ho] at hos; cases hos
      rw [hop] at hop'; cases hop'; rfl
    · rw [hoj1] at e; cases e
  · have hne : bl q ≠ bl j := fun e => hqj (v.inj q j hq (by omega) ⟨oq, hoq, hm⟩ ⟨oj, hoj, .inl ⟨t, hoj1⟩⟩ hlq' hlj e)
    refine ⟨g1, g2, g3, arrq, elq, by rw [setRow_other w _ _ _ hne]; exact g4, g5.keep k hdc hoq hq hlq' ho hi hn (fun t' x' e => ?_) fun _ _ => rfl⟩
    rw [hop] at e; cases e
    exact hqj (k.dst q j d hq (by omega) (by rw [dst_of hoq, hdq]) (by rw [dst_of hoj, hoj2]))

/-- What may come up of the front does what the text says. -/
theorem front_step (hT : TOK Γ.P Γ.T) (hC : HC C Γ) (k : DOK ops p)
    (hf : ∀ (j : Nat) o, j < p → ops[j]? = some o → Fact C Γ ops.toList cr S0 val act j o) (hnt : noTags cr S0) (hcr : ∀ (i : Nat) o d, i < p → ops[i]? = some o → creates o = true → o.dst = some d → d ∈ cr)
    (hdc : DC ops ℓ) {i : Nat} {o : Oper} (ho : ops[i]? = some o) (hi : i < p) (hn : ℓ i = false) (hl : ∀ j, bindOn o j = true → ℓ j = true) (v : Inv Γ ops p S0 val w0 I0 X β0 σ0 ℓ a w I β σ bl)
    (Q : Exit → Act → World → Prop) :
    wpOp Γ.P ops Q i (fun a' w' => ∃ I' β' σ' bl', Inv Γ ops p S0 val w0 I0 X β0 σ0 (setF ℓ i true) a' w' I' β' σ' bl') a w := by
  have F := hf i o hi ho
  have hag : ∀ t ∈ looks ops.toList o, look (some' S0 ops val p ℓ).tm t = look (lex S0 ops.toList val i).tm t := fun t ht => look_agree k hdc ho hi hl ht
  have halike : Alike (opTs o.op.operands.toList) (lex S0 ops.toList val i) (some' S0 ops val p ℓ) := ⟨fun t ht => (hag t (by simp only [looks, List.mem_append]; exact .inl ht)).symm, rfl, rfl⟩
  have hevo : ∀ x, x ∈ o.op.operands.toList → evo Γ (lex S0 ops.toList val i) x = evo Γ (some' S0 ops val p ℓ) x := fun x hx => evo_alikes hx halike
  -- whether it is wanted
  have hw : Region.wanted o (yielded ops a.tmps) = act i := by
    have g := F.guard
    cases hgd : o.guard with
    | none => rw [hgd] at g; simp only at g; rw [g]; simp [Region.wanted, hgd]
    | some jw =>
      obtain ⟨j, want⟩ := jw
      rw [hgd] at g
      obtain ⟨t, hd, hbo⟩ := g
      have hmem : t ∈ looks ops.toList o := by simp only [looks, hgd, hd, List.mem_append]; exact .inr (by simp)
      have hv := v.rel.tm t
      rcases hbo with ⟨b, hb, he⟩ | ⟨hb, he⟩
      · rw [hag t hmem, hb] at hv
        have hy := yielded_of hd hv.bool_inv
        rw [he]
        simp only [Region.wanted, hgd, hy]
        cases want <;> cases b <;> rfl
      · rw [hag t hmem, hb] at hv
        have hy := yielded_und hd hv.und_inv
        rw [he]
        simp only [Region.wanted, hgd, hy]
        cases want <;> rfl
  unfold wpOp
  simp only [ho]
  have hput : ∀ u t, o.dst ≠ some t → (a.put o.dst u).tmps.getD t undef = a.tmps.getD t undef := fun u t ht => by
    cases hd : o.dst with
    | none => rfl
    | some d =>
      have hne : d ≠ t := fun e => ht (by rw [hd, e])
      simp only [Act.put, Array.getD_eq_getD_getElem?]
      rw [Array.getElem?_setIfInBounds_ne hne]
  cases hact : act i with
  | false =>
    rw [hact] at hw
    simp only [hw, Bool.false_eq_true, if_false]
    have hg0 : ¬ (o.guard = none) := fun e => by
      have g := F.guard
      rw [e] at g; simp only at g; rw [hact] at g; cases g
    have hmk : ¬ Mk o := fun e => hg0 (k.made i o ho hi e).2
    have hns : ∀ t y x, o.op ≠ .store t y x := fun t y x e => by obtain ⟨_, _, _, e2, _⟩ := k.st i o t y x ho hi e; exact hg0 e2
    refine ⟨I, β, σ, bl, v.quiet k hdc ho hi hn hmk hns ?_ (.refl _ _ _) (.refl _ _) (hput undef)⟩
    rw [F.off hact]
    cases hd : o.dst with
    | none => exact v.rel
    | some d => exact v.rel.put (F.nt d hd) (.data D.und)
  | true =>
    rw [hact] at hw
    simp only [hw, if_true]
    refine .inl ?_
    by_cases h1 : ∃ t, o.op = .alloc t
    · obtain ⟨t, hop⟩ := h1
      obtain ⟨h0, hv⟩ := F.alloc hact t hop
      obtain ⟨⟨d, hd⟩, _⟩ := k.made i o ho hi (.inl ⟨t, hop⟩)
      obtain ⟨inf, dd, z, tk⟩ := TOK.get hT (t := t) (.inl (by omega))
      obtain ⟨bl', hv'⟩ := v.makes (arr := z.cells) (el := t) k hdc ho hi hn hl (.inl ⟨t, hop⟩) hd (F.nt d hd) hv ⟨fun t' e => (by rw [hop] at e; cases e; exact ⟨tk.zsize, fun I β s => zero_CV tk I β s⟩), fun t' x e => (by rw [hop] at e; cases e)⟩
      refine wp_val (w' := w.alloc (.cells z.cells t)) (v := .pointer (some ⟨w.heap.size, 0, none⟩)) ?_ ⟨I, β, σ, bl', by rw [hd]; exact hv'⟩
      simp [execOp, hop, Instr.alloc, zeroValue, typeInfo, tk.info, tk.zero, newVar, newRow]
    · by_cases h2 : ∃ t x, o.op = .box t x
      · obtain ⟨t, x, hop⟩ := h2
        obtain ⟨⟨c, hc⟩, hv⟩ := F.box hact t x hop
        obtain ⟨⟨d, hd⟩, _⟩ := k.made i o ho hi (.inr ⟨t, x, hop⟩)
        obtain ⟨bl', hv'⟩ := v.makes (arr := (a.eval x).cells) (el := t) k hdc ho hi hn hl (.inr ⟨t, x, hop⟩) hd (F.nt d hd) hv ⟨fun t' e => (by rw [hop] at e; cases e), fun t' x' e => (by rw [hop] at e; cases e; rfl)⟩
        refine wp_val (w' := w.alloc (.cells (a.eval x).cells t)) (v := .pointer (some ⟨w.heap.size, 0, none⟩)) ?_ ⟨I, β, σ, bl', by rw [hd]; exact hv'⟩
        simp [execOp, hop, Instr.box, newVar, newRow]
      · by_cases h3 : ∃ t y x, o.op = .store t y x
        · obtain ⟨t, y, x, hop⟩ := h3
          obtain ⟨h0, c, hc, hcl⟩ := F.store hact t y x hop
          obtain ⟨_, _, hdn, _⟩ := k.st i o t y x ho hi hop
          obtain ⟨inf, dd, z, tk⟩ := TOK.get hT (t := t) (.inl (by omega))
          rw [hevo x (by rw [hop]; simp [Op.operands])] at hc
          obtain ⟨w', hr, hv'⟩ := v.stores k hdc ho hi hn hl hop tk.msize hc hcl
          refine wp_skp (w' := w') ?_ ⟨I, β, σ, bl, by rw [hdn]; exact hv'⟩
          simp [execOp, hop, hr]
        · have hns : ∀ t y x, o.op ≠ .store t y x := fun t y x e => h3 ⟨t, y, x, e⟩
          have hmk : ¬ Mk o := fun e => by
            rcases e with ⟨t, e⟩ | ⟨t, x, e⟩
            · exact h1 ⟨t, e⟩
            · exact h2 ⟨t, x, e⟩
          obtain ⟨hpv, _⟩ := F.other hact (fun t e => h1 ⟨t, e⟩) (fun t x e => h2 ⟨t, x, e⟩) hns
          have hiop : iop C Γ (some' S0 ops val p ℓ) o (fun S' => S' = putS (some' S0 ops val p ℓ) o.dst (val i)) := by
            refine pval_iop (fun d hd hcre => ?_) (pval_alike halike (hpv _ ?_))
            · have hdcr := hcr i o d hi ho hcre hd
              have hdi : dstOf ops.toList i = some d := by rw [dst_of ho, hd]
              refine ⟨tmTag_tmL (hnt d hdcr).1 fun j hj hlj hdj => ?_, (hnt d hdcr).2⟩
              cases ht : hasTag d (val j) with
              | false => rfl
              | true =>
                have := tag_listed k hf hnt hdc hi hdi hdcr (j + 1) j (Nat.lt_succ_self j) hj hlj hdj ht
                rw [hn] at this; cases this
            · show putT Γ (some' S0 ops val p ℓ) o.dst (val i) _
              cases hd : o.dst with
              | none => rfl
              | some d =>
                have hb : Nat.blt d Γ.nt = true := by simp [Nat.blt]; exact F.nt d hd
                simp only [some', putT, hb, putS]
          refine Oper.wp_mono ?_ (Oper.wp_put (iop_all hT hC o hiop v.rel Q))
          rintro a' w' ⟨⟨S', I', β', σ', rfl, hr, he, hab⟩, ha⟩
          exact ⟨I', β', σ', bl, v.quiet k hdc ho hi hn hmk hns hr he hab ha⟩

/-! ### Behind the front -/

theorem storeTo_some {l : List Oper} {d : Nat} {x : Operand} (h : storeTo l d = some x) : ∃ (s : Nat) (os : Oper) (t : Nat), l[s]? = some os ∧ os.op = .store t (.tmp d) x := by
  induction l with
  | nil => cases h
  | cons o r ih =>
    unfold storeTo at h
    split at h
    · rename_i t d' x' hop
      split at h
      · rename_i hb
        have := (beq_iff _ _).1 hb
        subst this
        cases h
        exact ⟨0, o, t, rfl, hop⟩
      · obtain ⟨s, os, t, h1, h2⟩ := ih h; exact ⟨s + 1, os, t, by simpa using h1, h2⟩
    · obtain ⟨s, os, t, h1, h2⟩ := ih h; exact ⟨s + 1, os, t, by simpa using h1, h2⟩

theorem storeTo_none {l : List Oper} {d : Nat} (h : storeTo l d = none) : ∀ (s : Nat) (os : Oper) (t : Nat) x, l[s]? = some os → os.op ≠ .store t (.tmp d) x := by
  induction l with
  | nil => intro s os t x h; simp at h
  | cons o r ih =>
    intro s os t x hs hop
    unfold storeTo at h
    cases s with
    | zero =>
      simp at hs; subst hs
      rw [hop] at h
      simp only at h
      have : Nat.beq d d = true := Nat.beq_refl d
      rw [this] at h; cases h
    | succ s =>
      split at h
      · split at h
        · cases h
        · exact ih h s os t x (by simpa using hs) hop
      · exact ih h s os t x (by simpa using hs) hop

theorem take_get {l : List Oper} {p s : Nat} {o : Oper} (h : (l.take p)[s]? = some o) : s < p ∧ l[s]? = some o := by
  rw [List.getElem?_take] at h
  split at h
  · exact ⟨by assumption, h⟩
  · cases h

/-- The cells of the front, told one after another. -/
theorem adopt_all (hT : TOK Γ.P Γ.T) (k : DOK ops p) {K : St → Prop} (v : Inv Γ ops p S0 val w0 I0 X β0 σ0 ℓ a w I β σ bl) (hall : ∀ i, i < p → ℓ i = true) :
    ∀ (rest : List Oper) (i : Nat) (S : St) (β' : Beta), (∀ j, rest[j]? = (ops.toList.take p)[i + j]?) → Above β β' σ σ →
      Rel Γ S a w I (fun b => X b ∨ ∃ j, i ≤ j ∧ j < p ∧ MkAt ops j ∧ bl j = b) β' σ → adopt Γ (ops.toList.take p) rest K S →
      ∃ S' β'', K S' ∧ Rel Γ S' a w I X β'' σ ∧ Above β β'' σ σ
  | [], i, S, β', hr, hab, r, h => ⟨S, β', h, r.sub fun b hb => .inl hb, hab⟩
  | o :: rest, i, S, β', hr, hab, r, h => by
    have ho0 : (ops.toList.take p)[i]? = some o := by have := hr 0; simpa using this.symm
    obtain ⟨hi, ho1⟩ := take_get ho0
    have ho : ops[i]? = some o := by simpa using ho1
    have hr' : ∀ j, rest[j]? = (ops.toList.take p)[i + 1 + j]? := fun j => by
      have := hr (j + 1)
      simp only [List.getElem?_cons_succ] at this
      rw [this]; congr 1; omega
    have one : ∀ d x0 t0 (c : List IV), Mk o → o.dst = some d → content Γ S t0 x0 (fun c => newC Γ S d c (adopt Γ (ops.toList.take p) rest K)) →
        (∀ arr, Cont Γ ops p ℓ o d arr a → ∀ K' : List IV → Prop, content Γ S t0 x0 K' → ∃ c, K' c ∧ CV I β' (σ 0) c arr) → c = c →
        ∃ S' β'', K S' ∧ Rel Γ S' a w I X β'' σ ∧ Above β β'' σ σ := fun d x0 t0 _ hmk hd h hcon _ => by
      obtain ⟨h1, h2, h3, arr, el, h4, h5⟩ := v.blk i o d hi ho hmk hd (hall i hi)
      obtain ⟨c, hk, hcv⟩ := hcon arr h5 _ h
      obtain ⟨S', β2, g1, g2, g3⟩ := adopt_sound (b := bl i) (el := el) (X := fun b => X b ∨ ∃ j, i + 1 ≤ j ∧ j < p ∧ MkAt ops j ∧ bl j = b) hk r (.inr ⟨i, Nat.le_refl _, hi, ⟨o, ho, hmk⟩, rfl⟩)
        (fun b hb => by rcases hb with hb | ⟨j, e1, e2⟩; · exact .inl hb
                        · exact .inr ⟨j, by omega, e2⟩)
        (fun hb => by
          rcases hb with hb | ⟨j, e1, e2, e3, e4⟩
          · have := v.x0 _ hb; omega
          · have := v.inj j i e2 hi e3 ⟨o, ho, hmk⟩ (hall j e2) (hall i hi) e4; omega)
        h4 (fun j => by
          cases hI : I ⟨bl i, j, none⟩ with
          | none => rfl
          | some u => exact (h3 _ u hI rfl).elim) h2 hcv
      exact adopt_all hT k v hall rest (i + 1) S' β2 hr' (hab.trans g3) g2 g1
    unfold adopt at h
    split at h
    · rename_i t d hop hd
      refine one d _ t [] (.inl ⟨t, hop⟩) hd h (fun arr hc K' hk => ?_) rfl
      unfold content at hk
      cases hst : storeTo (ops.toList.take p) d with
      | none =>
        rw [hst] at hk
        obtain ⟨h0, hk⟩ := tyK_spec hk
        rw [fvL_eq] at hk
        exact ⟨_, hk, (hc.fresh t hop fun s os t' x hs hos _ => storeTo_none hst s os t' x (by rw [List.getElem?_take, if_pos hs]; simpa using hos)).2 I β' (σ 0)⟩
      | some x =>
        rw [hst] at hk
        simp only [ev_eq] at hk
        split at hk
        · rename_i c hcx
          obtain ⟨s, os, t', hs, hops⟩ := storeTo_some hst
          obtain ⟨hs1, hs2⟩ := take_get hs
          rw [hc.laid t hop s os t' x hs1 (by simpa using hs2) (hall s hs1) hops]
          exact ⟨c, hk, (evo_V r x).cells hcx⟩
        · exact hk.elim
    · rename_i t x d hop hd
      refine one d _ 0 [] (.inr ⟨t, x, hop⟩) hd h (fun arr hc K' hk => ?_) rfl
      unfold content at hk
      simp only [ev_eq] at hk
      split at hk
      · rename_i c hcx
        rw [hc.box t x hop]
        exact ⟨c, hk, (evo_V r x).cells hcx⟩
      · exact hk.elim
    · rename_i n1 n2
      have hnm : ¬ MkAt ops i := fun ⟨o', e1, e2⟩ => by
        rw [ho] at e1; cases e1
        obtain ⟨⟨d, hd⟩, _⟩ := k.made i o ho hi e2
        rcases e2 with ⟨t, e⟩ | ⟨t, x, e⟩
        · exact n1 t d e hd
        · exact n2 t x d e hd
      refine adopt_all hT k v hall rest (i + 1) S β' hr' hab (r.sub fun b hb => ?_) h
      rcases hb with hb | ⟨j, e1, e2⟩
      · exact .inl hb
      · exact .inr ⟨j, by omega, e2⟩

end
end Go.Proofs.YtllmejkmogepjaaDoor.Ix
