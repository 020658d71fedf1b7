/-
  Ix21: a region that draws its order: the steps, and the whole.
-/
import Derived.Test.YtllmejkmogepjaaGreatDoorM2
import Derived.OrdersHeld
import Derived.OrdersIn
import Derived.RangeFuncIn
import Derived.RangeFuncLeaves
import Derived.RangeFuncSeq
import Derived.Laws.StructEq
import Derived.ChangeKeysEq
namespace Go.Proofs.YtllmejkmogepjaaGreatDoor.Ix
set_option linter.unusedVariables false
set_option linter.unusedSimpArgs false

section
variable {C : Con} {Γ : Env} {fl : Option (List Nat)} {ops : Array Oper} {p : Nat} {S0 : St} {val : Nat → IV} {act : Nat → Bool} {w0 : World} {I0 : Imm} {X : Nat → Prop} {β0 : Beta} {σ0 : Nat → Sig} {ℓ : Nat → Bool} {a : Act} {w : World}
  {I : Imm} {β : Beta} {σ : Nat → Sig} {bl : Nat → Nat} {cr : List Nat}

theorem setF_or {ℓ : Nat → Bool} {i j : Nat} (h : setF ℓ i true j = true) : j = i ∨ ℓ j = true := by
  unfold setF at h
  split at h
  · exact .inl (by assumption)
  · exact .inr h

/-- One that stores in a cell made by the front. -/
theorem Inv.stores (k : DOK ops p fl) (hdc : DC ops ℓ) {i : Nat} {o : Oper} {t : Nat} {y x : Operand} (ho : ops[i]? = some o) (hi : i < p) (hn : ℓ i = false) (hl : ∀ j, bindOn o j = true → ℓ j = true) (hop : o.op = .store t y x)
    (hs : (Γ.P.info? t).map (·.size) = some (Γ.T t).size) {c : List IV} (hc : cellsI (evo Γ (some' S0 ops val p ℓ) x) = some c) (hcl : c.length = (Γ.T t).size)
    (v : Inv Γ ops p S0 val w0 I0 X β0 σ0 ℓ a w I β σ bl) :
    ∃ w', (Instr.storeAt t (a.eval y) (a.eval x)).run Γ.P w = .ok () w' ∧ Inv Γ ops p S0 val w0 I0 X β0 σ0 (setF ℓ i true) a w' I β σ bl := by
  obtain ⟨d, rfl, hd, hg, j, oj, hj, hoj, hoj1, hoj2, hoj3⟩ := k.st i o t y x ho hi hop
  have hmemd : d ∈ looks ops.toList o := by
    simp only [looks, hop, List.mem_append]
    exact .inl (mem_opTs (x := .tmp d) (by simp [Op.operands]) (by simp [opT]))
  have hlj : ℓ j = true := hl j (k.look i o ho hi d hmemd j (by omega) (by rw [dst_of hoj, hoj2])).2
  obtain ⟨h1, h2, h3, arr, el, h4, h5⟩ := v.blk j oj d (by omega) hoj (.inl ⟨t, hoj1⟩) hoj2 hlj
  have hfree : ∀ (s : Nat) os t' x', s < p → ops[s]? = some os → ℓ s = true → os.op ≠ .store t' (.tmp d) x' := fun s os t' x' hs' hos hls e => by
    have := k.st1 i s o os t t' d x x' hi hs' ho hos hop e
    subst this; rw [hn] at hls; cases hls
  obtain ⟨hsz, _⟩ := h5.fresh t hoj1 hfree
  have hcv := (evo_V v.rel x).cells hc
  have hvs : (a.eval x).cells.size = (Γ.T t).size := by rw [← hcv.1, hcl]
  have hrun := run_storeAt (P := Γ.P) (t := t) (off := 0) hs h4 hvs hcv.2.1 (by simp; omega)
  have hval : a.eval (.tmp d) = .pointer (some ⟨bl j, 0, none⟩) := h2
  have harr : (arr.toList.take 0 ++ (a.eval x).cells.toList ++ arr.toList.drop (0 + (a.eval x).cells.toList.length)).toArray = (a.eval x).cells := by
    have : arr.toList.drop (a.eval x).cells.toList.length = [] := List.drop_eq_nil_of_le (by simp; omega)
    simp only [Nat.zero_add, this]
    simp
  rw [harr] at hrun
  refine ⟨_, by rw [hval]; exact hrun, ?_⟩
  have hXb : X (bl j) ∨ Hid ops p ℓ bl (bl j) := .inr ⟨j, by omega, hlj, ⟨oj, hoj, .inl ⟨t, hoj1⟩⟩, rfl⟩
  have hmi : ¬ MkAt ops i := fun ⟨o', e1, e2⟩ => by
    rw [ho] at e1; cases e1
    rcases e2 with ⟨t', e⟩ | ⟨t', x', e⟩ <;> rw [hop] at e <;> cases e
  have hup : ∀ j, MkAt ops j → setF ℓ i true j = true → ℓ j = true := fun j hm h => by
    rcases setF_or h with e | h
    · subst e; exact absurd hm hmi
    · exact h
  have hnX : ¬ X (bl j) := fun hx => by have := v.x0 _ hx; omega
  have hr : Rel Γ (some' S0 ops val p (setF ℓ i true)) a (w.setRow (bl j) (a.eval x).cells) I (fun b => X b ∨ Hid ops p (setF ℓ i true) bl b) β σ := by
    have r1 := v.rel.lays hXb (fun q => by
      cases hI : I ⟨bl j, q, none⟩ with
      | none => rfl
      | some u => exact (h3 _ u hI rfl).elim) h3 (a.eval x).cells
    refine (r1.congr (S' := some' S0 ops val p (setF ℓ i true)) (fun u => by rw [look_upd k ho hi hn u, hd]; rfl) rfl rfl).sub fun b hb => ?_
    rcases hb with hb | ⟨q, q1, q2, q3, q4⟩
    · exact .inl hb
    · exact .inr ⟨q, q1, hup q q3 q2, q3, q4⟩
  refine ⟨hr, v.ext.trans (.setRow hnX _), v.abv, v.x0, fun q oq dq hq hoq hm hdq hlq => ?_, fun i' j' hi' hj' hm hm' hl1 hl2 hb => v.inj i' j' hi' hj' hm hm' (hup _ hm hl1) (hup _ hm' hl2) hb⟩
  have hlq' := hup q ⟨oq, hoq, hm⟩ hlq
  obtain ⟨g1, g2, g3, arrq, elq, g4, g5⟩ := v.blk q oq dq hq hoq hm hdq hlq'
  by_cases hqj : q = j
  · subst hqj
    rw [hoj] at hoq; cases hoq
    rw [hoj2] at hdq; cases hdq
    refine ⟨g1, g2, g3, (a.eval x).cells, el, setRow_heap w _ _ _ _ _ h4, fun t' e hno => ?_, fun t' e s os t2 x' hs' hos hls hop' => ?_, fun t' x' e => ?_⟩
    · exact absurd hop (hno i o t x hi ho (setF_self _ _ _))
    · have := k.st1 i s o os t t2 d x x' hi hs' ho hos hop hop'
      subst this; rw [ho] at hos; cases hos
      rw [hop] at hop'; cases hop'; rfl
    · rw [hoj1] at e; cases e
  · have hne : bl q ≠ bl j := fun e => hqj (v.inj q j hq (by omega) ⟨oq, hoq, hm⟩ ⟨oj, hoj, .inl ⟨t, hoj1⟩⟩ hlq' hlj e)
    refine ⟨g1, g2, g3, arrq, elq, by rw [setRow_other w _ _ _ hne]; exact g4, g5.keep k hdc hoq hq hlq' ho hi hn (fun t' x' e => ?_) fun _ _ => rfl⟩
    rw [hop] at e; cases e
    exact hqj (k.dst q j d hq (by omega) (by rw [dst_of hoq, hdq]) (by rw [dst_of hoj, hoj2]))

/-- What may come up of the front does what the text says. -/
theorem front_step (hT : TOK Γ.P Γ.T) (hC : HC C Γ) (k : DOK ops p fl)
    (hf : ∀ (j : Nat) o, j < p → ops[j]? = some o → Fact C Γ ops.toList cr S0 val act j o) (hnt : noTags cr S0) (hcr : ∀ (i : Nat) o d, i < p → ops[i]? = some o → creates o = true → o.dst = some d → d ∈ cr)
    (hdc : DC ops ℓ) {i : Nat} {o : Oper} (ho : ops[i]? = some o) (hi : i < p) (hn : ℓ i = false) (hl : ∀ j, bindOn o j = true → ℓ j = true) (v : Inv Γ ops p S0 val w0 I0 X β0 σ0 ℓ a w I β σ bl)
    (Q : Exit → Act → World → Prop) :
    wpOp Γ.P ops Q i (fun a' w' => ∃ I' β' σ' bl', Inv Γ ops p S0 val w0 I0 X β0 σ0 (setF ℓ i true) a' w' I' β' σ' bl') a w := by
  have F := hf i o hi ho
  have hag : ∀ t ∈ looks ops.toList o, look (some' S0 ops val p ℓ).tm t = look (lex S0 ops.toList val i).tm t := fun t ht => look_agree k hdc ho hi hl ht
  have halike : Alike (opTs o.op.operands.toList) (lex S0 ops.toList val i) (some' S0 ops val p ℓ) := ⟨fun t ht => (hag t (by simp only [looks, List.mem_append]; exact .inl ht)).symm, rfl, rfl⟩
  have hevo : ∀ x, x ∈ o.op.operands.toList → evo Γ (lex S0 ops.toList val i) x = evo Γ (some' S0 ops val p ℓ) x := fun x hx => evo_alikes hx halike
  -- whether it is wanted
  have hw : Region.wanted o (yielded ops a.tmps) = act i := by
    have g := F.guard
    cases hgd : o.guard with
    | none => rw [hgd] at g; simp only at g; rw [g]; simp [Region.wanted, hgd]
    | some jw =>
      obtain ⟨j, want⟩ := jw
      rw [hgd] at g
      obtain ⟨t, hd, hbo⟩ := g
      have hmem : t ∈ looks ops.toList o := by simp only [looks, hgd, hd, List.mem_append]; exact .inr (by simp)
      have hv := v.rel.tm t
      rcases hbo with ⟨b, hb, he⟩ | ⟨hb, he⟩
      · rw [hag t hmem, hb] at hv
        have hy := yielded_of hd hv.bool_inv
        rw [he]
        simp only [Region.wanted, hgd, hy]
        cases want <;> cases b <;> rfl
      · rw [hag t hmem, hb] at hv
        have hy := yielded_und hd hv.und_inv
        rw [he]
        simp only [Region.wanted, hgd, hy]
        cases want <;> rfl
  unfold wpOp
  simp only [ho]
  have hput : ∀ u t, o.dst ≠ some t → (a.put o.dst u).tmps.getD t undef = a.tmps.getD t undef := fun u t ht => by
    cases hd : o.dst with
    | none => rfl
    | some d =>
      have hne : d ≠ t := fun e => ht (by rw [hd, e])
      simp only [Act.put, Array.getD_eq_getD_getElem?]
      rw [Array.getElem?_setIfInBounds_ne hne]
  cases hact : act i with
  | false =>
    rw [hact] at hw
    simp only [hw, Bool.false_eq_true, if_false]
    have hg0 : ¬ (o.guard = none) := fun e => by
      have g := F.guard
      rw [e] at g; simp only at g; rw [hact] at g; cases g
    have hmk : ¬ Mk o := fun e => hg0 (k.made i o ho hi e).2
    have hns : ∀ t y x, o.op ≠ .store t y x := fun t y x e => by obtain ⟨_, _, _, e2, _⟩ := k.st i o t y x ho hi e; exact hg0 e2
    refine ⟨I, β, σ, bl, v.quiet k hdc ho hi hn hmk hns ?_ (.refl _ _ _) (.refl _ _) (hput undef)⟩
    rw [F.off hact]
    cases hd : o.dst with
    | none => exact v.rel
    | some d => exact v.rel.put (F.nt d hd) (.data D.und)
  | true =>
    rw [hact] at hw
    simp only [hw, if_true]
    refine .inl ?_
    by_cases h1 : ∃ t, o.op = .alloc t
    · obtain ⟨t, hop⟩ := h1
      obtain ⟨h0, hv⟩ := F.alloc hact t hop
      obtain ⟨⟨d, hd⟩, _⟩ := k.made i o ho hi (.inl ⟨t, hop⟩)
      obtain ⟨inf, dd, z, tk⟩ := TOK.get hT (t := t) (.inl (by omega))
      obtain ⟨bl', hv'⟩ := v.makes (arr := z.cells) (el := t) k hdc ho hi hn hl (.inl ⟨t, hop⟩) hd (F.nt d hd) hv ⟨fun t' e => (by rw [hop] at e; cases e; exact ⟨tk.zsize, fun I β s => zero_CV tk I β s⟩), fun t' x e => (by rw [hop] at e; cases e)⟩
      refine wp_val (w' := w.alloc (.cells z.cells t)) (v := .pointer (some ⟨w.heap.size, 0, none⟩)) ?_ ⟨I, β, σ, bl', by rw [hd]; exact hv'⟩
      simp [execOp, hop, Instr.alloc, zeroValue, typeInfo, tk.info, tk.zero, newVar, newRow]
    · by_cases h2 : ∃ t x, o.op = .box t x
      · obtain ⟨t, x, hop⟩ := h2
        obtain ⟨⟨c, hc⟩, hv⟩ := F.box hact t x hop
        obtain ⟨⟨d, hd⟩, _⟩ := k.made i o ho hi (.inr ⟨t, x, hop⟩)
        obtain ⟨bl', hv'⟩ := v.makes (arr := (a.eval x).cells) (el := t) k hdc ho hi hn hl (.inr ⟨t, x, hop⟩) hd (F.nt d hd) hv ⟨fun t' e => (by rw [hop] at e; cases e), fun t' x' e => (by rw [hop] at e; cases e; rfl)⟩
        refine wp_val (w' := w.alloc (.cells (a.eval x).cells t)) (v := .pointer (some ⟨w.heap.size, 0, none⟩)) ?_ ⟨I, β, σ, bl', by rw [hd]; exact hv'⟩
        simp [execOp, hop, Instr.box, newVar, newRow]
      · by_cases h3 : ∃ t y x, o.op = .store t y x
        · obtain ⟨t, y, x, hop⟩ := h3
          obtain ⟨h0, c, hc, hcl⟩ := F.store hact t y x hop
          obtain ⟨_, _, hdn, _⟩ := k.st i o t y x ho hi hop
          obtain ⟨inf, dd, z, tk⟩ := TOK.get hT (t := t) (.inl (by omega))
          rw [hevo x (by rw [hop]; simp [Op.operands])] at hc
          obtain ⟨w', hr, hv'⟩ := v.stores k hdc ho hi hn hl hop tk.msize hc hcl
          refine wp_skp (w' := w') ?_ ⟨I, β, σ, bl, by rw [hdn]; exact hv'⟩
          simp [execOp, hop, hr]
        · have hns : ∀ t y x, o.op ≠ .store t y x := fun t y x e => h3 ⟨t, y, x, e⟩
          have hmk : ¬ Mk o := fun e => by
            rcases e with ⟨t, e⟩ | ⟨t, x, e⟩
            · exact h1 ⟨t, e⟩
            · exact h2 ⟨t, x, e⟩
          obtain ⟨hpv, _⟩ := F.other hact (fun t e => h1 ⟨t, e⟩) (fun t x e => h2 ⟨t, x, e⟩) hns
          have hiop : iop C Γ (some' S0 ops val p ℓ) o (fun S' => S' = putS (some' S0 ops val p ℓ) o.dst (val i)) := by
            refine pval_iop (fun d hd hcre => ?_) (pval_alike halike (hpv _ ?_))
            · have hdcr := hcr i o d hi ho hcre hd
              have hdi : dstOf ops.toList i = some d := by rw [dst_of ho, hd]
              refine ⟨tmTag_tmL (hnt d hdcr).1 fun j hj hlj hdj => ?_, (hnt d hdcr).2⟩
              cases ht : hasTag d (val j) with
              | false => rfl
              | true =>
                have := tag_listed k hf hnt hdc hi hdi hdcr (j + 1) j (Nat.lt_succ_self j) hj hlj hdj ht
                rw [hn] at this; cases this
            · show putT Γ (some' S0 ops val p ℓ) o.dst (val i) _
              cases hd : o.dst with
              | none => rfl
              | some d =>
                have hb : Nat.blt d Γ.nt = true := by simp [Nat.blt]; exact F.nt d hd
                simp only [some', putT, hb, putS]
          refine Oper.wp_mono ?_ (Oper.wp_put (iop_all hT hC o hiop v.rel Q))
          rintro a' w' ⟨⟨S', I', β', σ', rfl, hr, he, hab⟩, ha⟩
          exact ⟨I', β', σ', bl, v.quiet k hdc ho hi hn hmk hns hr he hab ha⟩

theorem float_yields {S : St} {o : Oper} {v : IV} {β' : Beta} {σ' : Nat → Sig} {Y : Nat → Prop} (hp : pureO o = true) (h : ∀ K : IV → Prop, K v → pval C Γ S o K) (r : Rel Γ S a w I Y β' σ') : ∃ u, V I β' (σ' 0) v u ∧ ∀ w', (execOp a.eval o).run Γ.P w' = .ok (.value u) w' := by
  have h1 := h (fun x => x = v) rfl
  unfold pureO at hp
  unfold pval at h1
  split at hp
  · rename_i t ix hop
    simp only [hop, ival, fv_eq] at h1
    split at h1
    · rename_i xs hx
      rw [nthI_eq] at h1
      split at h1
      · rename_i y hy
        have hvx := evo_V r t
        rw [hx] at hvx
        obtain ⟨vs, hvs, hl, hV⟩ := hvx.tup_inv
        have hlt : ix < vs.size := by rw [← hl]; exact (List.getElem?_eq_some_iff.1 hy).1
        exact ⟨vs.getD ix undef, h1 ▸ hV ix y hy, fun w' => by simp [execOp, hop, Instr.extract, hvs, hlt]⟩
      · exact h1.elim
    · exact h1.elim
  · rename_i x hop
    simp only [hop, ival, ev_eq] at h1
    exact ⟨a.eval x, h1 ▸ evo_V r x, fun w' => by simp [execOp, hop]⟩
  · rename_i c hop
    simp only [hop] at h1
    unfold pcall at h1
    split at hp
    · rename_i hc
      simp only [hc, fvL_eq, evoL_eq] at h1
      have hrun : ∀ {u : Value} {w' w2 : World}, (builtin .min c.argTypes o.type (c.args.map fun | .const _ => true | _ => false) (c.args.map a.eval)).run Γ.P w' = .ok (.value u) w2 → (execOp a.eval o).run Γ.P w' = .ok (.value u) w2 := by
        intro u w' w2 h
        simp only [execOp, hop, resolve, hc, Sem.run_bind, Sem.run_pure, Result.andThen_ok, invoke]
        exact h
      cases hl : c.args.toList with
      | nil => simp [hl] at h1
      | cons p l => cases l with
        | nil => simp [hl] at h1
        | cons q l =>
          simp only [hl, List.map_cons] at h1
          have hargs : c.args = (p :: q :: l).toArray := by rw [← Array.toArray_toList (xs := c.args), hl]
          have hvp := evo_V r p
          have hvq := evo_V r q
          generalize hx : evo Γ S p = x at h1 hvp
          generalize hy : evo Γ S q = y at h1 hvq
          have h1 : minI x y fun v' => minL v' (l.map (evo Γ S)) fun x => x = v := h1
          unfold minI at h1
          split at h1
          · rename_i k m k' m' _hz
            have key : ∀ w', ∃ n, v = .int k n ∧ (execOp a.eval o).run Γ.P w' = .ok (.value (.int k n)) w' := fun w' => by
              obtain ⟨n, hn, hr⟩ := minL_run (P := Γ.P) (I := I) (β := β') (σ := σ' 0) w' (l.map (evo Γ S)) (l.map a.eval) k _ h1 (by simp) (fun j x hx => by
                rw [List.getElem?_map, Option.map_eq_some_iff] at hx
                obtain ⟨y, hy, rfl⟩ := hx
                have := evo_V r y
                exact ⟨_, by rw [List.getElem?_map, hy]; rfl, this⟩)
              exact ⟨n, hn.symm, hrun (by simp [builtin, Builtin.min_, hargs, hvp.int_inv, hvq.int_inv, Builtin.min2]; rw [hr]; rfl)⟩
            obtain ⟨n, hn, _⟩ := key w
            exact ⟨.int k n, hn ▸ .data (.int _ _), fun w' => by
              obtain ⟨n', hn', hr⟩ := key w'
              rw [hn] at hn'
              cases hn'
              exact hr⟩
          · exact h1.elim
    · rename_i hc
      simp only [hc, fvL_eq, evoL_eq] at h1
      have hrun : ∀ {u : Value} {w' w2 : World}, (builtin .max c.argTypes o.type (c.args.map fun | .const _ => true | _ => false) (c.args.map a.eval)).run Γ.P w' = .ok (.value u) w2 → (execOp a.eval o).run Γ.P w' = .ok (.value u) w2 := by
        intro u w' w2 h
        simp only [execOp, hop, resolve, hc, Sem.run_bind, Sem.run_pure, Result.andThen_ok, invoke]
        exact h
      cases hl : c.args.toList with
      | nil => simp [hl] at h1
      | cons p l => cases l with
        | nil => simp [hl] at h1
        | cons q l =>
          simp only [hl, List.map_cons] at h1
          have hargs : c.args = (p :: q :: l).toArray := by rw [← Array.toArray_toList (xs := c.args), hl]
          have hvp := evo_V r p
          have hvq := evo_V r q
          generalize hx : evo Γ S p = x at h1 hvp
          generalize hy : evo Γ S q = y at h1 hvq
          have h1 : maxI x y fun v' => maxL v' (l.map (evo Γ S)) fun x => x = v := h1
          unfold maxI at h1
          split at h1
          · rename_i k m k' m' _hz
            have key : ∀ w', ∃ n, v = .int k n ∧ (execOp a.eval o).run Γ.P w' = .ok (.value (.int k n)) w' := fun w' => by
              obtain ⟨n, hn, hr⟩ := maxL_run (P := Γ.P) (I := I) (β := β') (σ := σ' 0) w' (l.map (evo Γ S)) (l.map a.eval) k _ h1 (by simp) (fun j x hx => by
                rw [List.getElem?_map, Option.map_eq_some_iff] at hx
                obtain ⟨y, hy, rfl⟩ := hx
                have := evo_V r y
                exact ⟨_, by rw [List.getElem?_map, hy]; rfl, this⟩)
              exact ⟨n, hn.symm, hrun (by simp [builtin, Builtin.max_, hargs, hvp.int_inv, hvq.int_inv, Builtin.max2]; simp only [gt_iff_lt] at hr; rw [hr]; rfl)⟩
            obtain ⟨n, hn, _⟩ := key w
            exact ⟨.int k n, hn ▸ .data (.int _ _), fun w' => by
              obtain ⟨n', hn', hr⟩ := key w'
              rw [hn] at hn'
              cases hn'
              exact hr⟩
          · exact h1.elim
    · cases hp
  · cases hp

/-- An operation that floats: the same in all worlds. -/
theorem float_step (hT : TOK Γ.P Γ.T) (hC : HC C Γ) (k : DOK ops p fl)
    (hf : ∀ (j : Nat) o, j < p → ops[j]? = some o → Fact C Γ ops.toList cr S0 val act j o) (hnt : noTags cr S0) (hcr : ∀ (i : Nat) o d, i < p → ops[i]? = some o → creates o = true → o.dst = some d → d ∈ cr)
    (hdc : DC ops ℓ) {i : Nat} {o : Oper} (ho : ops[i]? = some o) (hi : i < p) (hn : ℓ i = false) (hl : ∀ j, bindOn o j = true → ℓ j = true) (v : Inv Γ ops p S0 val w0 I0 X β0 σ0 ℓ a w I β σ bl)
    (hp : pureO o = true) (hg : o.guard = none) :
    ∃ u, (∀ w', (execOp a.eval o).run Γ.P w' = .ok (.value u) w') ∧ ∃ I' β' σ' bl', Inv Γ ops p S0 val w0 I0 X β0 σ0 (setF ℓ i true) (a.put o.dst u) w I' β' σ' bl' := by
  have F := hf i o hi ho
  have hact : act i = true := by have g := F.guard; rw [hg] at g; exact g
  have hag : ∀ t ∈ looks ops.toList o, look (some' S0 ops val p ℓ).tm t = look (lex S0 ops.toList val i).tm t := fun t ht => look_agree k hdc ho hi hl ht
  have halike : Alike (opTs o.op.operands.toList) (lex S0 ops.toList val i) (some' S0 ops val p ℓ) := ⟨fun t ht => (hag t (by simp only [looks, List.mem_append]; exact .inl ht)).symm, rfl, rfl⟩
  have h1 : ∀ t, o.op ≠ .alloc t := fun t e => by simp [pureO, e] at hp
  have h2 : ∀ t x, o.op ≠ .box t x := fun t x e => by simp [pureO, e] at hp
  have h3 : ∀ t y x, o.op ≠ .store t y x := fun t y x e => by simp [pureO, e] at hp
  obtain ⟨hpv, _⟩ := F.other hact h1 h2 h3
  obtain ⟨u, _, hu⟩ := float_yields hp (fun K hk => pval_alike halike (hpv K hk)) v.rel
  have st := front_step hT hC k hf hnt hcr hdc ho hi hn hl v (fun _ _ _ => False)
  unfold wpOp at st
  simp only [ho] at st
  have hw : Region.wanted o (yielded ops a.tmps) = true := by simp [Region.wanted, hg]
  rw [if_pos hw] at st
  rcases st with st | ⟨_, h⟩
  · unfold Oper.wp at st
    rw [hu w, Oper.upon_value] at st
    exact ⟨u, hu, st⟩
  · obtain ⟨_, _, h⟩ := h
    exact h.elim

/-! ### Behind the front -/

theorem storeTo_some {l : List Oper} {d : Nat} {x : Operand} (h : storeTo l d = some x) : ∃ (s : Nat) (os : Oper) (t : Nat), l[s]? = some os ∧ os.op = .store t (.tmp d) x := by
  induction l with
  | nil => cases h
  | cons o r ih =>
    unfold storeTo at h
    split at h
    · rename_i t d' x' hop
      split at h
      · rename_i hb
        have := (beq_iff _ _).1 hb
        subst this
        cases h
        exact ⟨0, o, t, rfl, hop⟩
      · obtain ⟨s, os, t, h1, h2⟩ := ih h; exact ⟨s + 1, os, t, by simpa using h1, h2⟩
    · obtain ⟨s, os, t, h1, h2⟩ := ih h; exact ⟨s + 1, os, t, by simpa using h1, h2⟩

theorem storeTo_none {l : List Oper} {d : Nat} (h : storeTo l d = none) : ∀ (s : Nat) (os : Oper) (t : Nat) x, l[s]? = some os → os.op ≠ .store t (.tmp d) x := by
  induction l with
  | nil => intro s os t x h; simp at h
  | cons o r ih =>
    intro s os t x hs hop
    unfold storeTo at h
    cases s with
    | zero =>
      simp at hs; subst hs
      rw [hop] at h
      simp only at h
      have : Nat.beq d d = true := Nat.beq_refl d
      rw [this] at h; cases h
    | succ s =>
      split at h
      · split at h
        · cases h
        · exact ih h s os t x (by simpa using hs) hop
      · exact ih h s os t x (by simpa using hs) hop

theorem take_get {l : List Oper} {p s : Nat} {o : Oper} (h : (l.take p)[s]? = some o) : s < p ∧ l[s]? = some o := by
  rw [List.getElem?_take] at h
  split at h
  · exact ⟨by assumption, h⟩
  · cases h

/-- The cells of the front, told one after another. -/
theorem adopt_all (hT : TOK Γ.P Γ.T) (k : DOK ops p fl) {K : St → Prop} (v : Inv Γ ops p S0 val w0 I0 X β0 σ0 ℓ a w I β σ bl) (hall : ∀ i, i < p → ℓ i = true) :
    ∀ (rest : List Oper) (i : Nat) (S : St) (β' : Beta), (∀ j, rest[j]? = (ops.toList.take p)[i + j]?) → Above β β' σ σ →
      Rel Γ S a w I (fun b => X b ∨ ∃ j, i ≤ j ∧ j < p ∧ MkAt ops j ∧ bl j = b) β' σ → adopt Γ (ops.toList.take p) rest K S →
      ∃ S' β'', K S' ∧ Rel Γ S' a w I X β'' σ ∧ Above β β'' σ σ
  | [], i, S, β', hr, hab, r, h => ⟨S, β', h, r.sub fun b hb => .inl hb, hab⟩
  | o :: rest, i, S, β', hr, hab, r, h => by
    have ho0 : (ops.toList.take p)[i]? = some o := by have := hr 0; simpa using this.symm
    obtain ⟨hi, ho1⟩ := take_get ho0
    have ho : ops[i]? = some o := by simpa using ho1
    have hr' : ∀ j, rest[j]? = (ops.toList.take p)[i + 1 + j]? := fun j => by
      have := hr (j + 1)
      simp only [List.getElem?_cons_succ] at this
      rw [this]; congr 1; omega
    have one : ∀ d x0 t0 (c : List IV), Mk o → o.dst = some d → content Γ S t0 x0 (fun c => newC Γ S d c (adopt Γ (ops.toList.take p) rest K)) →
        (∀ arr, Cont Γ ops p ℓ o d arr a → ∀ K' : List IV → Prop, content Γ S t0 x0 K' → ∃ c, K' c ∧ CV I β' (σ 0) c arr) → c = c →
        ∃ S' β'', K S' ∧ Rel Γ S' a w I X β'' σ ∧ Above β β'' σ σ := fun d x0 t0 _ hmk hd h hcon _ => by
      obtain ⟨h1, h2, h3, arr, el, h4, h5⟩ := v.blk i o d hi ho hmk hd (hall i hi)
      obtain ⟨c, hk, hcv⟩ := hcon arr h5 _ h
      obtain ⟨S', β2, g1, g2, g3⟩ := adopt_sound (b := bl i) (el := el) (X := fun b => X b ∨ ∃ j, i + 1 ≤ j ∧ j < p ∧ MkAt ops j ∧ bl j = b) hk r (.inr ⟨i, Nat.le_refl _, hi, ⟨o, ho, hmk⟩, rfl⟩)
        (fun b hb => by rcases hb with hb | ⟨j, e1, e2⟩; · exact .inl hb
                        · exact .inr ⟨j, by omega, e2⟩)
        (fun hb => by
          rcases hb with hb | ⟨j, e1, e2, e3, e4⟩
          · have := v.x0 _ hb; omega
          · have := v.inj j i e2 hi e3 ⟨o, ho, hmk⟩ (hall j e2) (hall i hi) e4; omega)
        h4 (fun j => by
          cases hI : I ⟨bl i, j, none⟩ with
          | none => rfl
          | some u => exact (h3 _ u hI rfl).elim) h2 hcv
      exact adopt_all hT k v hall rest (i + 1) S' β2 hr' (hab.trans g3) g2 g1
    unfold adopt at h
    split at h
    · rename_i t d hop hd
      refine one d _ t [] (.inl ⟨t, hop⟩) hd h (fun arr hc K' hk => ?_) rfl
      unfold content at hk
      cases hst : storeTo (ops.toList.take p) d with
      | none =>
        rw [hst] at hk
        obtain ⟨h0, hk⟩ := tyK_spec hk
        rw [fvL_eq] at hk
        exact ⟨_, hk, (hc.fresh t hop fun s os t' x hs hos _ => storeTo_none hst s os t' x (by rw [List.getElem?_take, if_pos hs]; simpa using hos)).2 I β' (σ 0)⟩
      | some x =>
        rw [hst] at hk
        simp only [ev_eq] at hk
        split at hk
        · rename_i c hcx
          obtain ⟨s, os, t', hs, hops⟩ := storeTo_some hst
          obtain ⟨hs1, hs2⟩ := take_get hs
          rw [hc.laid t hop s os t' x hs1 (by simpa using hs2) (hall s hs1) hops]
          exact ⟨c, hk, (evo_V r x).cells hcx⟩
        · exact hk.elim
    · rename_i t x d hop hd
      refine one d _ 0 [] (.inr ⟨t, x, hop⟩) hd h (fun arr hc K' hk => ?_) rfl
      unfold content at hk
      simp only [ev_eq] at hk
      split at hk
      · rename_i c hcx
        rw [hc.box t x hop]
        exact ⟨c, hk, (evo_V r x).cells hcx⟩
      · exact hk.elim
    · rename_i n1 n2
      have hnm : ¬ MkAt ops i := fun ⟨o', e1, e2⟩ => by
        rw [ho] at e1; cases e1
        obtain ⟨⟨d, hd⟩, _⟩ := k.made i o ho hi e2
        rcases e2 with ⟨t, e⟩ | ⟨t, x, e⟩
        · exact n1 t d e hd
        · exact n2 t x d e hd
      refine adopt_all hT k v hall rest (i + 1) S β' hr' hab (r.sub fun b hb => ?_) h
      rcases hb with hb | ⟨j, e1, e2⟩
      · exact .inl hb
      · exact .inr ⟨j, by omega, e2⟩

end
end Go.Proofs.YtllmejkmogepjaaGreatDoor.Ix

/-
  Ix22: a region that draws its order, the whole.
-/
namespace Go.Proofs.YtllmejkmogepjaaGreatDoor.Ix
set_option linter.unusedVariables false
set_option linter.unusedSimpArgs false

def cntF (ℓ : Nat → Bool) : Nat → Nat
  | 0 => 0
  | n + 1 => cntF ℓ n + if ℓ n then 0 else 1

theorem cntF_pos {ℓ : Nat → Bool} {i : Nat} (h : ℓ i = false) : ∀ {n : Nat}, i < n → 1 ≤ cntF ℓ n
  | n + 1, hi => by
    simp only [cntF]
    rcases Nat.lt_or_ge i n with h' | h'
    · have := cntF_pos h h'; omega
    · have : i = n := by omega
      subst this; rw [h]; simp

theorem cntF_same {ℓ : Nat → Bool} {i : Nat} : ∀ {n : Nat}, n ≤ i → cntF (setF ℓ i true) n = cntF ℓ n
  | 0, _ => rfl
  | n + 1, hi => by
    simp only [cntF]
    rw [cntF_same (n := n) (by omega), show setF ℓ i true n = ℓ n from by simp [setF]; omega]

theorem cntF_set {ℓ : Nat → Bool} {i : Nat} (h : ℓ i = false) : ∀ {n : Nat}, i < n → cntF (setF ℓ i true) n + 1 = cntF ℓ n
  | n + 1, hi => by
    simp only [cntF]
    rcases Nat.lt_or_ge i n with h' | h'
    · have := cntF_set h h'
      rw [show setF ℓ i true n = ℓ n from by simp [setF]; omega]; omega
    · have : i = n := by omega
      subst this
      rw [cntF_same (Nat.le_refl _), setF_self, h]; simp

def Lof (listed : Array Bool) : Nat → Bool := fun i => listed.getD i false

theorem Lof_set {listed : Array Bool} {i : Nat} (h : i < listed.size) : Lof (listed.setIfInBounds i true) = setF (Lof listed) i true := by
  funext j
  simp only [Lof, setF, Array.getD_eq_getD_getElem?, Array.getElem?_setIfInBounds]
  by_cases e : i = j
  · subst e; simp [h]
  · have e' : ¬ j = i := fun e' => e e'.symm
    simp [e, e']

section
variable {C : Con} {Γ : Env} {fl : Option (List Nat)} {ops : Array Oper} {p : Nat} {S : St} {S0 : St} {val : Nat → IV} {act : Nat → Bool} {w0 : World} {I0 : Imm} {X : Nat → Prop} {β0 : Beta} {σ0 : Nat → Sig} {a : Act} {w : World}
  {I : Imm} {β : Beta} {σ : Nat → Sig} {cr : List Nat} {K : St → Prop} {Q : Exit → Act → World → Prop}

theorem ready_spec {listed : Array Bool} {i : Nat} (hsz : listed.size = ops.size) : i ∈ Region.ready .any ops listed ↔ Lof listed i = false ∧ ∃ o, ops[i]? = some o ∧ ∀ j, bindOn o j = true → Lof listed j = true := by
  rw [mem_ready]
  constructor
  · rintro ⟨h1, o, ho, h⟩
    have hi : i < ops.size := (Array.getElem?_eq_some_iff.1 ho).1
    refine ⟨?_, o, ho, fun j hj => ?_⟩
    · simp only [Lof, Array.getD_eq_getD_getElem?] at h1 ⊢
      have : i < listed.size := by omega
      simpa [this] using h1
    · unfold bindOn at hj
      rw [List.any_eq_true] at hj
      obtain ⟨e, he, hb⟩ := hj
      simp only [Bool.and_eq_true] at hb
      have := (beq_iff _ _).1 hb.2
      subst this
      exact h e (by simpa using he) hb.1
  · rintro ⟨h1, o, ho, h⟩
    have hi : i < ops.size := (Array.getElem?_eq_some_iff.1 ho).1
    refine ⟨?_, o, ho, fun e he hb => ?_⟩
    · simp only [Lof, Array.getD_eq_getD_getElem?] at h1 ⊢
      have : i < listed.size := by omega
      simpa [this] using h1
    · refine h e.on ?_
      unfold bindOn
      rw [List.any_eq_true]
      exact ⟨e, by simpa using he, by simp [hb]⟩

theorem bindOn_lt (k : DOK ops p fl) {i : Nat} {o : Oper} (ho : ops[i]? = some o) {j : Nat} (h : bindOn o j = true) : j < i := by
  unfold bindOn at h
  rw [List.any_eq_true] at h
  obtain ⟨e, he, hb⟩ := h
  simp only [Bool.and_eq_true] at hb
  have := (beq_iff _ _).1 hb.2
  subst this
  exact k.acy i o ho e (by simpa using he) hb.1

/-- The first that has not come up may come up. -/
theorem ready_first (k : DOK ops p fl) {listed : Array Bool} (hsz : listed.size = ops.size) {i : Nat} (hi : i < ops.size) (hn : Lof listed i = false) (hl : ∀ j, j < i → Lof listed j = true) : i ∈ Region.ready .any ops listed := by
  rw [ready_spec hsz]
  exact ⟨hn, ops[i], by simp [hi], fun j hj => hl j (bindOn_lt k (by simp [hi]) hj)⟩

theorem first_false {ℓ : Nat → Bool} : ∀ (n : Nat), ℓ n = false → ∃ i, i ≤ n ∧ ℓ i = false ∧ ∀ j, j < i → ℓ j = true
  | 0, h => ⟨0, Nat.le_refl _, h, fun j hj => by omega⟩
  | n + 1, h => by
    by_cases hx : ∃ i, i ≤ n ∧ ℓ i = false
    · obtain ⟨i, hi, hf⟩ := hx
      obtain ⟨i', h1, h2, h3⟩ := first_false' i n hi hf
      exact ⟨i', by omega, h2, h3⟩
    · refine ⟨n + 1, Nat.le_refl _, h, fun j hj => ?_⟩
      cases hj' : ℓ j with
      | true => rfl
      | false => exact absurd ⟨j, by omega, hj'⟩ hx
where
  first_false' {ℓ : Nat → Bool} (i n : Nat) (hi : i ≤ n) (hf : ℓ i = false) : ∃ i, i ≤ n ∧ ℓ i = false ∧ ∀ j, j < i → ℓ j = true := by
    induction i using Nat.strongRecOn with
    | ind i ih =>
      by_cases hx : ∃ j, j < i ∧ ℓ j = false
      · obtain ⟨j, hj, hjf⟩ := hx
        exact ih j hj (by omega) hjf
      · refine ⟨i, hi, hf, fun j hj => ?_⟩
        cases hj' : ℓ j with
        | true => rfl
        | false => exact absurd ⟨j, hj, hj'⟩ hx

/-- Behind the front: one order. -/
theorem tail_any (hT : TOK Γ.P Γ.T) (hC : HC C Γ) (k : DOK ops p fl) (hQ : ∀ a' w', Aft Γ K I X w β σ a' w' → Q .normal a' w') :
    ∀ (fuel n : Nat) (listed : Array Bool) (S' : St) (a' : Act) (w' : World) (I' : Imm) (β' : Beta) (σ' : Nat → Sig), listed.size = ops.size → p ≤ n → n ≤ ops.size → (∀ j, j < n → Lof listed j = true) → (∀ j, n ≤ j → Lof listed j = false) →
      cntF (Lof listed) ops.size ≤ fuel → iops C Γ ops.toList (ops.toList.drop n) K S' → Rel Γ S' a' w' I' X β' σ' → Ext I X w I' w' → Above β β' σ σ' → wpAny Γ.P .any ops Q fuel listed a' w' := by
  intro fuel
  induction fuel with
  | zero =>
    intro n listed S' a' w' I' β' σ' hsz hp hn hl1 hl2 hc h r he ha
    have hnn : n = ops.size := by
      rcases Nat.lt_or_ge n ops.size with h' | h'
      · have := cntF_pos (hl2 n (Nat.le_refl _)) h'; omega
      · omega
    subst hnn
    have hd : ops.toList.drop ops.size = [] := List.drop_eq_nil_of_le (by simp)
    rw [hd] at h
    refine ⟨?_, hQ _ _ ⟨S', I', β', σ', h, r, he, ha⟩⟩
    cases hr : Region.ready .any ops listed with
    | nil => rfl
    | cons i l =>
      have : i ∈ Region.ready .any ops listed := by rw [hr]; simp
      rw [ready_spec hsz] at this
      obtain ⟨h1, o, ho, _⟩ := this
      rw [hl1 i (Array.getElem?_eq_some_iff.1 ho).1] at h1; cases h1
  | succ fuel ih =>
    intro n listed S' a' w' I' β' σ' hsz hp hn hl1 hl2 hc h r he ha
    rcases Nat.lt_or_ge n ops.size with hlt | hge
    · have hmem : n ∈ Region.ready .any ops listed := ready_first k hsz hlt (hl2 n (Nat.le_refl _)) hl1
      refine ⟨fun e => (by rw [e] at hmem; cases hmem), fun i hi => ?_⟩
      rw [ready_spec hsz] at hi
      obtain ⟨h1, o, ho, h2⟩ := hi
      have hin : i = n := by
        rcases Nat.lt_trichotomy i n with h' | h' | h'
        · rw [hl1 i h'] at h1; cases h1
        · exact h'
        · have := k.suf i o ho (by omega) (Lof listed) (fun i' o' ho' hl' j hb => hl1 j (by
            have hlt' := bindOn_lt k ho' hb
            rcases Nat.lt_or_ge i' n with h9 | h9
            · omega
            · rw [hl2 i' h9] at hl'; cases hl')) h2 n h'
          rcases this with this | this
          · rw [hl2 n (Nat.le_refl _)] at this; cases this
          · have := (floatB_spec (show ops[n]? = some ops[n] by simp [hlt]) this).1
            omega
      subst hin
      have hdrop : ops.toList.drop i = o :: ops.toList.drop (i + 1) := by
        have hi' : i < ops.toList.length := by simpa using hlt
        rw [List.drop_eq_getElem_cons hi']
        congr 1
        have := (Array.getElem?_eq_some_iff.1 ho).2
        simpa using this
      rw [hdrop, iops_cons] at h
      have h1' := iop1_sound hT hC (ops := ops) o h r Q
      have next : ∀ a2 w2, Aft Γ (fun S' => iops C Γ ops.toList (ops.toList.drop (i + 1)) K S') I' X w' β' σ' a2 w2 → wpAny Γ.P .any ops Q fuel (listed.setIfInBounds i true) a2 w2 := by
        rintro a2 w2 ⟨S2, I2, β2, σ2, k1, k2, k3, k4⟩
        have hset := Lof_set (listed := listed) (i := i) (by omega)
        refine ih (i + 1) _ S2 a2 w2 I2 β2 σ2 (by simpa using hsz) (by omega) hlt (fun j hj => ?_) (fun j hj => ?_) ?_ k1 k2 (he.trans k3) (ha.trans k4)
        · rw [hset]; unfold setF; split
          · rfl
          · exact hl1 j (by omega)
        · rw [hset]; unfold setF; split
          · omega
          · exact hl2 j (by omega)
        · rw [hset]
          have := cntF_set h1 hlt; omega
      unfold wpOp
      simp only [ho]
      split
      · rename_i hw
        rw [if_pos hw] at h1'
        exact .inl (Oper.wp_mono next h1')
      · rename_i hw
        rw [if_neg hw] at h1'
        exact next _ _ h1'
    · have hnn : n = ops.size := by omega
      subst hnn
      have hd : ops.toList.drop ops.size = [] := List.drop_eq_nil_of_le (by simp)
      rw [hd] at h
      refine ⟨fun _ => hQ _ _ ⟨S', I', β', σ', h, r, he, ha⟩, fun i hi => ?_⟩
      rw [ready_spec hsz] at hi
      obtain ⟨h1, o, ho, _⟩ := hi
      rw [hl1 i (Array.getElem?_eq_some_iff.1 ho).1] at h1; cases h1

/-- The front, in any order, and what comes behind it. -/
theorem front_any (hT : TOK Γ.P Γ.T) (hC : HC C Γ) (k : DOK ops p none)
    (hf : ∀ (j : Nat) o, j < p → ops[j]? = some o → Fact C Γ ops.toList cr S0 val act j o) (hnt : noTags cr S0) (hcr : ∀ (i : Nat) o d, i < p → ops[i]? = some o → creates o = true → o.dst = some d → d ∈ cr)
    {Se : St} (hse : Is S0 ops.toList val p Se) (hk : adopt Γ (ops.toList.take p) (ops.toList.take p) (iops C Γ ops.toList (ops.toList.drop p) K) Se)
    (hQ : ∀ a' w', Aft Γ K I X w β σ a' w' → Q .normal a' w') (hP : ∀ c a' w', ¬ Q (.panic c) a' w') :
    ∀ (fuel : Nat) (listed : Array Bool) (a' : Act) (w' : World) (I' : Imm) (β' : Beta) (σ' : Nat → Sig) (bl : Nat → Nat), listed.size = ops.size → (∀ j, p ≤ j → Lof listed j = false) → cntF (Lof listed) ops.size ≤ fuel → DC ops (Lof listed) →
      Inv Γ ops p S0 val w I X β σ (Lof listed) a' w' I' β' σ' bl → wpAny Γ.P .any ops Q fuel listed a' w' := by
  have whole : ∀ (fuel : Nat) (listed : Array Bool) (a' : Act) (w' : World) (I' : Imm) (β' : Beta) (σ' : Nat → Sig) (bl : Nat → Nat), listed.size = ops.size → (∀ j, p ≤ j → Lof listed j = false) → cntF (Lof listed) ops.size ≤ fuel →
      Inv Γ ops p S0 val w I X β σ (Lof listed) a' w' I' β' σ' bl → (∀ j, j < p → Lof listed j = true) → wpAny Γ.P .any ops Q fuel listed a' w' := by
    intro fuel listed a' w' I' β' σ' bl hsz hl2 hc v hall
    have r1 : Rel Γ Se a' w' I' (fun b => X b ∨ ∃ j, 0 ≤ j ∧ j < p ∧ MkAt ops j ∧ bl j = b) β' σ' := by
      refine (v.rel.congr (fun t => ?_) hse.ce hse.up).sub fun b hb => ?_
      · rw [hse.tm t]
        simp only [lex, some']
        congr 1
        have : ∀ n, n ≤ p → tmL S0.tm (dstOf ops.toList) val (fun _ => true) n = tmL S0.tm (dstOf ops.toList) val (Lof listed) n := by
          intro n
          induction n with
          | zero => intro _; rfl
          | succ n ih => intro hn; simp only [tmL]; rw [ih (by omega), hall n (by omega)]
        exact this p (Nat.le_refl _)
      · rcases hb with hb | ⟨j, _, h2, h3, h4⟩
        · exact .inl hb
        · exact .inr ⟨j, h2, hall j h2, h3, h4⟩
    obtain ⟨S', β2, g1, g2, g3⟩ := adopt_all hT k v hall (ops.toList.take p) 0 Se β' (fun j => by simp) (.refl _ _) r1 hk
    exact tail_any hT hC k hQ fuel p listed S' a' w' I' β2 σ' hsz (Nat.le_refl _) k.le hall hl2 hc g1 g2 v.ext (v.abv.trans g3)
  intro fuel
  induction fuel with
  | zero =>
    intro listed a' w' I' β' σ' bl hsz hl2 hc hdc v
    refine whole 0 listed a' w' I' β' σ' bl hsz hl2 hc v fun j hj => ?_
    cases hj' : Lof listed j with
    | true => rfl
    | false => have := cntF_pos hj' (n := ops.size) (by have := k.le; omega); omega
  | succ fuel ih =>
    intro listed a' w' I' β' σ' bl hsz hl2 hc hdc v
    by_cases hfl : ∃ i o, i < p ∧ Lof listed i = false ∧ ops[i]? = some o ∧ (∀ j, bindOn o j = true → Lof listed j = true) ∧ floatB none ops.toList p i = true
    · obtain ⟨i, o, hip, g1, ho, g2, hfB⟩ := hfl
      obtain ⟨_, hpure, hgn, hap⟩ := floatB_spec ho hfB
      have hready : i ∈ Region.ready .any ops listed := by rw [ready_spec hsz]; exact ⟨g1, o, ho, g2⟩
      have his : i < ops.size := (Array.getElem?_eq_some_iff.1 ho).1
      obtain ⟨u, hy, I2, β2, σ2, bl2, v2⟩ := float_step hT hC k hf hnt hcr hdc ho hip g1 g2 v hpure hgn
      have hset := Lof_set (listed := listed) (i := i) (by omega)
      refine wpAny_first ho (fun j y cs b hy => k.ns j y cs b hy) (fun c a w h => (hP _ _ _ h).elim) fuel listed a' w' (fun j oj hj hji hlj hno => ?_) hready (.inl ⟨by simp [Region.wanted, hgn], hy⟩) ?_
      · rcases hap j oj hj hji with h | h | h
        · unfold bindOn at h
          rw [List.any_eq_true] at h
          obtain ⟨e, he, hb⟩ := h
          simp only [Bool.and_eq_true] at hb
          exact absurd ((beq_iff _ _).1 hb.2) (hno e (by simpa using he) hb.1)
        · have hL := g2 j h
          have hjs : j < listed.size := by rw [hsz]; exact (Array.getElem?_eq_some_iff.1 hj).1
          simp only [Lof, Array.getD_eq_getD_getElem?, Array.getElem?_eq_getElem hjs, Option.getD_some] at hL hlj
          rw [hL] at hlj; cases hlj
        · exact h
      · refine ih _ _ w' I2 β2 σ2 bl2 (by simpa using hsz) (fun j hj => ?_) ?_ ?_ (by rw [hset]; exact v2)
        · rw [hset]; unfold setF; split
          · omega
          · exact hl2 j hj
        · rw [hset]; have := cntF_set g1 his; omega
        · rw [hset]; exact hdc.upd ho g2
    by_cases hx : ∃ i, i < p ∧ Lof listed i = false
    · obtain ⟨i0, hi0, hf0⟩ := hx
      obtain ⟨i1, h1, h2, h3⟩ := first_false i0 hf0
      have hmem : i1 ∈ Region.ready .any ops listed := ready_first k hsz (by have := k.le; omega) h2 h3
      refine ⟨fun e => (by rw [e] at hmem; cases hmem), fun i hi => ?_⟩
      rw [ready_spec hsz] at hi
      obtain ⟨g1, o, ho, g2⟩ := hi
      have his : i < ops.size := (Array.getElem?_eq_some_iff.1 ho).1
      have hip : i < p := by
        rcases Nat.lt_or_ge i p with h' | h'
        · exact h'
        · have hi1 : i1 < ops.size := by have := k.le; omega
          rcases k.suf i o ho h' (Lof listed) hdc g2 i1 (by omega) with this | this
          · rw [h2] at this; cases this
          · exact absurd ⟨i1, ops[i1], by omega, h2, by simp [hi1], fun j hj => h3 j (bindOn_lt k (by simp [hi1]) hj), this⟩ hfl
      refine wpOp_mono ?_ (front_step hT hC k hf hnt hcr hdc ho hip g1 g2 v Q)
      rintro a2 w2 ⟨I2, β2, σ2, bl2, v2⟩
      have hset := Lof_set (listed := listed) (i := i) (by omega)
      refine ih _ a2 w2 I2 β2 σ2 bl2 (by simpa using hsz) (fun j hj => ?_) ?_ ?_ (by rw [hset]; exact v2)
      · rw [hset]; unfold setF; split
        · omega
        · exact hl2 j hj
      · rw [hset]; have := cntF_set g1 his; omega
      · rw [hset]; exact hdc.upd ho g2
    · refine whole (fuel + 1) listed a' w' I' β' σ' bl hsz hl2 hc v fun j hj => ?_
      cases hj' : Lof listed j with
      | true => rfl
      | false => exact absurd ⟨j, hj, hj'⟩ hx

theorem Rel.draw (r : Rel Γ S a w I X β σ) (n : Nat) : Rel Γ S a { w with drawn := n } I X β σ :=
  ⟨r.tm, r.df.to (fun _ _ h _ => h) (fun _ _ h => h), r.nt, ⟨r.mem.cell, r.mem.inj, r.mem.keys, r.mem.im, r.mem.glo, r.mem.xb, r.mem.gz⟩, ⟨r.own.row, r.own.inj⟩⟩

theorem cntF_le (ℓ : Nat → Bool) : ∀ n, cntF ℓ n ≤ n
  | 0 => Nat.le_refl _
  | n + 1 => by simp only [cntF]; have := cntF_le ℓ n; split <;> omega

theorem drawn_any0 (hT : TOK Γ.P Γ.T) (hC : HC C Γ) {p : Nat} (hok : drawOK ops.toList p = true) (hd : drawn C Γ ops.toList p K S) (r : Rel Γ S a w I X β σ)
    (hQ : ∀ a' w', Aft Γ K I X w β σ a' w' → Q .normal a' w') (hP : ∀ c a' w', ¬ Q (.panic c) a' w') :
    wpAny Γ.P .any ops Q ops.size (Array.replicate ops.size false) a { w with drawn := w.drawn + 1 } ∧ ∀ (i : Nat) o, ops[i]? = some o → ∀ c, o.op ≠ .defer c := by
  have k := drawOK_spec hok
  have r1 := r.draw (w.drawn + 1)
  obtain ⟨S0, σ1, hp, r2, hab, hnt⟩ := untagL_sound (creators (ops.toList.take p)) [] S σ hd (fun d hd => by cases hd) r1
  obtain ⟨val, act, Se, hf, hse, hk⟩ := pres_spec (C := C) (Γ := Γ) (all := ops.toList) (cr := creators (ops.toList.take p)) (S0 := S0) (p := p) (fun _ _ _ _ _ _ _ _ => trivial)
    (fun i o t a x hi ho hop => (k.st i o t a x (by simpa using ho) hi hop).choose_spec.2.1) (ops.toList.take p) 0 (fun _ => .dead) (fun _ => false) S0 (by have := k.le; simp; omega)
    (fun j hj => by rw [List.getElem?_take, if_pos (by simp at hj; omega)]; simp) ⟨fun _ => rfl, rfl, rfl⟩ (fun j o hj => by omega) hp
  refine ⟨?_, k.nd⟩
  have hlof : ∀ j, Lof (Array.replicate ops.size false) j = false := fun j => by
    simp only [Lof, Array.getD_eq_getD_getElem?, Array.getElem?_replicate]
    split <;> rfl
  refine front_any hT hC k (fun j o hj ho => hf j o hj (by simpa using ho)) (by simpa using hnt) (fun i o d hi ho hc hdd => ?_) hse hk (I := I) (X := X) (β := β) (σ := σ) (w := w) hQ hP
    ops.size _ a _ I β σ1 (fun _ => 0) (by simp) (fun j _ => hlof j) (cntF_le _ _) (fun i o ho hl => by rw [hlof i] at hl; cases hl) ?_
  · refine creators_mem (List.mem_of_getElem? (i := i) ?_) hc hdd
    rw [List.getElem?_take, if_pos hi]; simpa using ho
  · refine ⟨?_, ⟨rfl, rfl, rfl, Nat.le_refl _, fun _ _ => rfl, fun _ _ h => h, fun _ _ => rfl, fun _ _ h _ => h⟩, ⟨fun _ => rfl, hab⟩, r.mem.xb, fun i o d _ _ _ _ hl => (by rw [hlof i] at hl; cases hl), fun i j _ _ _ _ hl => (by rw [hlof i] at hl; cases hl)⟩
    refine (r2.congr (S' := some' S0 ops val p (Lof (Array.replicate ops.size false))) (fun t => ?_) rfl rfl).sub fun b hb => ?_
    · simp only [some']
      exact look_tmL_none fun i _ hl => by rw [hlof i] at hl; cases hl
    · rcases hb with hb | ⟨j, _, h2, _⟩
      · exact hb
      · rw [hlof j] at h2; cases h2

/-! ### Loads that come up behind stores to other cells -/

/-- The whole numbers in the held cells are as they were. -/
def Held (hd : List Nat) (S0 : St) (a0 : Act) (w : World) : Prop := ∀ d ∈ hd, ∀ c, lookC S0.ce d = some c → ∀ (j : Nat) k n, c[j]? = some (.int k n) → ∀ b, a0.tmps.getD d undef = .pointer (some ⟨b, 0, none⟩) → w.cell? ⟨b, j, none⟩ = some (.int k n)

/-- The same, and what nobody writes is as it was. -/
def HeldX (hd : List Nat) (S0 : St) (a0 : Act) (I0 : Imm) (w : World) : Prop := Held hd S0 a0 w ∧ ∀ x u, I0 x = some u → w.cell? x = some u

theorem heldI_spec {S0 : St} : ∀ {hd : List Nat} {S : St}, heldI S0 hd S → ∀ d ∈ hd, lookC S.ce d = lookC S0.ce d ∧ look S.tm d = .ptr 0 d 0
  | [], _, _, d, h => by cases h
  | x :: r, S, h, d, hm => by
    rcases List.mem_cons.1 hm with rfl | hm
    · exact h.1
    · exact heldI_spec h.2 d hm
theorem heldI_of {S0 S : St} : ∀ {hd : List Nat}, (∀ d ∈ hd, lookC S.ce d = lookC S0.ce d ∧ look S.tm d = .ptr 0 d 0) → heldI S0 hd S
  | [], _ => trivial
  | x :: r, h => ⟨h x (by simp), heldI_of fun d hm => h d (by simp [hm])⟩

theorem held_of {hd : List Nat} {S' : St} {a0 a' : Act} {w' : World} {I' : Imm} {X' : Nat → Prop} {β' : Beta} {σ' : Nat → Sig} (r : Rel Γ S' a' w' I' X' β' σ') (h : heldI S0 hd S')
    (ht : ∀ d ∈ hd, a'.tmps.getD d undef = a0.tmps.getD d undef) : Held hd S0 a0 w' := by
  intro d hm c hc j k n hj b hb
  obtain ⟨h1, h2⟩ := heldI_spec h d hm
  have hv := r.tm d
  rw [h2] at hv
  obtain ⟨b', hb', hβ⟩ := hv.ptr_inv
  rw [ht d hm, hb] at hb'
  have hbb : b = b' := by simpa using hb'
  subst hbb
  obtain ⟨b2, arr, el, g1, g2, g3, g4, g5, g6, g7⟩ := r.mem.cell 0 d c (h1.trans hc)
  rw [hβ] at g1
  cases g1
  have hjl : j < c.length := (List.getElem?_eq_some_iff.1 hj).1
  have := (g5 j _ hj).int_inv
  rw [cell_of_row w' b _ arr el _ g2]
  have hja : j < arr.size := by omega
  simp [Array.getD_eq_getD_getElem?, hja] at this
  simp [hja, this]

theorem wpOp_put' {i : Nat} {o : Oper} (ho : ops[i]? = some o) {K : Act → World → Prop} {Q : Exit → Act → World → Prop} {a : Act} {w : World} (h : wpOp Γ.P ops Q i K a w) :
    wpOp Γ.P ops Q i (fun a' w' => K a' w' ∧ ∀ t, o.dst ≠ some t → a'.tmps.getD t undef = a.tmps.getD t undef) a w := by
  unfold wpOp at *
  simp only [ho] at *
  split
  · rename_i hw
    simp only [hw, if_true] at h
    exact h.imp Oper.wp_put id
  · rename_i hw
    simp only [hw] at h
    refine ⟨h, fun t ht => ?_⟩
    cases hd : o.dst with
    | none => rfl
    | some d =>
      have hne : d ≠ t := fun e => ht (by rw [hd, e])
      simp only [Act.put, Array.getD_eq_getD_getElem?]
      rw [Array.getElem?_setIfInBounds_ne hne]

theorem allInt_spec : ∀ {c : List IV}, allInt c = true → ∀ x ∈ c, ∃ k n, x = .int k n
  | [], _, x, h => by cases h
  | y :: r, h, x, hx => by
    cases y with
    | int k n =>
      rcases List.mem_cons.1 hx with rfl | hx
      · exact ⟨k, n, rfl⟩
      · exact allInt_spec (c := r) h x hx
    | _ => cases h

theorem float_yieldsH (hT : TOK Γ.P Γ.T) {hd : List Nat} {S : St} {o : Oper} {v : IV} {a0 : Act} {β' : Beta} {σ' : Nat → Sig} {I : Imm} {Y : Nat → Prop} (hp : pureL o = true) (h : ∀ K : IV → Prop, K v → pval C Γ S o K) (r : Rel Γ S a w I Y β' σ')
    {Sw : World → Prop} (hS : ∀ w', Sw w' → Held hd S0 a0 w') {vp : Bool} (hI : vp = true → ∀ w', Sw w' → ∀ x u, I x = some u → w'.cell? x = some u)
    (hl : ∀ t x, o.op = .load t x → (∃ d off, evo Γ S x = .ptr 0 d off ∧ d ∈ hd ∧ ((∃ k n, v = .int k n) ∨ ∀ c, lookC S.ce d = some c → allInt c = true)) ∨ (vp = true ∧ (∃ e n f i j, evo Γ S x = .vptr e n f i j) ∧ ∃ k n, v = .int k n)) (hb : (∃ op t x y t', o.op = .binOp op t x y t') → ∃ k n, v = .int k n)
    (hh : heldI S0 hd S) (ht : ∀ d ∈ hd, a.tmps.getD d undef = a0.tmps.getD d undef) : ∃ u, V I β' (σ' 0) v u ∧ ∀ w', Sw w' → (execOp a.eval o).run Γ.P w' = .ok (.value u) w' := by
  by_cases hp0 : pureO o = true
  · obtain ⟨u, hv, hu⟩ := float_yields hp0 h r
    exact ⟨u, hv, fun w' _ => hu w'⟩
  have h1 := h (fun x => x = v) rfl
  unfold pureL at hp
  unfold pval at h1
  split at hp
  · rename_i t x i hop
    simp only [hop, ival] at h1
    split at h1
    · rename_i n e hk
      obtain ⟨k, m, hi, g1, g2, h1⟩ := idx_spec h1 (evo_V r i)
      obtain ⟨b, off, q, hp', hk', hq⟩ := addI_spec h1 (evo_V r x)
      obtain ⟨inf, d, z, tk⟩ := TOK.get hT (t := t) (.inr (by rw [hk]; simp))
      have kd := tk.kind
      rw [hk] at kd
      obtain ⟨rfl, he⟩ := kd
      obtain ⟨inf', d', z', tk'⟩ := TOK.get hT (t := e) (.inl he)
      have hc : 0 ≤ m ∧ m < (n : Int) := ⟨g1, g2⟩
      exact ⟨.pointer (some ⟨b, off + m.toNat * (Γ.T e).size, none⟩), hk' ▸ hq, fun w' _ => by simp [execOp, hop, Instr.indexAt, hi, asIntOf, run_underlying tk.und, hp', Instr.sureAddr, hc, run_sz tk'.msize, add_none]⟩
    · rename_i e oo e' n f hk hx
      obtain ⟨k, m, hi, g1, g2, h1⟩ := idx_spec h1 (evo_V r i)
      split at h1
      · rename_i he'
        have he' := (beq_iff _ _).1 he'
        obtain ⟨inf, d, z, tk⟩ := TOK.get hT (t := t) (.inr (by rw [hk]; simp))
        have kd := tk.kind
        rw [hk] at kd
        obtain ⟨rfl, he⟩ := kd
        obtain ⟨inf', d', z', tk'⟩ := TOK.get hT (t := e) (.inl he)
        have hv := evo_V r x
        rw [hx] at hv
        rcases hv.lst_inv with ⟨_, _, h0⟩ | ⟨b, off, c, g, hvx, hnc', hown, hl', hI', ho', hD⟩
        · omega
        · have hc : 0 ≤ m ∧ m < (n : Int) := ⟨g1, g2⟩
          exact ⟨.pointer (some ⟨b, off + m.toNat * (Γ.T e).size, none⟩), h1 ▸ (by rw [← he']; exact .data (.vptr e' n f m.toNat 0 b off g (by omega) hl' hI' ho' hD)), fun w' _ => by simp [execOp, hop, Instr.indexAt, hi, asIntOf, run_underlying tk.und, hvx, hc, run_sz tk'.msize, add_none]⟩
      · exact h1.elim
    · exact h1.elim
  · rename_i t x i hop
    simp only [hop, ival] at h1
    split at h1
    · rename_i fs hk
      split at h1
      · rename_i f hf
        obtain ⟨off, sz, ag⟩ := f
        rw [fieldAt_eq] at hf
        obtain ⟨inf, d, z, tk⟩ := TOK.get hT (t := t) (.inr (by rw [hk]; simp))
        have kd := tk.kind
        rw [hk] at kd
        obtain ⟨fields, rfl, hfl, hff⟩ := kd
        obtain ⟨f', g1, g2, g3, g4, g5, g6⟩ := hff i off sz ag hf
        obtain ⟨b, o', q, hp', hk', hq⟩ := addI_spec h1 (evo_V r x)
        have hz : ¬ sz = 0 := by omega
        exact ⟨.pointer (some ⟨b, o' + off, none⟩), hk' ▸ hq, fun w' _ => by simp [execOp, hop, Instr.fieldAt, run_underlying tk.und, g1, hp', Instr.sureAddr, fieldPlace, run_sz g3, hz, add_none, g2]⟩
      · exact h1.elim
    · exact h1.elim
  · rename_i op t x y t' hop
    obtain ⟨k, n, rfl⟩ := hb ⟨op, t, x, y, t', hop⟩
    simp only [hop, ival] at h1
    refine ⟨.int k n, .data (.int _ _), fun w' _ => ?_⟩
    obtain ⟨iv, v', hk, hv, hr⟩ := bin_sound (P := Γ.P) (t := t) (w := w') h1 (evo_V r x) (evo_V r y) (fun he => by
      rcases hT t with h1 | ⟨inf, d, z, tk⟩
      · rw [h1] at he; exact absurd rfl he
      · exact tk.eqs he) (fun hk b hz => by
      rcases hT t with h1 | ⟨inf, d, z, tk⟩
      · rw [h1] at hz; cases hz
      · rw [tk.und, tk.boo hk b hz]) x y
    have hk : iv = .int k n := hk
    subst hk
    have := hv.int_inv
    subst this
    simp only [execOp, hop]
    rw [Sem.run_bind, hr]; rfl
  · rename_i t x hop
    simp only [hop, ival, fv_eq] at h1
    obtain ⟨h0, h1⟩ := tyK_spec h1
    obtain ⟨inf, dd, z, tk⟩ := TOK.get hT (t := t) (.inl (by omega))
    by_cases hvi : ∃ k n, v = .int k n
    rotate_left
    · rcases hl t x hop with ⟨d, off, hx, hm, hc2⟩ | ⟨_, _, h⟩
      rotate_left
      · exact absurd h hvi
      have hc2 := hc2.resolve_left hvi
      obtain ⟨g1, g2⟩ := heldI_spec hh d hm
      rw [hx] at h1
      simp only [loadI] at h1
      split at h1
      rotate_left
      · exact h1.elim
      rename_i c hc
      have hall := allInt_spec (hc2 c hc)
      have hvx := evo_V r x
      rw [hx] at hvx
      obtain ⟨b, hbx, hβ⟩ := hvx.ptr_inv
      have hvd := r.tm d
      rw [g2] at hvd
      obtain ⟨b', hb', hβ'⟩ := hvd.ptr_inv
      rw [hβ] at hβ'
      cases hβ'
      rw [ht d hm] at hb'
      obtain ⟨v', hv1, q1, q2, hv2⟩ := part1_sound (I := I) (β := β') (σ := σ' 0) (f := fun j => match c[j]? with | some (.int k n) => .int k n | _ => undef) h1
        (fun j hj => by
          obtain ⟨k, n, e⟩ := hall c[j] (List.getElem_mem hj)
          simp only [List.getElem?_eq_getElem hj, e]; rfl)
        (fun j y hy => by
          obtain ⟨k, n, rfl⟩ := hall y (List.mem_of_getElem? hy)
          simp only [hy]; exact .data (.int k n)) h0
      have hv1 : v' = v := hv1
      subst hv1
      refine ⟨_, hv2, fun w' hw' => ?_⟩
      have hlen : off + (Γ.T t).size ≤ c.length := by
        cases hag : (Γ.T t).agg with
        | true => exact q1 hag
        | false => have := tk.one hag; have := q2 hag; omega
      have := run_loadVar' (P := Γ.P) (f := fun j => match c[off + j]? with | some (.int k n) => .int k n | _ => undef) tk.msize tk.agg h0 (w := w') (b := b) (off := off) (fun j hj => by
        have hjl : off + j < c.length := by omega
        obtain ⟨k, n, e⟩ := hall c[off + j] (List.getElem_mem hjl)
        have hy : c[off + j]? = some (.int k n) := by rw [List.getElem?_eq_getElem hjl, e]
        simp only [hy]
        exact hS w' hw' d hm c (g1.symm.trans hc) (off + j) k n hy b hb')
      simp [execOp, hop, Instr.loadAt, hbx, Instr.sureAddr, this]
    obtain ⟨k, n, rfl⟩ := hvi
    refine ⟨.int k n, .data (.int _ _), fun w' hw' => ?_⟩
    rcases hl t x hop with ⟨d, off, hx, hm, _⟩ | ⟨hvp, ⟨e, m, f, i, j, hx⟩, _⟩
    · obtain ⟨g1, g2⟩ := heldI_spec hh d hm
      rw [hx] at h1
      simp only [loadI] at h1
      split at h1
      · rename_i c hc
        have hvx := evo_V r x
        rw [hx] at hvx
        obtain ⟨b, hbx, hβ⟩ := hvx.ptr_inv
        have hvd := r.tm d
        rw [g2] at hvd
        obtain ⟨b', hb', hβ'⟩ := hvd.ptr_inv
        rw [hβ] at hβ'
        cases hβ'
        rw [ht d hm] at hb'
        cases hag : (Γ.T t).agg with
        | true =>
          rw [hag] at h1
          simp only [part1] at h1
          split at h1
          · cases h1
          · exact h1.elim
        | false =>
          rw [hag] at h1
          simp only [part1, nthI_eq] at h1
          split at h1
          · rename_i v' hv'
            have h1 : v' = .int k n := h1
            subst h1
            have hsz := tk.one hag
            have hcell := hS w' hw' d hm c (g1.symm.trans hc) off k n hv' b hb'
            have := run_loadVar' (P := Γ.P) (f := fun _ => .int k n) tk.msize tk.agg h0 (w := w') (b := b) (off := off) (fun j hj => by
              have : j = 0 := by omega
              subst this
              simpa using hcell)
            simp [execOp, hop, Instr.loadAt, hbx, Instr.sureAddr, this, hag]
          · exact h1.elim
      · exact h1.elim
    · rw [hx] at h1
      simp only [loadI] at h1
      have hvx := evo_V r x
      rw [hx] at hvx
      obtain ⟨b, off, g, hbx, hi, hl', hIc, ho', hD⟩ := hvx.vptr_inv
      cases hag : (Γ.T t).agg with
      | true =>
        rw [hag] at h1
        simp only [part1] at h1
        split at h1
        · cases h1
        · exact h1.elim
      | false =>
        rw [hag] at h1
        simp only [part1, nthI_eq] at h1
        split at h1
        · rename_i v' hv'
          have h1 : v' = .int k n := h1
          subst h1
          have hsz := tk.one hag
          have hje : j < e := by rw [← hl' i hi]; exact (List.getElem?_eq_some_iff.1 hv').1
          have hg : g i j = .int k n := (V.data (β := β') (σ := σ' 0) (hD i j _ hi hv')).int_inv
          have hcell := hI hvp w' hw' _ _ (hIc i j hi hje)
          rw [hg] at hcell
          have := run_loadVar' (P := Γ.P) (f := fun _ => .int k n) tk.msize tk.agg h0 (w := w') (b := b) (off := off + i * e + j) (fun j' hj => by
            have : j' = 0 := by omega
            subst this
            simpa using hcell)
          simp [execOp, hop, Instr.loadAt, hbx, Instr.sureAddr, this, hag]
        · exact h1.elim
  · exact absurd hp hp0

/-- Behind the front: one order, and what is held stays. -/
theorem tail_anyH (hT : TOK Γ.P Γ.T) (hC : HC C Γ) {fl : Option (List Nat)} (k : DOK ops p fl) {hd : List Nat} {a0 : Act} (hnw : ∀ d ∈ hd, ∀ (i : Nat) o, ops[i]? = some o → o.dst ≠ some d) (hQ : ∀ a' w', Aft Γ K I X w β σ a' w' → Q .normal a' w') :
    ∀ (fuel n : Nat) (listed : Array Bool) (S' : St) (a' : Act) (w' : World) (I' : Imm) (β' : Beta) (σ' : Nat → Sig), listed.size = ops.size → p ≤ n → n ≤ ops.size → (∀ j, j < n → Lof listed j = true) → (∀ j, n ≤ j → Lof listed j = false) →
      cntF (Lof listed) ops.size ≤ fuel → (∀ d ∈ hd, a'.tmps.getD d undef = a0.tmps.getD d undef) → iopsH C Γ ops.toList (heldI S0 hd) (ops.toList.drop n) K S' → Rel Γ S' a' w' I' X β' σ' → Ext I X w I' w' → Above β β' σ σ' → wpAnyH Γ.P .any ops Q (HeldX hd S0 a0 I) fuel listed a' w' := by
  intro fuel
  induction fuel with
  | zero =>
    intro n listed S' a' w' I' β' σ' hsz hp hn hl1 hl2 hc hat h r he ha
    have hnn : n = ops.size := by
      rcases Nat.lt_or_ge n ops.size with h' | h'
      · have := cntF_pos (hl2 n (Nat.le_refl _)) h'; omega
      · omega
    subst hnn
    have hdr : ops.toList.drop ops.size = [] := List.drop_eq_nil_of_le (by simp)
    rw [hdr] at h
    refine ⟨?_, hQ _ _ ⟨S', I', β', σ', h, r, he, ha⟩⟩
    cases hr : Region.ready .any ops listed with
    | nil => rfl
    | cons i l =>
      have : i ∈ Region.ready .any ops listed := by rw [hr]; simp
      rw [ready_spec hsz] at this
      obtain ⟨h1, o, ho, _⟩ := this
      rw [hl1 i (Array.getElem?_eq_some_iff.1 ho).1] at h1; cases h1
  | succ fuel ih =>
    intro n listed S' a' w' I' β' σ' hsz hp hn hl1 hl2 hc hat h r he ha
    rcases Nat.lt_or_ge n ops.size with hlt | hge
    · have hmem : n ∈ Region.ready .any ops listed := ready_first k hsz hlt (hl2 n (Nat.le_refl _)) hl1
      refine ⟨fun e => (by rw [e] at hmem; cases hmem), fun i hi => ?_⟩
      rw [ready_spec hsz] at hi
      obtain ⟨h1, o, ho, h2⟩ := hi
      have hin : i = n := by
        rcases Nat.lt_trichotomy i n with h' | h' | h'
        · rw [hl1 i h'] at h1; cases h1
        · exact h'
        · have := k.suf i o ho (by omega) (Lof listed) (fun i' o' ho' hl' j hb => hl1 j (by
            have hlt' := bindOn_lt k ho' hb
            rcases Nat.lt_or_ge i' n with h9 | h9
            · omega
            · rw [hl2 i' h9] at hl'; cases hl')) h2 n h'
          rcases this with this | this
          · rw [hl2 n (Nat.le_refl _)] at this; cases this
          · have := (floatB_spec (show ops[n]? = some ops[n] by simp [hlt]) this).1
            omega
      subst hin
      have hdrop : ops.toList.drop i = o :: ops.toList.drop (i + 1) := by
        have hi' : i < ops.toList.length := by simpa using hlt
        rw [List.drop_eq_getElem_cons hi']
        congr 1
        have := (Array.getElem?_eq_some_iff.1 ho).2
        simpa using this
      rw [hdrop] at h
      simp only [iopsH] at h
      rw [iops_cons] at h
      have h1' := iop1_sound hT hC (ops := ops) o h r Q
      have next : ∀ a2 w2, Aft Γ (fun S' => HOLD (heldI S0 hd S') (iopsH C Γ ops.toList (heldI S0 hd) (ops.toList.drop (i + 1)) K S')) I' X w' β' σ' a2 w2 → (∀ t, o.dst ≠ some t → a2.tmps.getD t undef = a'.tmps.getD t undef) →
          HeldX hd S0 a0 I w2 ∧ wpAnyH Γ.P .any ops Q (HeldX hd S0 a0 I) fuel (listed.setIfInBounds i true) a2 w2 := by
        rintro a2 w2 ⟨S2, I2, β2, σ2, k1, k2, k3, k4⟩ hta
        obtain ⟨k0, k1⟩ := k1
        have hat2 : ∀ d ∈ hd, a2.tmps.getD d undef = a0.tmps.getD d undef := fun d hm => (hta d (hnw d hm i o ho)).trans (hat d hm)
        have hset := Lof_set (listed := listed) (i := i) (by omega)
        refine ⟨⟨held_of k2 k0 hat2, fun x u hx => k2.mem.im _ _ ((he.trans k3).imm _ _ hx)⟩, ih (i + 1) _ S2 a2 w2 I2 β2 σ2 (by simpa using hsz) (by omega) hlt (fun j hj => ?_) (fun j hj => ?_) ?_ hat2 k1 k2 (he.trans k3) (ha.trans k4)⟩
        · rw [hset]; unfold setF; split
          · rfl
          · exact hl1 j (by omega)
        · rw [hset]; unfold setF; split
          · omega
          · exact hl2 j (by omega)
        · rw [hset]
          have := cntF_set h1 hlt; omega
      refine wpOp_mono (fun a2 w2 q => next a2 w2 q.1 q.2) (wpOp_put' ho (K := fun a2 w2 => Aft Γ (fun S' => HOLD (heldI S0 hd S') (iopsH C Γ ops.toList (heldI S0 hd) (ops.toList.drop (i + 1)) K S')) I' X w' β' σ' a2 w2) ?_)
      unfold wpOp
      simp only [ho]
      split
      · rename_i hw
        rw [if_pos hw] at h1'
        exact .inl h1'
      · rename_i hw
        rw [if_neg hw] at h1'
        exact h1'
    · have hnn : n = ops.size := by omega
      subst hnn
      have hdr : ops.toList.drop ops.size = [] := List.drop_eq_nil_of_le (by simp)
      rw [hdr] at h
      refine ⟨fun _ => hQ _ _ ⟨S', I', β', σ', h, r, he, ha⟩, fun i hi => ?_⟩
      rw [ready_spec hsz] at hi
      obtain ⟨h1, o, ho, _⟩ := hi
      rw [hl1 i (Array.getElem?_eq_some_iff.1 ho).1] at h1; cases h1

theorem isInH_spec {d : Nat} : ∀ (l : List Nat), floatsOK.isInH l d = true → d ∈ l
  | [], h => by cases h
  | y :: r, h => by
    simp only [floatsOK.isInH, Bool.or_eq_true] at h
    rcases h with h | h
    · rw [(beq_iff _ _).1 h]; simp
    · exact List.mem_cons_of_mem _ (isInH_spec r h)

theorem floatsOK_spec {S : St} {all : List Oper} {hd : List Nat} {vp : Bool} : ∀ {l : List Nat}, floatsOK Γ S all hd vp l = true → ∀ j ∈ l, ∃ o, all[j]? = some o ∧
    (∀ t x, o.op = .load t x → (∃ d off, evo Γ S x = .ptr 0 d off ∧ d ∈ hd ∧ (isIntAt S o.dst = true ∨ allIntC S d = true)) ∨ (vp = true ∧ (∃ e n f i j, evo Γ S x = .vptr e n f i j) ∧ isIntAt S o.dst = true)) ∧
    (∀ op t x y t', o.op = .binOp op t x y t' → isIntAt S o.dst = true)
  | [], _, j, hj => by cases hj
  | x :: r, h, j, hj => by
    simp only [floatsOK, Bool.and_eq_true, nthO_eq] at h
    obtain ⟨h1, h2⟩ := h
    rcases List.mem_cons.1 hj with rfl | hj
    · split at h1
      · rename_i o ho
        refine ⟨o, ho, fun t x hop => ?_, fun op t x y t' hop => ?_⟩
        · simp only [hop] at h1
          split at h1
          · rename_i d off hx
            simp only [Bool.and_eq_true, Bool.or_eq_true] at h1
            exact .inl ⟨d, off, hx, isInH_spec hd h1.1, h1.2⟩
          · rename_i e n f i j hx
            simp only [Bool.and_eq_true] at h1
            exact .inr ⟨h1.1, ⟨e, n, f, i, j, hx⟩, h1.2⟩
          · cases h1
        · simpa [hop] using h1
      · cases h1
    · exact floatsOK_spec h2 j hj

theorem isIntAt_spec {S : St} {d : Nat} (h : isIntAt S (some d) = true) : ∃ k n, look S.tm d = .int k n := by
  unfold isIntAt at h
  simp only at h
  split at h
  · rename_i k n hx; exact ⟨k, n, hx⟩
  · cases h

/-- What an operation that floats yields. -/
theorem float_at (hT : TOK Γ.P Γ.T) {fl : Option (List Nat)} (k : DOK ops p fl) {hd : List Nat} {a0 a' : Act} {w' : World} {I' : Imm} {β' : Beta} {σ' : Nat → Sig} {bl : Nat → Nat} {ℓ : Nat → Bool}
    (hf : ∀ (j : Nat) o, j < p → ops[j]? = some o → Fact C Γ ops.toList cr S0 val act j o) {Se : St} (hse : Is S0 ops.toList val p Se) {vp : Bool} {l : List Nat} (hfo : floatsOK Γ Se ops.toList hd vp l = true)
    (hsome : heldI S0 hd (some' S0 ops val p ℓ)) (hat : ∀ d ∈ hd, a'.tmps.getD d undef = a0.tmps.getD d undef) {Sw : World → Prop} (hS : ∀ w', Sw w' → Held hd S0 a0 w') (hI : vp = true → ∀ w', Sw w' → ∀ x u, I' x = some u → w'.cell? x = some u)
    (v : Inv Γ ops p S0 val w I X β σ ℓ a' w' I' β' σ' bl) (hdc : DC ops ℓ) {i : Nat} {o : Oper} (hil : i ∈ l) (hip : i < p) (ho : ops[i]? = some o) (g2 : ∀ j, bindOn o j = true → ℓ j = true) (hpure : pureL o = true) (hgn : o.guard = none) :
    ∃ u, V I' β' (σ' 0) (val i) u ∧ ∀ w', Sw w' → (execOp a'.eval o).run Γ.P w' = .ok (.value u) w' := by
  have F := hf i o hip ho
  have hact : act i = true := by have g := F.guard; rw [hgn] at g; exact g
  have hag : ∀ t ∈ looks ops.toList o, look (some' S0 ops val p ℓ).tm t = look (lex S0 ops.toList val i).tm t := fun t ht => look_agree k hdc ho hip g2 ht
  have halike : Alike (opTs o.op.operands.toList) (lex S0 ops.toList val i) (some' S0 ops val p ℓ) := ⟨fun t ht => (hag t (by simp only [looks, List.mem_append]; exact .inl ht)).symm, rfl, rfl⟩
  have n1 : ∀ t, o.op ≠ .alloc t := fun t e => by simp [pureL, pureO, e] at hpure
  have n2 : ∀ t x, o.op ≠ .box t x := fun t x e => by simp [pureL, pureO, e] at hpure
  have n3 : ∀ t y x, o.op ≠ .store t y x := fun t y x e => by simp [pureL, pureO, e] at hpure
  obtain ⟨hpv, _⟩ := F.other hact n1 n2 n3
  obtain ⟨o2, ho2, hL, hB⟩ := floatsOK_spec hfo i hil
  have hoo : o2 = o := by
    have : ops.toList[i]? = some o := by simpa using ho
    rw [this] at ho2; exact (Option.some.inj ho2).symm
  subst hoo
  have hval : ∀ d, o2.dst = some d → look Se.tm d = val i := fun d hd' => by
    rw [hse.tm d]
    simp only [lex]
    exact look_tmL_some (fun j hj hjd => k.dst j i d hj hip hjd (by rw [dst_of ho]; exact hd')) hip rfl (by rw [dst_of ho]; exact hd')
  have hint : isIntAt Se o2.dst = true → ∃ k n, val i = .int k n := fun q => by
    cases hd' : o2.dst with
    | none => rw [hd'] at q; cases q
    | some d =>
      rw [hd'] at q
      obtain ⟨k', n', e⟩ := isIntAt_spec q
      exact ⟨k', n', (hval d hd').symm.trans e⟩
  have hsame : ∀ x, x ∈ o2.op.operands.toList → evo Γ (some' S0 ops val p ℓ) x = evo Γ Se x := fun x hx => by
    cases x with
    | tmp t' =>
      have ht' : t' ∈ looks ops.toList o2 := by simp only [looks, List.mem_append]; exact .inl (mem_opTs hx (by simp [opT]))
      show look (some' S0 ops val p ℓ).tm t' = look Se.tm t'
      rw [hag t' ht', hse.tm t']
      simp only [lex]
      by_cases hex : ∃ j, j < p ∧ dstOf ops.toList j = some t'
      · obtain ⟨j, hj, hjd⟩ := hex
        have hji := (k.look i o2 ho hip t' ht' j hj hjd).1
        rw [look_tmL_some (i := j) (fun j' hj' hjd' => k.dst j' j t' (by omega) hj hjd' hjd) hji rfl hjd, look_tmL_some (i := j) (fun j' hj' hjd' => k.dst j' j t' hj' hj hjd' hjd) hj rfl hjd]
      · rw [look_tmL_none fun j hj _ e => hex ⟨j, by omega, e⟩, look_tmL_none fun j hj _ e => hex ⟨j, hj, e⟩]
    | const c => rfl
    | global g => rfl
    | func f => rfl
  exact float_yieldsH (S0 := S0) (a0 := a0) hT hpure (fun K hk => pval_alike halike (hpv K hk)) v.rel hS hI
    (fun t x hop => by
      have hx : x ∈ o2.op.operands.toList := by simp [hop, Op.operands]
      rcases hL t x hop with ⟨d, off, h, hm, hq⟩ | ⟨h0, ⟨e, n, f, i', j', h⟩, hq⟩
      · refine .inl ⟨d, off, (hsame x hx).trans h, hm, ?_⟩
        rcases hq with hq | hq
        · exact .inl (hint hq)
        · refine .inr fun c hc => ?_
          unfold allIntC at hq
          have hce : Se.ce = S0.ce := hse.ce
          rw [hce] at hq
          have hc : lookC S0.ce d = some c := hc
          rw [hc] at hq
          exact hq
      · exact .inr ⟨h0, ⟨e, n, f, i', j', (hsame x hx).trans h⟩, hint hq⟩)
    (fun q => by
      obtain ⟨op, t, x, y, t', hop⟩ := q
      exact hint (hB op t x y t' hop))
    hsome hat

/-- The front, in any order, and what comes behind it; what is held stays. -/
theorem front_anyH (hT : TOK Γ.P Γ.T) (hC : HC C Γ) {rl l : List Nat} (k : DOK ops p (some (rl ++ l))) {hd : List Nat} {a0 : Act} (hnw : ∀ d ∈ hd, ∀ (i : Nat) o, ops[i]? = some o → o.dst ≠ some d) (hh0 : heldI S0 hd S0)
    (hf : ∀ (j : Nat) o, j < p → ops[j]? = some o → Fact C Γ ops.toList cr S0 val act j o) (hnt : noTags cr S0) (hcr : ∀ (i : Nat) o d, i < p → ops[i]? = some o → creates o = true → o.dst = some d → d ∈ cr)
    {Se : St} (hse : Is S0 ops.toList val p Se) (hfo : floatsOK Γ Se ops.toList hd false l = true) (hk : adopt Γ (ops.toList.take p) (ops.toList.take p) (iopsH C Γ ops.toList (heldI S0 hd) (ops.toList.drop p) K) Se)
    (hQ : ∀ a' w', Aft Γ K I X w β σ a' w' → Q .normal a' w') (hP : ∀ c a' w', ¬ Q (.panic c) a' w') :
    ∀ (fuel : Nat) (listed : Array Bool) (a' : Act) (w' : World) (I' : Imm) (β' : Beta) (σ' : Nat → Sig) (bl : Nat → Nat), listed.size = ops.size → (∀ j, p ≤ j → Lof listed j = false) → cntF (Lof listed) ops.size ≤ fuel → DC ops (Lof listed) → (∀ j ∈ rl, Lof listed j = true) →
      (∀ d ∈ hd, a'.tmps.getD d undef = a0.tmps.getD d undef) → Inv Γ ops p S0 val w I X β σ (Lof listed) a' w' I' β' σ' bl → wpAnyH Γ.P .any ops Q (HeldX hd S0 a0 I) fuel listed a' w' := by
  have hsome : ∀ (ℓ : Nat → Bool), heldI S0 hd (some' S0 ops val p ℓ) := fun ℓ => heldI_of fun d hm => by
    refine ⟨rfl, ?_⟩
    simp only [some']
    rw [look_tmL_none]
    · exact (heldI_spec hh0 d hm).2
    · intro i _ _ e
      rw [dstOf_eq] at e
      cases ho : ops[i]? with
      | none => have : ops.toList[i]? = none := by simpa using ho
                simp [this] at e
      | some o =>
        have ho' : ops.toList[i]? = some o := by simpa using ho
        exact hnw d hm i o ho (by simpa [ho'] using e)
  have whole : ∀ (fuel : Nat) (listed : Array Bool) (a' : Act) (w' : World) (I' : Imm) (β' : Beta) (σ' : Nat → Sig) (bl : Nat → Nat), listed.size = ops.size → (∀ j, p ≤ j → Lof listed j = false) → cntF (Lof listed) ops.size ≤ fuel →
      (∀ d ∈ hd, a'.tmps.getD d undef = a0.tmps.getD d undef) → Inv Γ ops p S0 val w I X β σ (Lof listed) a' w' I' β' σ' bl → (∀ j, j < p → Lof listed j = true) → wpAnyH Γ.P .any ops Q (HeldX hd S0 a0 I) fuel listed a' w' := by
    intro fuel listed a' w' I' β' σ' bl hsz hl2 hc hat v hall
    have r1 : Rel Γ Se a' w' I' (fun b => X b ∨ ∃ j, 0 ≤ j ∧ j < p ∧ MkAt ops j ∧ bl j = b) β' σ' := by
      refine (v.rel.congr (fun t => ?_) hse.ce hse.up).sub fun b hb => ?_
      · rw [hse.tm t]
        simp only [lex, some']
        congr 1
        have : ∀ n, n ≤ p → tmL S0.tm (dstOf ops.toList) val (fun _ => true) n = tmL S0.tm (dstOf ops.toList) val (Lof listed) n := by
          intro n
          induction n with
          | zero => intro _; rfl
          | succ n ih => intro hn; simp only [tmL]; rw [ih (by omega), hall n (by omega)]
        exact this p (Nat.le_refl _)
      · rcases hb with hb | ⟨j, _, h2, h3, h4⟩
        · exact .inl hb
        · exact .inr ⟨j, h2, hall j h2, h3, h4⟩
    obtain ⟨S', β2, g1, g2, g3⟩ := adopt_all hT k v hall (ops.toList.take p) 0 Se β' (fun j => by simp) (.refl _ _) r1 hk
    exact tail_anyH hT hC k hnw hQ fuel p listed S' a' w' I' β2 σ' hsz (Nat.le_refl _) k.le hall hl2 hc hat g1 g2 v.ext (v.abv.trans g3)
  intro fuel
  induction fuel with
  | zero =>
    intro listed a' w' I' β' σ' bl hsz hl2 hc hdc hrl hat v
    refine whole 0 listed a' w' I' β' σ' bl hsz hl2 hc hat v fun j hj => ?_
    cases hj' : Lof listed j with
    | true => rfl
    | false => have := cntF_pos hj' (n := ops.size) (by have := k.le; omega); omega
  | succ fuel ih =>
    intro listed a' w' I' β' σ' bl hsz hl2 hc hdc hrl hat v
    have hS : HeldX hd S0 a0 I w' := ⟨held_of v.rel (hsome _) hat, fun x u hx => v.rel.mem.im _ _ (v.ext.imm _ _ hx)⟩
    by_cases hfl : ∃ i o, i < p ∧ Lof listed i = false ∧ ops[i]? = some o ∧ (∀ j, bindOn o j = true → Lof listed j = true) ∧ floatB (some (rl ++ l)) ops.toList p i = true
    · obtain ⟨i, o, hip, g1, ho, g2, hfB⟩ := hfl
      obtain ⟨_, hpure, hgn, hap⟩ := floatB_spec ho hfB
      simp only [floats, Bool.and_eq_true] at hpure
      obtain ⟨hil, hpure⟩ := hpure
      have hil : i ∈ l := by
        rcases List.mem_append.1 (by simpa using hil : i ∈ rl ++ l) with h | h
        · rw [hrl i h] at g1; cases g1
        · exact h
      have hready : i ∈ Region.ready .any ops listed := by rw [ready_spec hsz]; exact ⟨g1, o, ho, g2⟩
      have his : i < ops.size := (Array.getElem?_eq_some_iff.1 ho).1
      obtain ⟨u, _, hu⟩ := float_at (Sw := HeldX hd S0 a0 I) (vp := false) hT k hf hse hfo (hsome _) hat (fun w' h => h.1) (fun h => by cases h) v hdc hil hip ho g2 hpure hgn
      have st := front_step hT hC k hf hnt hcr hdc ho hip g1 g2 v (fun _ _ _ => False)
      have st := wpOp_put' ho st
      unfold wpOp at st
      simp only [ho] at st
      have hw : Region.wanted o (yielded ops a'.tmps) = true := by simp [Region.wanted, hgn]
      rw [if_pos hw] at st
      rcases st with st | ⟨_, h⟩
      rotate_left
      · obtain ⟨_, _, h⟩ := h
        exact h.elim
      unfold Oper.wp at st
      rw [hu w' hS, Oper.upon_value] at st
      obtain ⟨⟨I2, β2, σ2, bl2, v2⟩, hta⟩ := st
      have hset := Lof_set (listed := listed) (i := i) (by omega)
      refine wpAnyH_first ho (fun j y cs b hy => k.ns j y cs b hy) (fun c a w h => (hP _ _ _ h).elim) fuel listed a' w' (fun j oj hj hji hlj hno => ?_) hready (.inl ⟨by simp [Region.wanted, hgn], hu⟩) hS ?_
      · rcases hap j oj hj hji with h | h | h
        · unfold bindOn at h
          rw [List.any_eq_true] at h
          obtain ⟨e, he, hb⟩ := h
          simp only [Bool.and_eq_true] at hb
          exact absurd ((beq_iff _ _).1 hb.2) (hno e (by simpa using he) hb.1)
        · have hLj := g2 j h
          have hjs : j < listed.size := by rw [hsz]; exact (Array.getElem?_eq_some_iff.1 hj).1
          simp only [Lof, Array.getD_eq_getD_getElem?, Array.getElem?_eq_getElem hjs, Option.getD_some] at hLj hlj
          rw [hLj] at hlj; cases hlj
        · exact h
      · refine ih _ _ w' I2 β2 σ2 bl2 (by simpa using hsz) (fun j hj => ?_) ?_ ?_ ?_ (fun d hm => (hta d (hnw d hm i o ho)).trans (hat d hm)) (by rw [hset]; exact v2)
        · rw [hset]; unfold setF; split
          · omega
          · exact hl2 j hj
        · rw [hset]; have := cntF_set g1 his; omega
        · rw [hset]; exact hdc.upd ho g2
        · intro j hj; rw [hset]; unfold setF; split
          · rfl
          · exact hrl j hj
    by_cases hx : ∃ i, i < p ∧ Lof listed i = false
    · obtain ⟨i0, hi0, hf0⟩ := hx
      obtain ⟨i1, h1, h2, h3⟩ := first_false i0 hf0
      have hmem : i1 ∈ Region.ready .any ops listed := ready_first k hsz (by have := k.le; omega) h2 h3
      refine ⟨fun e => (by rw [e] at hmem; cases hmem), fun i hi => ?_⟩
      rw [ready_spec hsz] at hi
      obtain ⟨g1, o, ho, g2⟩ := hi
      have his : i < ops.size := (Array.getElem?_eq_some_iff.1 ho).1
      have hip : i < p := by
        rcases Nat.lt_or_ge i p with h' | h'
        · exact h'
        · have hi1 : i1 < ops.size := by have := k.le; omega
          rcases k.suf i o ho h' (Lof listed) hdc g2 i1 (by omega) with this | this
          · rw [h2] at this; cases this
          · exact absurd ⟨i1, ops[i1], by omega, h2, by simp [hi1], fun j hj => h3 j (bindOn_lt k (by simp [hi1]) hj), this⟩ hfl
      refine wpOp_mono ?_ (wpOp_put' ho (front_step hT hC k hf hnt hcr hdc ho hip g1 g2 v Q))
      rintro a2 w2 ⟨⟨I2, β2, σ2, bl2, v2⟩, hta⟩
      have hset := Lof_set (listed := listed) (i := i) (by omega)
      have hat2 : ∀ d ∈ hd, a2.tmps.getD d undef = a0.tmps.getD d undef := fun d hm => (hta d (hnw d hm i o ho)).trans (hat d hm)
      refine ⟨⟨held_of v2.rel (hsome _) hat2, fun x u hx => v2.rel.mem.im _ _ (v2.ext.imm _ _ hx)⟩, ih _ a2 w2 I2 β2 σ2 bl2 (by simpa using hsz) (fun j hj => ?_) ?_ ?_ ?_ hat2 (by rw [hset]; exact v2)⟩
      · rw [hset]; unfold setF; split
        · omega
        · exact hl2 j hj
      · rw [hset]; have := cntF_set g1 his; omega
      · rw [hset]; exact hdc.upd ho g2
      · intro j hj; rw [hset]; unfold setF; split
        · rfl
        · exact hrl j hj
    · refine whole (fuel + 1) listed a' w' I' β' σ' bl hsz hl2 hc hat v fun j hj => ?_
      cases hj' : Lof listed j with
      | true => rfl
      | false => exact absurd ⟨j, hj, hj'⟩ hx

/-- What floats and hangs on nothing of the region else may come up first. -/
theorem roots_anyH (hT : TOK Γ.P Γ.T) (hC : HC C Γ) {rl l : List Nat} (k : DOK ops p (some (rl ++ l))) {hd : List Nat} {a0 : Act} (hnw : ∀ d ∈ hd, ∀ (i : Nat) o, ops[i]? = some o → o.dst ≠ some d) (hh0 : heldI S0 hd S0)
    (hf : ∀ (j : Nat) o, j < p → ops[j]? = some o → Fact C Γ ops.toList cr S0 val act j o) (hnt : noTags cr S0) (hcr : ∀ (i : Nat) o d, i < p → ops[i]? = some o → creates o = true → o.dst = some d → d ∈ cr)
    {Se : St} (hse : Is S0 ops.toList val p Se) (hfr : floatsOK Γ Se ops.toList hd true rl = true) (hfo : floatsOK Γ Se ops.toList hd false l = true) (hk : adopt Γ (ops.toList.take p) (ops.toList.take p) (iopsH C Γ ops.toList (heldI S0 hd) (ops.toList.drop p) K) Se)
    (hQ : ∀ a' w', Aft Γ K I X w β σ a' w' → Q .normal a' w') (hP : ∀ c a' w', ¬ Q (.panic c) a' w') :
    ∀ (todo dn : List Nat) (fuel : Nat) (listed : Array Bool) (a' : Act) (β' : Beta) (σ' : Nat → Sig) (bl : Nat → Nat), rootsB (some (rl ++ l)) ops.toList p dn todo = true → (∀ j ∈ todo, j ∈ rl) → (∀ j ∈ rl, j ∈ todo ∨ j ∈ dn) → (∀ j, Lof listed j = true ↔ j ∈ dn) → listed.size = ops.size → (∀ j, p ≤ j → Lof listed j = false) → cntF (Lof listed) ops.size ≤ fuel → DC ops (Lof listed) →
      (∀ d ∈ hd, a'.tmps.getD d undef = a0.tmps.getD d undef) → Inv Γ ops p S0 val w I X β σ (Lof listed) a' w I β' σ' bl → wpAnyH Γ.P .any ops Q (HeldX hd S0 a0 I) fuel listed a' w
  | [], dn, fuel, listed, a', β', σ', bl, _, _, hall, hdn, hsz, hl2, hc, hdc, hat, v =>
    front_anyH hT hC k hnw hh0 hf hnt hcr hse hfo hk hQ hP fuel listed a' w I β' σ' bl hsz hl2 hc hdc (fun j hj => (hdn j).2 (by rcases hall j hj with h | h; cases h; exact h)) hat v
  | i :: r, dn, fuel, listed, a', β', σ', bl, hB, htodo, hall, hdn, hsz, hl2, hc, hdc, hat, v => by
    simp only [rootsB, Bool.and_eq_true, nthO_eq] at hB
    obtain ⟨⟨⟨b1, b2⟩, b3⟩, b4⟩ := hB
    split at b3
    rotate_left
    · cases b3
    rename_i o ho'
    have ho : ops[i]? = some o := by simpa using ho'
    have his : i < ops.size := (Array.getElem?_eq_some_iff.1 ho).1
    obtain ⟨hip, hpure, hgn, hap⟩ := floatB_spec ho b2
    simp only [floats, Bool.and_eq_true] at hpure
    have g1 : Lof listed i = false := by
      cases h : Lof listed i with
      | false => rfl
      | true =>
        have := (hdn i).1 h
        simp [this] at b1
    have g2 : ∀ j, bindOn o j = true → Lof listed j = true := fun j hj => by
      have hji := bindOn_lt k ho hj
      have := upTo_spec b3 j (by simp; omega)
      rw [hj] at this
      exact (hdn j).2 (by simpa using this)
    obtain ⟨fuel, rfl⟩ : ∃ f, fuel = f + 1 := ⟨fuel - 1, by have := cntF_pos g1 his; omega⟩
    have hsome : ∀ (ℓ : Nat → Bool), heldI S0 hd (some' S0 ops val p ℓ) := fun ℓ => heldI_of fun d hm => by
      refine ⟨rfl, ?_⟩
      simp only [some']
      rw [look_tmL_none]
      · exact (heldI_spec hh0 d hm).2
      · intro i _ _ e
        rw [dstOf_eq] at e
        cases ho : ops[i]? with
        | none => have : ops.toList[i]? = none := by simpa using ho
                  simp [this] at e
        | some o =>
          have ho' : ops.toList[i]? = some o := by simpa using ho
          exact hnw d hm i o ho (by simpa [ho'] using e)
    have hS : HeldX hd S0 a0 I w := ⟨held_of v.rel (hsome _) hat, fun x u hx => v.rel.mem.im _ _ hx⟩
    obtain ⟨u, hv, hu⟩ := float_at (Sw := HeldX hd S0 a0 I) (vp := true) hT k hf hse hfr (hsome _) hat (fun w' h => h.1) (fun _ w' h => h.2) v hdc (htodo i (by simp)) hip ho g2 hpure.2 hgn
    have hready : i ∈ Region.ready .any ops listed := by rw [ready_spec hsz]; exact ⟨g1, o, ho, g2⟩
    have F := hf i o hip ho
    have hput : ∀ t, o.dst ≠ some t → (a'.put o.dst u).tmps.getD t undef = a'.tmps.getD t undef := fun t ht => by
      cases hd : o.dst with
      | none => rfl
      | some d =>
        have hne : d ≠ t := fun e => ht (by rw [hd, e])
        simp only [Act.put, Array.getD_eq_getD_getElem?]
        rw [Array.getElem?_setIfInBounds_ne hne]
    have hmk : ¬ Mk o := fun e => by
      rcases e with ⟨t, e⟩ | ⟨t, x, e⟩ <;> simp [pureL, pureO, e] at hpure
    have hns : ∀ t y x, o.op ≠ .store t y x := fun t y x e => by simp [pureL, pureO, e] at hpure
    have v2 : Inv Γ ops p S0 val w I X β σ (setF (Lof listed) i true) (a'.put o.dst u) w I β' σ' bl := by
      refine v.quiet k hdc ho hip g1 hmk hns ?_ (.refl _ _ _) (.refl _ _) hput
      cases hd : o.dst with
      | none => exact v.rel
      | some d => exact v.rel.put (F.nt d hd) hv
    have hset := Lof_set (listed := listed) (i := i) (by omega)
    refine wpAnyH_first ho (fun j y cs b hy => k.ns j y cs b hy) (fun c a w h => (hP _ _ _ h).elim) fuel listed a' w (fun j oj hj hji hlj hno => ?_) hready (.inl ⟨by simp [Region.wanted, hgn], hu⟩) hS ?_
    · rcases hap j oj hj hji with h | h | h
      · unfold bindOn at h
        rw [List.any_eq_true] at h
        obtain ⟨e, he, hb⟩ := h
        simp only [Bool.and_eq_true] at hb
        exact absurd ((beq_iff _ _).1 hb.2) (hno e (by simpa using he) hb.1)
      · have hLj := g2 j h
        have hjs : j < listed.size := by rw [hsz]; exact (Array.getElem?_eq_some_iff.1 hj).1
        simp only [Lof, Array.getD_eq_getD_getElem?, Array.getElem?_eq_getElem hjs, Option.getD_some] at hLj hlj
        rw [hLj] at hlj; cases hlj
      · exact h
    · refine roots_anyH hT hC k hnw hh0 hf hnt hcr hse hfr hfo hk hQ hP r (i :: dn) fuel _ _ β' σ' bl b4 (fun j hj => htodo j (by simp [hj])) (fun j hj => ?_) (fun j => ?_) (by simpa using hsz) (fun j hj => ?_) ?_ ?_ (fun d hm => (hput d (hnw d hm i o ho)).trans (hat d hm)) (by rw [hset]; exact v2)
      · rcases hall j hj with h | h
        · rcases List.mem_cons.1 h with rfl | h
          · exact .inr (by simp)
          · exact .inl h
        · exact .inr (by simp [h])
      · rw [hset]; unfold setF; split
        · rename_i e; simp [e]
        · rename_i e; rw [hdn j]; simp [e]
      · rw [hset]; unfold setF; split
        · omega
        · exact hl2 j hj
      · rw [hset]; have := cntF_set g1 his; omega
      · rw [hset]; exact hdc.upd ho g2

theorem drawn_anyH (hT : TOK Γ.P Γ.T) (hC : HC C Γ) {p : Nat} {hd rl l : List Nat} (hok : (drawOK ops.toList p (some (rl ++ l)) && rootsB (some (rl ++ l)) ops.toList p [] rl && ops.toList.all (fun o => match o.dst with | some d => !hd.contains d | none => true)) = true) (hdr : drawnH C Γ ops.toList p hd rl l K S) (r : Rel Γ S a w I X β σ)
    (hQ : ∀ a' w', Aft Γ K I X w β σ a' w' → Q .normal a' w') (hP : ∀ c a' w', ¬ Q (.panic c) a' w') :
    wpAny Γ.P .any ops Q ops.size (Array.replicate ops.size false) a { w with drawn := w.drawn + 1 } ∧ ∀ (i : Nat) o, ops[i]? = some o → ∀ c, o.op ≠ .defer c := by
  simp only [Bool.and_eq_true] at hok
  obtain ⟨⟨hok, hrB⟩, hnw0⟩ := hok
  have hnw : ∀ d ∈ hd, ∀ (i : Nat) o, ops[i]? = some o → o.dst ≠ some d := fun d hm i o ho e => by
    rw [List.all_eq_true] at hnw0
    have := hnw0 o (List.mem_of_getElem? (i := i) (by simpa using ho))
    rw [e] at this
    simp at this
    exact this hm
  have k := drawOK_spec hok
  have r1 := r.draw (w.drawn + 1)
  obtain ⟨S0, σ1, hp, r2, hab, hnt⟩ := untagL_sound (creators (ops.toList.take p)) [] S σ hdr (fun d hd => by cases hd) r1
  obtain ⟨hh0, hp⟩ := hp
  obtain ⟨val, act, Se, hf, hse, hk⟩ := pres_spec (C := C) (Γ := Γ) (all := ops.toList) (cr := creators (ops.toList.take p)) (S0 := S0) (p := p) (fun _ _ _ _ _ _ _ _ => trivial)
    (fun i o t a x hi ho hop => (k.st i o t a x (by simpa using ho) hi hop).choose_spec.2.1) (ops.toList.take p) 0 (fun _ => .dead) (fun _ => false) S0 (by have := k.le; simp; omega)
    (fun j hj => by rw [List.getElem?_take, if_pos (by simp at hj; omega)]; simp) ⟨fun _ => rfl, rfl, rfl⟩ (fun j o hj => by omega) hp
  split at hk
  · rename_i hfo
    simp only [Bool.and_eq_true] at hfo
    refine ⟨wpAny_of_held (S := HeldX hd S0 a I) _ _ _ _ ?_, k.nd⟩
    have hlof : ∀ j, Lof (Array.replicate ops.size false) j = false := fun j => by
      simp only [Lof, Array.getD_eq_getD_getElem?, Array.getElem?_replicate]
      split <;> rfl
    refine roots_anyH hT hC k hnw hh0 (fun j o hj ho => hf j o hj (by simpa using ho)) (by simpa using hnt) (fun i o d hi ho hc hdd => ?_) hse hfo.1 hfo.2 hk (I := I) (X := X) (β := β) (σ := σ) (w := { w with drawn := w.drawn + 1 }) (fun a' w' h => hQ a' w' (by
        obtain ⟨S', I', β', σ', h1, h2, h3, h4⟩ := h
        exact ⟨S', I', β', σ', h1, h2, ⟨h3.os, h3.tape, h3.output, h3.size, h3.keep, h3.imm, h3.new, h3.fix⟩, h4⟩)) hP
      rl [] ops.size _ a β σ1 (fun _ => 0) hrB (fun j hj => hj) (fun j hj => .inl hj) (fun j => by rw [hlof j]; simp) (by simp) (fun j _ => hlof j) (cntF_le _ _) (fun i o ho hl => by rw [hlof i] at hl; cases hl) (fun _ _ => rfl) ?_
    · refine creators_mem (List.mem_of_getElem? (i := i) ?_) hc hdd
      rw [List.getElem?_take, if_pos hi]; simpa using ho
    · refine ⟨?_, ⟨rfl, rfl, rfl, Nat.le_refl _, fun _ _ => rfl, fun _ _ h => h, fun _ _ => rfl, fun _ _ h _ => h⟩, ⟨fun _ => rfl, hab⟩, r.mem.xb, fun i o d _ _ _ _ hl => (by rw [hlof i] at hl; cases hl), fun i j _ _ _ _ hl => (by rw [hlof i] at hl; cases hl)⟩
      refine (r2.congr (S' := some' S0 ops val p (Lof (Array.replicate ops.size false))) (fun t => ?_) rfl rfl).sub fun b hb => ?_
      · simp only [some']
        exact look_tmL_none fun i _ hl => by rw [hlof i] at hl; cases hl
      · rcases hb with hb | ⟨j, _, h2, _⟩
        · exact hb
        · rw [hlof j] at h2; cases h2
  · exact hk.elim

theorem drawn_any (hT : TOK Γ.P Γ.T) (hC : HC C Γ) (h : DRAW C Γ ops.toList K S) (r : Rel Γ S a w I X β σ)
    (hQ : ∀ a' w', Aft Γ K I X w β σ a' w' → Q .normal a' w') (hP : ∀ c a' w', ¬ Q (.panic c) a' w') :
    wpAny Γ.P .any ops Q ops.size (Array.replicate ops.size false) a { w with drawn := w.drawn + 1 } ∧ ∀ (i : Nat) o, ops[i]? = some o → ∀ c, o.op ≠ .defer c := by
  cases h with
  | mk p hok hd => exact drawn_any0 hT hC hok hd r hQ hP
  | mkH p hd rl fl hok hk => exact drawn_anyH hT hC hok hk r hQ hP

end
end Go.Proofs.YtllmejkmogepjaaGreatDoor.Ix

/-
  Ix14: code.
-/
namespace Go.Proofs.YtllmejkmogepjaaGreatDoor.Ix
set_option linter.unusedVariables false

section
variable {Γ : Env} {S : St} {a : Act} {w : World} {I : Imm} {X : Nat → Prop} {β : Beta} {σ : Nat → Sig} {K : St → Prop}

theorem leT_look {S : Tms} : ∀ {T : Tms}, leT S T → ∀ i, look T i = .dead ∨ leV (look S i) (look T i)
  | [], _, i => .inl rfl
  | (k, v) :: r, h, i => by
    simp only [leT] at h
    rw [look_cons]
    split
    · rename_i e; subst e; exact .inr h.1
    · exact leT_look h.2 i

theorem leC_look {S : Ces} : ∀ {T : Ces}, leC S T → ∀ d c, lookC T d = some c → ∃ x, lookC S d = some x ∧ leL x c
  | [], _, d, c, h => by simp [lookC] at h
  | (k, v) :: r, h, d, c, hc => by
    simp only [leC] at h
    rw [lookC_cons] at hc
    split at hc
    · rename_i e; subst e
      simp at hc; subst hc
      obtain ⟨h1, _⟩ := h
      split at h1
      · rename_i x hx; exact ⟨x, hx, h1⟩
      · exact h1.elim
    · exact leC_look h.2 d c hc

theorem mem_keys : ∀ {T : Ces} {d : Nat}, (keys T).any (Nat.beq d) = true ↔ (lookC T d).isSome = true
  | [], d => by simp [keys, lookC]
  | (k, v) :: r, d => by
    rw [lookC_cons]
    simp only [keys, List.any_cons, Bool.or_eq_true, mem_keys (T := r)]
    by_cases h : k = d
    · subst h; simp
    · simp [h]; intro e; exact absurd e.symm h

theorem clL_get {ds : List Nat} : ∀ {xs : List IV}, clL ds xs = true → ∀ (j : Nat) x, xs[j]? = some x → clV ds x = true
  | [], _, j, x, h => by simp at h
  | y :: r, h, j, x, hx => by
    simp [clL] at h
    cases j with
    | zero => simp at hx; subst hx; exact h.1
    | succ j => exact clL_get h.2 j x (by simpa using hx)

theorem V.cl {ds : List Nat} {β' : Beta} {s : Sig} (hb : ∀ l d b, β l d = some b → (l = 0 → ds.any (Nat.beq d) = true) → β' l d = some b) {x : IV} {v : Value} (h : V I β s x v) : clV ds x = true → V I β' s x v := by
  induction h with
  | data h => exact fun _ => .data h
  | ptr l d off b h => exact fun hc => .ptr l d off b (hb l d b h (fun e => by subst e; simpa [clV] using hc))
  | ownN t e f => exact fun _ => .ownN t e f
  | own t e n f b el c g ht hc hl hi h1 h => exact fun _ => .own t e n f b el c g ht hc hl hi h1 h
  | raw t e n b el ht => exact fun _ => .raw t e n b el ht
  | agg xs vs hl h1 _ ih => exact fun hc => .agg xs vs hl h1 fun j x hx => ih j x hx (clL_get (by simpa [clV] using hc) j x hx)
  | tup xs vs hl _ ih => exact fun hc => .tup xs vs hl fun j x hx => ih j x hx (clL_get (by simpa [clV] using hc) j x hx)
  | fn f xs ys vs us hl hk _ _ ih ih' =>
    intro hc
    simp [clV] at hc
    exact .fn f xs ys vs us hl hk (fun j x hx => ih j x hx (clL_get hc.1 j x hx)) (fun j x hx => ih' j x hx (clL_get hc.2 j x hx))

theorem clV_ptr_any {ds : List Nat} {l d off : Nat} (h : clV ds (.ptr l d off) = true) : l = 0 → ds.any (Nat.beq d) = true := by
  intro e; subst e; simpa [clV] using h

theorem clT_look {ds : List Nat} : ∀ {T : Tms}, clT ds T = true → ∀ i, clV ds (look T i) = true
  | [], _, i => rfl
  | (k, v) :: r, h, i => by
    simp [clT] at h
    rw [look_cons]
    split
    · exact h.1
    · exact clT_look h.2 i
theorem clC_look {ds : List Nat} : ∀ {T : Ces}, clC ds T = true → ∀ d c, lookC T d = some c → clL ds c = true
  | [], _, d, c, h => by simp [lookC] at h
  | (k, v) :: r, h, d, c, hc => by
    simp [clC] at h
    rw [lookC_cons] at hc
    split at hc
    · simp at hc; subst hc; exact h.1
    · exact clC_look h.2 d c hc

/-- A state told as a weaker one. -/
theorem Rel.le {T : St} (h : leS S T) (r : Rel Γ S a w I X β σ) : ∃ β', Rel Γ T a w I X β' σ ∧ Above β β' σ σ := by
  have hcl := h.cl
  simp only [Bool.and_eq_true] at hcl
  let β' : Beta := fun l d => if l = 0 ∧ (lookC T.ce d).isSome = false then none else β l d
  have hsub : ∀ l d b, β' l d = some b → β l d = some b ∧ (l = 0 → (lookC T.ce d).isSome = true) := by
    intro l d b hb
    replace hb : (if l = 0 ∧ (lookC T.ce d).isSome = false then none else β l d) = some b := hb
    split at hb
    · cases hb
    · rename_i hn
      exact ⟨hb, fun e => by
        subst e
        cases hs : (lookC T.ce d).isSome with
        | true => rfl
        | false => exact absurd ⟨rfl, hs⟩ hn⟩
  have hmk : ∀ l d b, β l d = some b → (l = 0 → (keys T.ce).any (Nat.beq d) = true) → β' l d = some b := by
    intro l d b hb hk
    show (if _ then _ else _) = _
    rw [if_neg]; exact hb
    rintro ⟨rfl, h0⟩
    rw [mem_keys.1 (hk rfl)] at h0; cases h0
  refine ⟨β', ⟨fun i => ?_, r.df, r.nt, ⟨fun l d c hc => ?_, fun l d l' d' b hb hb' => r.mem.inj l d l' d' b (hsub _ _ _ hb).1 (hsub _ _ _ hb').1, fun l d b hb => ?_, r.mem.im, r.mem.glo, r.mem.xb, r.mem.gz⟩,
    ⟨fun t g hg => ?_, r.own.inj⟩⟩, fun l => ?_, fun l => rfl⟩
  · refine V.cl hmk ?_ (clT_look hcl.1 i)
    rcases leT_look h.tm i with e | e
    · rw [e]; exact .data (.dead _)
    · exact leV_sound _ _ _ e (r.tm i)
  · cases l with
    | zero =>
      simp only [upC] at hc
      obtain ⟨x, hx, hle⟩ := leC_look h.ce d c hc
      obtain ⟨b, arr, el, h1, h2, h3, h4, h5, h6⟩ := r.mem.cell 0 d x hx
      obtain ⟨g1, g2⟩ := leL_sound x c hle (fun j => arr.getD j undef) h5
      refine ⟨b, arr, el, hmk 0 d b h1 (fun _ => mem_keys.2 (by rw [hc]; rfl)), h2, by rw [h3, g1], h4, fun j y hy => ?_, h6⟩
      refine V.cl (ds := keys T.ce) (fun l' d' b' hb' hk => hmk (0 + l') d' b' hb' (fun e => hk (by omega))) (g2 j y hy) (clL_get (clC_look hcl.2 d c hc) j y hy)
    | succ l =>
      simp only [upC] at hc
      rw [← h.up] at hc
      obtain ⟨b, arr, el, h1, h2, h3, h4, h5, h6⟩ := r.mem.cell (l + 1) d c hc
      refine ⟨b, arr, el, hmk _ d b h1 (fun e => by omega), h2, h3, h4, fun j y hy => (h5 j y hy).mono (fun _ _ h => h) (fun l' d' b' hb' => hmk (l + 1 + l') d' b' hb' (fun e => by omega)) (fun _ _ h => h), h6⟩
  · obtain ⟨hb1, hb2⟩ := hsub l d b hb
    cases l with
    | zero =>
      have := hb2 rfl
      simp only [upC]
      exact ⟨_, (Option.some_get this).symm⟩
    | succ l =>
      obtain ⟨c, hc⟩ := r.mem.keys (l + 1) d b hb1
      exact ⟨c, by simp only [upC] at hc ⊢; rw [← h.up]; exact hc⟩
  · obtain ⟨cur, k1, k2, k3, k4, k5, k6, k7⟩ := r.own.row t g hg
    exact ⟨cur, k1, k2, k3, k4, k5, k6, fun l d hb => k7 l d (hsub _ _ _ hb).1⟩
  · funext d
    show (if _ then _ else _) = _
    rw [if_neg (by omega)]

def resSem (tmps : Array Value) (v : ResultVar) : Sem Value := match v with
  | .tmp t => pure (tmps.getD t undef)
  | .cell x t => do loadVar t (← asAddr (tmps.getD x undef))

theorem results_eq (fn : Func) (tmps : Array Value) : results fn tmps = (do let vs ← fn.results.mapM (resSem tmps); pure (if h : vs.size = 1 then vs[0] else .tuple vs)) := by
  unfold results
  have : (fun v => match v with
    | ResultVar.tmp t => pure (tmps.getD t undef)
    | ResultVar.cell a t => do loadVar t (← asAddr (tmps.getD a undef)) : ResultVar → Sem Value) = resSem tmps := by
    funext x; cases x <;> rfl
  rw [← this]; rfl

theorem resI_sound (hT : TOK Γ.P Γ.T) {v : ResultVar} {K : IV → Prop} (h : resI Γ S v K) (r : Rel Γ S a w I X β σ) :
    ∃ iv u, K iv ∧ V I β (σ 0) iv u ∧ (resSem a.tmps v).run Γ.P w = .ok u w := by
  cases v with
  | tmp t => simp only [resI, fv_eq] at h; exact ⟨_, _, h, r.tm t, rfl⟩
  | cell x t =>
    simp only [resI, fv_eq] at h
    obtain ⟨h0, h⟩ := tyK_spec h
    obtain ⟨inf, dd, z, tk⟩ := TOK.get hT (t := t) (.inl (by omega))
    obtain ⟨v, u, hk, hv, hr⟩ := loadI_sound tk.msize tk.agg h0 tk.one h r (r.tm x)
    refine ⟨v, u, hk, hv, ?_⟩
    have : ∀ (p : Value), (Instr.loadAt t p).run Γ.P w = .ok u w → (do loadVar t (← asAddr p) : Sem Value).run Γ.P w = .ok u w := by
      intro p hp
      cases p with
      | pointer q =>
        cases q with
        | none => simp [Instr.loadAt, Instr.sureAddr] at hp
        | some q => simpa [Instr.loadAt, Instr.sureAddr, asAddr] using hp
      | _ => simp [Instr.loadAt, Instr.sureAddr] at hp
    exact this _ hr

theorem resL_sound (hT : TOK Γ.P Γ.T) (r : Rel Γ S a w I X β σ) : ∀ (rs : List ResultVar) (K : List IV → Prop), resL Γ S rs K →
    ∃ ivs us, K ivs ∧ ivs.length = us.length ∧ (∀ (j : Nat) x, ivs[j]? = some x → V I β (σ 0) x (us.getD j undef)) ∧
      (rs.mapM (resSem a.tmps)).run Γ.P w = .ok us w
  | [], K, h => ⟨[], [], h, rfl, fun j x hx => by simp at hx, rfl⟩
  | v :: rs, K, h => by
    simp only [resL] at h
    obtain ⟨iv, u, h1, h2, h3⟩ := resI_sound hT h r
    obtain ⟨ivs, us, g1, g2, g3, g4⟩ := resL_sound hT r rs _ h1
    refine ⟨iv :: ivs, u :: us, g1, by simp [g2], fun j x hx => ?_, ?_⟩
    · cases j with
      | zero => simp at hx; subst hx; simpa using h2
      | succ j => simpa using g3 j x (by simpa using hx)
    · simp only [List.mapM_cons, Sem.run_bind, h3, Result.andThen_ok, g4]; rfl

end
end Go.Proofs.YtllmejkmogepjaaGreatDoor.Ix

/-
  Ix23: code, in the frames of activations and of rounds, what is carried beside the relation left open.
-/
namespace Go.Proofs.YtllmejkmogepjaaGreatDoor.Ix
set_option linter.unusedVariables false
set_option linter.unusedSimpArgs false

def Fw (r : Option Nat) : Fence := { Fence.wide with round := r }

theorem Fw_room (r : Option Nat) (k : Nat) : (Fw r).room k := fun d h => (by cases h)

theorem callsIn_of {r : Option Nat} {n : Nat} {P : Program} {f : FuncId} {args : Array Value} {w : World} {R : Ending → World → Prop} (h : Calls P f args w R) : CallsIn (Fw r) n P f args w R := by
  have h' := (callsIn_wide (n := n)).2 h
  cases r with
  | none => exact h'
  | some l => exact h'

theorem rowsIn_of {r : Option Nat} {n : Nat} {P : Program} {row : String} {args : Array Value} {w : World} {R : Value → World → Prop} (h : Rows P row args w R) : RowsIn (Fw r) n P row args w R := by
  intro c cs _
  obtain ⟨v, w', h1, h2⟩ := h c cs
  refine ⟨v, w', h1, ?_⟩
  have h3 := stepsIn_wide.2 h2
  cases r with
  | none => exact h3
  | some l => exact h3

theorem wpIn_of_wp {r : Option Nat} {n : Nat} {P : Program} {o : Oper} {a : Act} {w : World} {K : Act → World → Prop} {Q : Exit → Act → World → Prop} (hd : ∀ c, o.op ≠ .defer c) (h : o.wp P a w K Q) : o.wpIn (Fw r) n P a w K Q := by
  refine ⟨fun _ _ => trivial, ?_⟩
  rw [Oper.semAt_eq _ _ _ hd]
  unfold Oper.wp at h
  generalize (execOp a.eval o).run P w = x at *
  cases x with
  | ok y w' =>
    cases y <;> simp only [Oper.upon] at h <;> simp only [Oper.uponIn] <;>
      first
        | exact h
        | exact ⟨fun e => (by cases e), callsIn_of h⟩
        | exact ⟨fun e => (by cases e), rowsIn_of h⟩
  | halt y w' => cases y <;> simp only [Oper.upon] at h <;> simp only [Oper.uponIn] <;> exact h

theorem wpOpIn_of_wpOp {r : Option Nat} {n : Nat} {P : Program} {ops : Array Oper} {Q : Exit → Act → World → Prop} (hQ : ¬ LetsOut Q) (hd : ∀ (i : Nat) o, ops[i]? = some o → ∀ c, o.op ≠ .defer c) {i : Nat} {K : Act → World → Prop} {a : Act} {w : World}
    (h : wpOp P ops Q i K a w) : wpOpIn (Fw r) n P ops Q i K a w := by
  unfold wpOp at h
  unfold wpOpIn
  cases ho : ops[i]? with
  | none => simp only [ho] at h ⊢; exact h
  | some o =>
    simp only [ho] at h ⊢
    by_cases hw : Region.wanted o (yielded ops a.tmps) = true
    · rw [if_pos hw] at h ⊢
      rcases h with h | h
      · exact wpIn_of_wp (hd i o ho) h
      · exact absurd h.2 hQ
    · rw [if_neg hw] at h ⊢
      exact ⟨fun _ _ => trivial, h⟩

theorem wpAnyIn_of_wpAny {r : Option Nat} {n : Nat} {P : Program} {md : Region.Mode} {ops : Array Oper} {Q : Exit → Act → World → Prop} (hQ : ¬ LetsOut Q) (hd : ∀ (i : Nat) o, ops[i]? = some o → ∀ c, o.op ≠ .defer c) :
    ∀ (fuel : Nat) (listed : Array Bool) (a : Act) (w : World), wpAny P md ops Q fuel listed a w → wpAnyIn (Fw r) n P md ops Q fuel listed a w
  | 0, _, _, _, h => h
  | fuel + 1, _, _, _, h => ⟨h.1, fun i hi => wpOpIn_mono (fun a' w' h' => wpAnyIn_of_wpAny hQ hd fuel _ a' w' h') (wpOpIn_of_wpOp hQ hd (h.2 i hi))⟩

/-- What is carried beside the relation: something of the world, which hangs on the number of the levels; and what has become of the world. -/
structure Way where
  wr : Nat → Bool
  T : Nat → World → Imm → (Nat → Prop) → Prop
  E : World → Imm → (Nat → Prop) → World → Imm → (Nat → Prop) → Prop
  refl : ∀ w I X, E w I X w I X
  trans : ∀ {w I X w' I' X' w'' I'' X''}, E w I X w' I' X' → E w' I' X' w'' I'' X'' → E w I X w'' I'' X''

section
variable {Γ : Env} {S : St} {a : Act} {w : World} {I : Imm} {X : Nat → Prop} {β : Beta} {σ : Nat → Sig} {K : St → Prop} {W : Way}

def Same (W : Way) (a a' : Act) : Prop := ∀ i, W.wr i = false → a'.tmps.getD i undef = a.tmps.getD i undef

theorem Same.refl (W : Way) (a : Act) : Same W a a := fun _ _ => rfl
theorem Same.trans {W : Way} {a a' a'' : Act} (h : Same W a a') (k : Same W a' a'') : Same W a a'' := fun i hi => (k i hi).trans (h i hi)
theorem Same.put {W : Way} (a : Act) {d : Option Nat} (v : Value) (h : ∀ t, d = some t → W.wr t = true) : Same W a (a.put d v) := fun i hi => by
  cases hd : d with
  | none => rfl
  | some t =>
    have hne : t ≠ i := fun e => by have := h t hd; rw [e, hi] at this; cases this
    simp only [Act.put, Array.getD_eq_getD_getElem?]
    rw [Array.getElem?_setIfInBounds_ne hne]

def AftG (Γ : Env) (W : Way) (K : St → Prop) (I : Imm) (X : Nat → Prop) (w : World) (β : Beta) (σ : Nat → Sig) (a : Act) (a' : Act) (w' : World) : Prop :=
  ∃ S' I' X' β' σ', K S' ∧ Rel Γ S' a' w' I' X' β' σ' ∧ W.T S'.up.length w' I' X' ∧ W.E w I X w' I' X' ∧ Above β β' σ σ' ∧ Same W a a'

theorem AftG.trans {K : St → Prop} {I' : Imm} {X' : Nat → Prop} {w' : World} {β' : Beta} {σ' : Nat → Sig} {a'' : Act} {w'' : World} {a' : Act} (he : W.E w I X w' I' X') (ha : Above β β' σ σ') (hs : Same W a a') (h : AftG Γ W K I' X' w' β' σ' a' a'' w'') : AftG Γ W K I X w β σ a a'' w'' :=
  let ⟨S', I2, X2, β2, σ2, h1, h2, h3, h4, h5, h6⟩ := h
  ⟨S', I2, X2, β2, σ2, h1, h2, h3, W.trans he h4, ha.trans h5, hs.trans h6⟩

def QRG (Γ : Env) (W : Way) (Q : Ex → St → Prop) (I : Imm) (X : Nat → Prop) (w : World) (β : Beta) (σ : Nat → Sig) (a : Act) : Exit → Act → World → Prop
  | .normal, a', w' => AftG Γ W (Q .normal) I X w β σ a a' w'
  | .exit id, a', w' => AftG Γ W (Q (.exit id)) I X w β σ a a' w'
  | .ret, a', w' => AftG Γ W (Q .ret) I X w β σ a a' w'
  | _, _, _ => False

theorem QRG.trans {Q : Ex → St → Prop} {I' : Imm} {X' : Nat → Prop} {w' : World} {β' : Beta} {σ' : Nat → Sig} {a' : Act} (he : W.E w I X w' I' X') (ha : Above β β' σ σ') (hs : Same W a a') {e : Exit} {a'' : Act} {w'' : World}
    (h : QRG Γ W Q I' X' w' β' σ' a' e a'' w'') : QRG Γ W Q I X w β σ a e a'' w'' := by
  cases e with
  | normal => exact AftG.trans (K := Q .normal) he ha hs h
  | exit id => exact AftG.trans (K := Q (.exit id)) he ha hs h
  | ret => exact AftG.trans (K := Q .ret) he ha hs h
  | goto l => exact h
  | panic c => exact h
  | outgrown => exact h

def OpOK (C : Con) (Γ : Env) (W : Way) (r : Option Nat) (n : Nat) : Prop := ∀ (o : Oper) (S : St) (K : St → Prop) (a : Act) (w : World) (I : Imm) (X : Nat → Prop) (β : Beta) (σ : Nat → Sig) (Q : Exit → Act → World → Prop),
  (∀ d, o.dst = some d → W.wr d = true) → iop C Γ S o K → Rel Γ S a w I X β σ → W.T S.up.length w I X → o.wpIn (Fw r) n Γ.P a w (AftG Γ W K I X w β σ a) Q

theorem iop1_soundG {C : Con} {r : Option Nat} {n : Nat} (hop : OpOK C Γ W r n) {ops : Array Oper} (o : Oper) (hwr : ∀ d, o.dst = some d → W.wr d = true)
    (h : iop1 C Γ ops.toList o K S) (hr : Rel Γ S a w I X β σ) (ht : W.T S.up.length w I X) (Q : Exit → Act → World → Prop) :
    if Region.wanted o (yielded ops a.tmps) then o.wpIn (Fw r) n Γ.P a w (AftG Γ W K I X w β σ a) Q else AftG Γ W K I X w β σ a (a.put o.dst undef) w := by
  have dead : ∀ {S : St}, putT Γ S o.dst (.tup []) K → Rel Γ S a w I X β σ → W.T S.up.length w I X → AftG Γ W K I X w β σ a (a.put o.dst undef) w := by
    intro S h hr ht
    obtain ⟨S', k1, k2⟩ := putT_sound h hr (v := undef) (.data D.und)
    have hup : S'.up = S.up ∧ K S' ∨ True := .inr trivial
    obtain ⟨tm, ce, up⟩ := S
    cases hd : o.dst with
    | none =>
      rw [hd] at h
      exact ⟨_, I, X, β, σ, h, by simpa [Act.put] using hr, ht, W.refl _ _ _, .refl _ _, Same.refl _ _⟩
    | some d =>
      rw [hd] at h
      simp only [putT] at h
      split at h
      · rename_i hn
        exact ⟨_, I, X, β, σ, h, hr.put (blt_lt hn) (.data D.und), ht, W.refl _ _ _, .refl _ _, Same.put a undef (fun t e => hwr t (by rw [hd, e]))⟩
      · exact h.elim
  unfold iop1 at h
  split at h
  · rename_i hg
    have : Region.wanted o (yielded ops a.tmps) = true := by simp [Region.wanted, hg]
    rw [if_pos this]
    exact hop o S K a w I X β σ Q hwr h hr ht
  · rename_i j want hg
    split at h
    · exact h.elim
    · rename_i t hd
      split at h
      · rename_i b hb
        have hv := hr.tm t
        rw [hb] at hv
        have hval := hv.bool_inv
        have hy := yielded_of hd hval
        have h := brk_spec h
        obtain ⟨tm, ce, up⟩ := S
        simp only [putT] at h
        split at h
        · have r' := hr.tell (t := t) (v := .bool b) (by rw [hval]; exact .data (.bool b))
          cases want <;> cases b <;> simp only at h
          · have : Region.wanted o (yielded ops a.tmps) = true := by simp [Region.wanted, hg, hy]
            rw [if_pos this]; exact hop o _ K a w I X β σ Q hwr h r' ht
          · have : ¬ Region.wanted o (yielded ops a.tmps) = true := by simp [Region.wanted, hg, hy]
            rw [if_neg this]
            exact dead h r' ht
          · have : ¬ Region.wanted o (yielded ops a.tmps) = true := by simp [Region.wanted, hg, hy]
            rw [if_neg this]
            exact dead h r' ht
          · have : Region.wanted o (yielded ops a.tmps) = true := by simp [Region.wanted, hg, hy]
            rw [if_pos this]; exact hop o _ K a w I X β σ Q hwr h r' ht
        · exact h.elim
      · rename_i hb
        have hv := hr.tm t
        rw [hb] at hv
        have hy := yielded_und hd hv.und_inv
        have : ¬ Region.wanted o (yielded ops a.tmps) = true := by simp [Region.wanted, hg, hy]
        rw [if_neg this]
        exact dead h hr ht
      · exact h.elim

theorem iops_soundG {C : Con} {r : Option Nat} {n : Nat} (hop : OpOK C Γ W r n) {ops : Array Oper} {Q : Exit → Act → World → Prop} (hwr : ∀ o ∈ ops.toList, ∀ d, o.dst = some d → W.wr d = true)
    (hQ : ∀ a' w', AftG Γ W K I X w β σ a a' w' → Q .normal a' w') :
    ∀ (rest : List Oper) (k : Nat), (∀ j, rest[j]? = ops[k + j]?) → ∀ (S' : St) (a' : Act) (w' : World) (I' : Imm) (X' : Nat → Prop) (β' : Beta) (σ' : Nat → Sig),
      iops C Γ ops.toList rest K S' → Rel Γ S' a' w' I' X' β' σ' → W.T S'.up.length w' I' X' → W.E w I X w' I' X' → Above β β' σ σ' → Same W a a' → wpOpsIn (Fw r) n Γ.P ops Q (List.range' k rest.length) a' w'
  | [], k, _, S', a', w', I', X', β', σ', h, hr, ht, he, ha, hs => by
    simp only [List.length_nil, List.range'_zero, wpOpsIn]
    exact hQ _ _ ⟨S', I', X', β', σ', h, hr, ht, he, ha, hs⟩
  | o :: rest, k, hk, S', a', w', I', X', β', σ', h, hr, ht, he, ha, hs => by
    have h0 : ops[k]? = some o := by have := hk 0; simpa using this.symm
    rw [iops_cons] at h
    have h1 := iop1_soundG hop (ops := ops) o (hwr o (List.mem_of_getElem? (i := k) (by simpa using h0))) h hr ht Q
    have next : ∀ a2 w2, AftG Γ W (fun S' => iops C Γ ops.toList rest K S') I' X' w' β' σ' a' a2 w2 → wpOpsIn (Fw r) n Γ.P ops Q (List.range' (k + 1) rest.length) a2 w2 := by
      rintro a2 w2 ⟨S2, I2, X2, β2, σ2, k1, k2, k3, k4, k5, k6⟩
      exact iops_soundG hop hwr hQ rest (k + 1) (fun j => by have := hk (j + 1); simp at this; rw [this]; congr 1; omega) S2 a2 w2 I2 X2 β2 σ2 k1 k2 k3 (W.trans he k4) (ha.trans k5) (hs.trans k6)
    simp only [List.length_cons, List.range'_succ, wpOpsIn, h0]
    split
    · rename_i hw
      rw [if_pos hw] at h1
      exact Oper.wpIn_mono next h1
    · rename_i hw
      rw [if_neg hw] at h1
      exact ⟨fun _ _ => trivial, next _ _ h1⟩

theorem dsts_mem {l : List Oper} {o : Oper} {d : Nat} (hm : o ∈ l) (hd : o.dst = some d) : d ∈ dsts l := by
  induction l with
  | nil => cases hm
  | cons y r ih =>
    unfold dsts
    rcases List.mem_cons.1 hm with rfl | hm
    · rw [hd]; simp
    · have := ih hm
      split
      · exact List.mem_cons_of_mem _ this
      · exact this

theorem QRG.noOut {Q : Ex → St → Prop} : ¬ LetsOut (QRG Γ W Q I X w β σ a) := fun ⟨_, _, h⟩ => h

theorem wpIn_loop_from {F : Fence} {n : Nat} {P : Program} {c : Code} {Q : Exit → Act → World → Prop} {a : Act} {w : World} {α : Type} (J : α → Act → World → Prop) (rk : α → Nat) (x0 : α) (h0 : J x0 a w)
    (round : ∀ x a w, J x a w → c.wpIn F n P (Exit.then (fun a' w' => ∃ x', J x' a' w' ∧ rk x' < rk x) Q) a w) : (Code.loop c).wpIn F n P Q a w := by
  intro b k cs hro hb hr
  have key : ∀ j x a w, rk x = j → J x a w →
      ∃ e a' w', Q e a' w' ∧ ArrivesIn (Machine.fenced P F) P (lone (b.atR a (.code c :: .inLoop c :: k)) cs w) b k cs e a' w' := by
    intro j
    induction j using Nat.strongRecOn with
    | _ j ih =>
      intro x a w hn hI
      obtain ⟨e, a₁, w₁, hq, harr⟩ := round x a w hI b (.inLoop c :: k) cs hro hb hr
      cases e with
      | normal =>
        obtain ⟨x', hI₁, hlt⟩ := hq
        obtain ⟨e₂, a₂, w₂, hq₂, harr₂⟩ := ih (rk x') (hn ▸ hlt) x' a₁ w₁ rfl hI₁
        exact ⟨e₂, a₂, w₂, hq₂, .of_steps (StepsIn.trans harr (.one (fenced_calm hb hr rfl) stepR_inLoop)) harr₂⟩
      | exit id => exact ⟨_, a₁, w₁, hq, .pass (x := .inLoop c) rfl (fun _ _ => .inl (by simp)) harr⟩
      | goto l => exact ⟨_, a₁, w₁, hq, .pass (x := .inLoop c) rfl (fun _ _ => .inl (by simp)) harr⟩
      | ret => exact ⟨_, a₁, w₁, hq, .pass (x := .inLoop c) rfl (fun _ _ => .inl (by simp)) harr⟩
      | panic ch => exact ⟨_, a₁, w₁, hq, .pass (x := .inLoop c) rfl (fun _ _ => .inl (by simp)) harr⟩
      | outgrown => exact ⟨_, a₁, w₁, hq, .pass (x := .inLoop c) rfl (fun _ _ => .inl (by simp)) harr⟩
  obtain ⟨e, a', w', hq, harr⟩ := key _ x0 a w rfl h0
  exact ⟨e, a', w', hq, .of_steps (.one (fenced_calm hb hr rfl) stepR_loop) harr⟩

def noDraw : Code → Bool
  | .region _ _ d => !d
  | .seq a b => noDraw a && noDraw b
  | .cond _ a b => noDraw a && noDraw b
  | .block _ c => noDraw c
  | .loop c => noDraw c
  | .scope c => noDraw c
  | _ => true

theorem stepR_scope {P : Program} {b : Frame} {a : Act} {k : List Item} {cs : List Frame} {w : World} {c : Code} : step P (lone (b.atR a (.code (.scope c) :: k)) cs w) = .next (lone (b.atR a (.code c :: .inScope c :: k)) cs w) :=
  step_lone_go (by simp [stepG, stepG.exec, Frame.atR])
theorem stepR_inScope {P : Program} {b : Frame} {a : Act} {k : List Item} {cs : List Frame} {w : World} {c : Code} : step P (lone (b.atR a (.inScope c :: k)) cs w) = .next (lone (b.atR a k) cs w) :=
  step_lone_go (by simp [stepG, stepG.exec, Frame.atR])

/-- A scope that nobody leaves by a goto. -/
theorem wpIn_scope {F : Fence} {n : Nat} {P : Program} {Q : Exit → Act → World → Prop} {a : Act} {w : World} {c : Code} (h : c.wpIn F n P Q a w) (hg : ∀ l a w, ¬ Q (.goto l) a w) : (Code.scope c).wpIn F n P Q a w := by
  intro b k cs hro hb hr
  have h0 : (lone (b.atR a (.code (.scope c) :: k)) cs w).fenced P F := fenced_calm hb hr rfl
  obtain ⟨e, a₁, w₁, hq, harr⟩ := h b (.inScope c :: k) cs hro hb hr
  cases e with
  | normal => exact ⟨.normal, a₁, w₁, hq, .head h0 stepR_scope (StepsIn.trans harr (.one (fenced_calm hb hr rfl) stepR_inScope))⟩
  | exit id =>
    have hx : exitTo id (.inScope c :: k) = exitTo id k := by simp [exitTo]
    exact ⟨_, a₁, w₁, hq, fun k' hk => .head h0 stepR_scope (harr.1 k' (by rw [hx]; exact hk)),
      fun hr' hk => let ⟨k₁, h1, h2⟩ := harr.2 hr' (by rw [hx]; exact hk); ⟨k₁, h1, .head h0 stepR_scope h2⟩⟩
  | goto l => exact absurd hq (hg l a₁ w₁)
  | ret => exact ⟨_, a₁, w₁, hq, .of_steps (.one h0 stepR_scope) harr⟩
  | panic ch => exact ⟨_, a₁, w₁, hq, .of_steps (.one h0 stepR_scope) harr⟩
  | outgrown => exact ⟨_, a₁, w₁, hq, .of_steps (.one h0 stepR_scope) harr⟩

theorem iwp_soundG {C : Con} {r : Option Nat} {n : Nat} (nr nd : Bool) (hop : OpOK C Γ W r n)
    (hdraw : nd = false → ∀ (id : Nat) (ops : Array Oper) (S : St) (K : St → Prop) (a : Act) (w : World) (I : Imm) (X : Nat → Prop) (β : Beta) (σ : Nat → Sig) (Q : Exit → Act → World → Prop), (∀ o ∈ ops.toList, ∀ d, o.dst = some d → W.wr d = true) → ¬ LetsOut Q → DRAW C Γ ops.toList K S → Rel Γ S a w I X β σ → W.T S.up.length w I X →
      (∀ a' w', AftG Γ W K I X w β σ a a' w' → Q .normal a' w') → (Code.region id ops true).wpIn (Fw r) n Γ.P Q a w)
    (hrange : nr = false → ∀ (f : Operand) (ps : Array Tmp) (assign body : Code) (Q : Ex → St → Prop) (S : St) (a : Act) (w : World) (I : Imm) (X : Nat → Prop) (β : Beta) (σ : Nat → Sig), (∀ d ∈ wrs (.rangeFunc f ps assign body), W.wr d = true) → iwp C Γ (.rangeFunc f ps assign body) Q S → Rel Γ S a w I X β σ → W.T S.up.length w I X →
      (Code.rangeFunc f ps assign body).wpIn (Fw r) n Γ.P (QRG Γ W Q I X w β σ a) a w) :
    ∀ (c : Code) (Q : Ex → St → Prop) (S : St) (a : Act) (w : World) (I : Imm) (X : Nat → Prop) (β : Beta) (σ : Nat → Sig), (nr = true → noRange c = true) → (nd = true → noDraw c = true) → (∀ d ∈ wrs c, W.wr d = true) → iwp C Γ c Q S → Rel Γ S a w I X β σ → W.T S.up.length w I X → c.wpIn (Fw r) n Γ.P (QRG Γ W Q I X w β σ a) a w := by
  intro c
  induction c with
  | skip => exact fun Q S a w I X β σ _ _ _ h hr ht => wpIn_skip ⟨S, I, X, β, σ, h, hr, ht, W.refl _ _ _, .refl _ _, Same.refl _ _⟩
  | label l => exact fun Q S a w I X β σ _ _ _ h hr ht => wpIn_label ⟨S, I, X, β, σ, h, hr, ht, W.refl _ _ _, .refl _ _, Same.refl _ _⟩
  | exit id => exact fun Q S a w I X β σ _ _ _ h hr ht => wpIn_exit ⟨S, I, X, β, σ, h, hr, ht, W.refl _ _ _, .refl _ _, Same.refl _ _⟩
  | ret => exact fun Q S a w I X β σ _ _ _ h hr ht => wpIn_ret ⟨S, I, X, β, σ, h, hr, ht, W.refl _ _ _, .refl _ _, Same.refl _ _⟩
  | region id ops draw =>
    intro Q S a w I X β σ _ hdd hw h hr ht
    have hwr : ∀ o ∈ ops.toList, ∀ d, o.dst = some d → W.wr d = true := fun o ho d hd => hw d (dsts_mem ho hd)
    cases draw with
    | false =>
      refine wpIn_region ?_
      have := iops_soundG hop (ops := ops) (Q := QRG Γ W Q I X w β σ a) (K := Q .normal) hwr (fun a' w' h => h) ops.toList 0 (fun j => by simp) S a w I X β σ h hr ht (W.refl _ _ _) (.refl _ _) (Same.refl _ _)
      rwa [← List.range_eq_range', Array.length_toList] at this
    | true =>
      cases nd with
      | true => have := hdd rfl; cases this
      | false => exact hdraw rfl id ops S (Q .normal) a w I X β σ _ hwr QRG.noOut h hr ht fun a' w' h => h
  | seq x y ihx ihy =>
    intro Q S a w I X β σ hn hdd hw h hr ht
    have hn1 : nr = true → noRange x = true := fun e => by have := hn e; simp [noRange] at this; exact this.1
    have hn2 : nr = true → noRange y = true := fun e => by have := hn e; simp [noRange] at this; exact this.2
    have hd1 : nd = true → noDraw x = true := fun e => by have := hdd e; simp [noDraw] at this; exact this.1
    have hd2 : nd = true → noDraw y = true := fun e => by have := hdd e; simp [noDraw] at this; exact this.2
    refine wpIn_seq (wpIn_mono (ihx _ S a w I X β σ hn1 hd1 (fun d hd => hw d (by simp [wrs, hd])) h hr ht) fun e a' w' h' => ?_)
    cases e with
    | normal =>
      obtain ⟨S', I', X', β', σ', k1, k2, k3, k4, k5, k6⟩ := h'
      exact wpIn_mono (ihy Q S' a' w' I' X' β' σ' hn2 hd2 (fun d hd => hw d (by simp [wrs, hd])) k1 k2 k3) fun e a'' w'' h'' => QRG.trans k4 k5 k6 h''
    | exit id => exact h'
    | ret => exact h'
    | goto l => exact h'
    | panic c => exact h'
    | outgrown => exact h'
  | cond c x y ihx ihy =>
    intro Q S a w I X β σ hn hdd hw h hr ht
    have hn1 : nr = true → noRange x = true := fun e => by have := hn e; simp [noRange] at this; exact this.1
    have hn2 : nr = true → noRange y = true := fun e => by have := hn e; simp [noRange] at this; exact this.2
    have hd1 : nd = true → noDraw x = true := fun e => by have := hdd e; simp [noDraw] at this; exact this.1
    have hd2 : nd = true → noDraw y = true := fun e => by have := hdd e; simp [noDraw] at this; exact this.2
    simp only [iwp] at h
    split at h
    · rename_i b hb
      have hv := evo_V hr c
      rw [hb] at hv
      have h := brk_spec h
      refine wpIn_cond hv.bool_inv ?_
      cases b with
      | true => exact ihx Q S a w I X β σ hn1 hd1 (fun d hd => hw d (by simp [wrs, hd])) h hr ht
      | false => exact ihy Q S a w I X β σ hn2 hd2 (fun d hd => hw d (by simp [wrs, hd])) h hr ht
    · exact h.elim
  | block id c ih =>
    intro Q S a w I X β σ hn hdd hw h hr ht
    refine wpIn_block (wpIn_mono (ih _ S a w I X β σ (fun e => by simpa [noRange] using hn e) (fun e => by simpa [noDraw] using hdd e) hw h hr ht) fun e a' w' h' => ?_)
    cases e with
    | normal => exact h'
    | exit id' =>
      obtain ⟨S', I', X', β', σ', k1, k2⟩ := h'
      simp only [Ex.blk] at k1
      simp only [Exit.inBlock]
      split at k1
      · rename_i e
        rw [if_pos ((beq_iff _ _).1 e)]; exact ⟨S', I', X', β', σ', k1, k2⟩
      · rename_i e
        rw [if_neg (beq_false e)]; exact ⟨S', I', X', β', σ', k1, k2⟩
    | ret => exact h'
    | goto l => exact h'
    | panic c => exact h'
    | outgrown => exact h'
  | loop c ih =>
    intro Q S a w I X β σ hn hdd hw h hr ht
    obtain ⟨Inv, rk, x0, h0, hrd⟩ := h
    obtain ⟨β1, r1, ab1⟩ := hr.le h0
    refine wpIn_loop_from (fun x a' w' => ∃ I' X' β' σ', Rel Γ (Inv x) a' w' I' X' β' σ' ∧ W.T (Inv x).up.length w' I' X' ∧ W.E w I X w' I' X' ∧ Above β β' σ σ' ∧ Same W a a') rk x0 ⟨I, X, β1, σ, r1, by rw [← h0.up]; exact ht, W.refl _ _ _, ab1, Same.refl _ _⟩ ?_
    rintro x a' w' ⟨I', X', β', σ', hrel, ht', he, hab, hsm⟩
    refine wpIn_mono (ih _ (Inv x) a' w' I' X' β' σ' (fun e => by simpa [noRange] using hn e) (fun e => by simpa [noDraw] using hdd e) hw (hrd x) hrel ht') fun e a'' w'' hq => ?_
    cases e with
    | normal =>
      obtain ⟨S', I2, X2, β2, σ2, ⟨x', hle, hlt⟩, k2, k3, k4, k5, k6⟩ := hq
      obtain ⟨β3, r3, ab3⟩ := k2.le hle
      exact ⟨x', ⟨I2, X2, β3, σ2, r3, by rw [← hle.up]; exact k3, W.trans he k4, (hab.trans k5).trans ab3, hsm.trans k6⟩, hlt⟩
    | exit id => exact QRG.trans he hab hsm (show QRG Γ W Q I' X' w' β' σ' a' (.exit id) a'' w'' from hq)
    | ret => exact QRG.trans he hab hsm (show QRG Γ W Q I' X' w' β' σ' a' .ret a'' w'' from hq)
    | goto l => exact hq.elim
    | panic ch => exact hq.elim
    | outgrown => exact hq.elim
  | rangeFunc f params assign body _ _ =>
    intro Q S a w I X β σ hn hdd hw h hr ht
    cases nr with
    | true => have := hn rfl; cases this
    | false => exact hrange rfl f params assign body Q S a w I X β σ hw h hr ht
  | scope c ih =>
    intro Q S a w I X β σ hn hdd hw h hr ht
    exact wpIn_scope (ih Q S a w I X β σ (fun e => by simpa [noRange] using hn e) (fun e => by simpa [noDraw] using hdd e) hw h hr ht) fun l a w hq => hq.elim
  | goto l => intro Q S a w I X β σ _ _ _ h; exact h.elim
  | refuse why => intro Q S a w I X β σ _ _ _ h; exact h.elim

end
end Go.Proofs.YtllmejkmogepjaaGreatDoor.Ix

/-
  Ix24: ordinary code: what is asked of the operations, in any frame.
-/
namespace Go.Proofs.YtllmejkmogepjaaGreatDoor.Ix
set_option linter.unusedVariables false
set_option linter.unusedSimpArgs false

section
variable {C : Con} {Γ : Env} {S : St} {a : Act} {w : World} {I : Imm} {X : Nat → Prop} {β : Beta} {σ : Nat → Sig} {K : St → Prop}

/-- The ordinary way: nothing carried; the world's extension. -/
def Wn (wr : Nat → Bool) : Way where
  wr := wr
  T := fun _ _ _ _ => True
  E := fun w I X w' I' X' => Ext I X w I' w' ∧ ∀ b, X b → X' b
  refl := fun w I X => ⟨.refl _ _ _, fun _ h => h⟩
  trans := fun h k => ⟨h.1.trans (k.1.sub h.2), fun b hb => k.2 b (h.2 b hb)⟩

theorem iop_noDefer {o : Oper} (h : iop C Γ S o K) : ∀ c, o.op ≠ .defer c := by
  intro c e
  unfold iop at h
  rw [e] at h
  simp [ival, e] at h

theorem opOK_n (wr : Nat → Bool) (hT : TOK Γ.P Γ.T) (hC : HC C Γ) (r : Option Nat) (n : Nat) : OpOK C Γ (Wn wr) r n := by
  intro o S K a w I X β σ Q hwr h hr _
  refine wpIn_of_wp (iop_noDefer h) (Oper.wp_mono ?_ (Oper.wp_put (iop_all hT hC o h hr Q)))
  rintro a' w' ⟨⟨S', I', β', σ', h1, h2, h3, h4⟩, hs⟩
  exact ⟨S', I', X, β', σ', h1, h2, trivial, ⟨h3, fun _ h => h⟩, h4, fun i hi => hs i fun e => by have : wr i = true := hwr i e; have hi : wr i = false := hi; rw [this] at hi; cases hi⟩

theorem Oper.wp_monoQ {P : Program} {o : Oper} {a : Act} {w : World} {K K' : Act → World → Prop} {Q1 Q : Exit → Act → World → Prop} (hp : ∀ c a w, ¬ Q1 (.panic c) a w) (ho : ¬ LetsOut Q1) (hK : ∀ a w, K a w → K' a w) (h : o.wp P a w K Q1) : o.wp P a w K' Q := by
  unfold Oper.wp at *
  generalize (execOp a.eval o).run P w = r at *
  cases r with
  | ok n w' =>
    cases n <;> simp only [Oper.upon] at h ⊢ <;>
      first
        | exact hK _ _ h
        | exact Calls.mono h (fun e w'' he => by cases e <;> first | exact hK _ _ he | exact (hp _ _ _ he).elim | exact (ho he).elim)
        | exact Rows.mono h (fun _ _ he => hK _ _ he)
  | halt x w' =>
    cases x <;> simp only [Oper.upon] at h ⊢
    case panic u => exact (hp _ _ _ h).elim

theorem wpAny_same {W : Way} {P : Program} {md : Region.Mode} {ops : Array Oper} {Q1 Q : Exit → Act → World → Prop} (hp : ∀ c a w, ¬ Q1 (.panic c) a w) (ho : ¬ LetsOut Q1) (hwr : ∀ o ∈ ops.toList, ∀ d, o.dst = some d → W.wr d = true) (a0 : Act)
    (hQ : ∀ a' w', Same W a0 a' → Q1 .normal a' w' → Q .normal a' w') : ∀ (fuel : Nat) (listed : Array Bool) (a : Act) (w : World), Same W a0 a → wpAny P md ops Q1 fuel listed a w → wpAny P md ops Q fuel listed a w
  | 0, _, a, w, hs, h => ⟨h.1, hQ a w hs h.2⟩
  | fuel + 1, listed, a, w, hs, h => by
    refine ⟨fun e => hQ a w hs (h.1 e), fun i hi => ?_⟩
    have h1 := h.2 i hi
    unfold wpOp at h1 ⊢
    cases hoi : ops[i]? with
    | none => simp only [hoi] at h1 ⊢; exact wpAny_same hp ho hwr a0 hQ fuel _ a w hs h1
    | some o =>
      have hwo := hwr o (List.mem_of_getElem? (i := i) (by simpa using hoi))
      simp only [hoi] at h1 ⊢
      by_cases hw : Region.wanted o (yielded ops a.tmps) = true
      · rw [if_pos hw] at h1 ⊢
        rcases h1 with h1 | h1
        · refine .inl (Oper.wp_monoQ hp ho (fun a' w' h' => ?_) (Oper.wp_put h1))
          refine wpAny_same hp ho hwr a0 hQ fuel _ a' w' (hs.trans fun j hj => h'.2 j fun e => ?_) h'.1
          have := hwo j e; rw [hj] at this; cases this
        · exact absurd h1.2 ho
      · rw [if_neg hw] at h1 ⊢
        exact wpAny_same hp ho hwr a0 hQ fuel _ _ w (hs.trans (Same.put a undef hwo)) h1

theorem draw_n (wr : Nat → Bool) (hm : Γ.P.follows .mixedOrders = true) (hT : TOK Γ.P Γ.T) (hC : HC C Γ) (r : Option Nat) (n : Nat) (id : Nat) (ops : Array Oper) (S : St) (K : St → Prop) (a : Act) (w : World) (I : Imm) (X : Nat → Prop) (β : Beta) (σ : Nat → Sig)
    (Q : Exit → Act → World → Prop) (hwr : ∀ o ∈ ops.toList, ∀ d, o.dst = some d → (Wn wr).wr d = true) (hq : ¬ LetsOut Q) (h : DRAW C Γ ops.toList K S) (hr : Rel Γ S a w I X β σ) (_ : (Wn wr).T S.up.length w I X)
    (hQ : ∀ a' w', AftG Γ (Wn wr) K I X w β σ a a' w' → Q .normal a' w') : (Code.region id ops true).wpIn (Fw r) n Γ.P Q a w := by
  obtain ⟨h1, h2⟩ := drawn_any (Q := fun e a' w' => match e with | .normal => Aft Γ K I X w β σ a' w' | _ => False) hT hC h hr (fun a' w' h => h) (fun _ _ _ h => h)
  have h3 := wpAny_same (W := Wn wr) (Q := Q) (fun _ _ _ h => h) (fun ⟨_, _, h⟩ => h) hwr a (fun a' w' hs ha => hQ a' w' (by
    obtain ⟨S', I', β', σ', k1, k2, k3, k4⟩ := ha
    exact ⟨S', I', X, β', σ', k1, k2, trivial, ⟨k3, fun _ h => h⟩, k4, hs⟩)) _ _ _ _ (Same.refl _ _) h1
  exact wpIn_region_any hm (wpAnyIn_of_wpAny hq h2 _ _ _ _ h3)

/-- Code without a range over a function, in any frame. -/
theorem iwp_sound_r (hm : Γ.P.follows .mixedOrders = true) (hT : TOK Γ.P Γ.T) (hC : HC C Γ) (r : Option Nat) (n : Nat) (c : Code) (Q : Ex → St → Prop) (S : St) (a : Act) (w : World) (I : Imm) (X : Nat → Prop) (β : Beta) (σ : Nat → Sig) (wr : Nat → Bool)
    (hn : noRange c = true) (hw : ∀ d ∈ wrs c, wr d = true) (h : iwp C Γ c Q S) (hr : Rel Γ S a w I X β σ) : c.wpIn (Fw r) n Γ.P (QRG Γ (Wn wr) Q I X w β σ a) a w :=
  iwp_soundG (W := Wn wr) true false (opOK_n wr hT hC r n) (fun _ => draw_n wr hm hT hC r n) (fun e => by cases e) c Q S a w I X β σ (fun _ => hn) (fun e => by cases e) hw h hr trivial

/-! ### The iterators' word -/

structure Base (gl : Nat → IV) (w : World) (I : Imm) (X : Nat → Prop) : Prop where
  im : ∀ a v, I a = some v → w.cell? a = some v
  glo : ∀ g, D I (gl g) (.pointer (some ⟨g, 0, none⟩))
  xb : ∀ b, X b → b < w.heap.size
  gz : Gsz gl w

theorem Rel.base (r : Rel Γ S a w I X β σ) : Base Γ.gl w I X := ⟨r.mem.im, r.mem.glo, r.mem.xb, r.mem.gz⟩

/-- What a round keeps of the blocks of the function that is ranged over. -/
structure Kept (I : Imm) (Y : Nat → Prop) (w : World) (I' : Imm) (w' : World) : Prop where
  size : w.heap.size ≤ w'.heap.size
  keep : ∀ b, Y b → w'.heap[b]? = w.heap[b]?
  imm : ∀ a v, I a = some v → I' a = some v
  new : ∀ a, Y a.block → I' a = I a
  dfr : ∀ (k : Nat) c, w.heap[k]? = some (.deferred c) → w'.heap[k]? = some (.deferred c)

def notLoop : Obj → Bool
  | .loop _ => false
  | _ => true

def yv (l : Nat) : Value := .func (.yield l) #[] #[]

/-- A function that, called with the rounds' function in front, has n rounds, with these arguments one after another, or stops when a round says so. -/
def Vis (P : Program) (gl : Nat → IV) (g : Nat) (args : List IV) (n : Nat) (xs : Nat → List IV) : Prop :=
  (∃ fn c, P.funcs[g]? = some fn ∧ fn.body = some c ∧ (fn.name == "runtime.NumGoroutine") = false) ∧
  ∀ (l : Nat) (vals : Array Value) (J : Nat → World → Imm → (Nat → Prop) → Prop) (w : World) (I : Imm) (X : Nat → Prop),
    Base gl w I X → args.length = vals.size → (∀ (j : Nat) x, args[j]? = some x → D I x (vals.getD j undef)) →
    (∀ k w1 I1 X1 w2 I2, J k w1 I1 X1 → Ext I1 X1 w1 I2 w2 → Base gl w2 I2 X1 → J k w2 I2 X1) →
    (∀ (k : Nat) w1 I1 X1 (Y : Nat → Prop) (vs : Array Value), k < n → J k w1 I1 X1 → Base gl w1 I1 X1 → (∀ b, Y b → ¬ X1 b ∧ ∃ o, w1.heap[b]? = some o ∧ notLoop o = true) →
      (xs k).length = vs.size → (∀ (j : Nat) x, (xs k)[j]? = some x → D I1 x (vs.getD j undef)) →
      YieldAt (Fw none) 0 P l vs w1 fun e w2 => ∃ I2 X2 b, e = .returned (.bool b) ∧ Kept I1 Y w1 I2 w2 ∧ Base gl w2 I2 X2 ∧ (∀ b, Y b → ¬ X2 b) ∧ J (bif b then k + 1 else n + 1 + k) w2 I2 X2) →
    J 0 w I X →
    Calls P g (#[yv l] ++ vals) w fun e w' => ∃ v I' X' L, e = .returned v ∧ n ≤ L ∧ J L w' I' X' ∧ Base gl w' I' X'

theorem roundIn_any {n m : Nat} {P : Program} {l : Nat} {f : FuncId} {tmps : Array Value} {assign body : Code} {w : World} {R : Ending → World → Prop} (h : RoundIn (Fw none) n P l f tmps assign body w R) : RoundIn (Fw none) m P l f tmps assign body w R :=
  ⟨h.1, fun c cs _ => h.2 c cs (Fw_room _ _)⟩

end
end Go.Proofs.YtllmejkmogepjaaGreatDoor.Ix

/-
  Ix25: a range over a function.
-/
namespace Go.Proofs.YtllmejkmogepjaaGreatDoor.Ix
set_option linter.unusedVariables false
set_option linter.unusedSimpArgs false

section
variable {C : Con} {Γ : Env} {S : St} {a : Act} {w : World} {I : Imm} {X : Nat → Prop} {β : Beta} {σ : Nat → Sig} {K : St → Prop}

theorem Rel.later {X1 : Nat → Prop} {w2 : World} {I2 : Imm} (r : Rel Γ S a w I X β σ) (hX : ∀ b, X b → X1 b) (hβ : ∀ l d b, β l d = some b → X1 b) (hσ : ∀ t g, σ 0 t = some g → X1 g.b) (he : Ext I X1 w I2 w2) (hb : Base Γ.gl w2 I2 X1) : Rel Γ S a w2 I2 X β σ := by
  refine ⟨fun i => (r.tm i).mono he.imm (fun _ _ _ h => h) (fun _ _ h => h), r.df.to he.fix (fun _ _ h => h), r.nt, ⟨fun l d c hc => ?_, r.mem.inj, r.mem.keys, hb.im, hb.glo, fun b h => hb.xb b (hX b h), hb.gz⟩, ⟨fun t g hg => ?_, r.own.inj⟩⟩
  · obtain ⟨b, arr, el, h1, h2, h3, h4, h5, h6, h7⟩ := r.mem.cell l d c hc
    have hx := hβ l d b h1
    exact ⟨b, arr, el, h1, by rw [he.keep b hx]; exact h2, h3, h4, fun j x hj => (h5 j x hj).mono he.imm (fun _ _ _ h => h) (fun _ _ h => h), fun j => by rw [he.new ⟨b, j, none⟩ hx]; exact h6 j, h7⟩
  · obtain ⟨cur, k1, k2, k3, k4, k5, k6, k7⟩ := r.own.row t g hg
    have hx := hσ t g hg
    exact ⟨cur, by rw [he.keep g.b hx]; exact k1, k2, k3, k4, fun j hj => by rw [he.new ⟨g.b, j, none⟩ hx]; exact k5 j hj, k6, k7⟩

theorem fixed_cells {w : World} {b : Nat} {arr : Array Value} {el : Nat} (h : w.heap[b]? = some (.cells arr el (0, 0))) {l : Nat} {o : Obj} (hl : w.heap[l]? = some o) (ho : fixed o = true) : b ≠ l := by
  intro e; subst e; rw [h] at hl; cases hl; cases ho

theorem cell_put {w : World} {x : Addr} {v : Value} (h : w.cell? x = some v) {l : Nat} {o o' : Obj} (hl : w.heap[l]? = some o) (ho : fixed o = true) : (w.putObj l o').cell? x = some v := by
  have hne : x.block ≠ l := by
    intro e
    unfold World.cell? at h
    rw [e, hl] at h
    cases o <;> first | (cases ho; done) | (simp at h)
  rw [← h]
  exact World.cell?_of_block (World.putObj_heap_other hne)

/-- A loop's record may turn. -/
theorem Rel.putLoop {l : Nat} {o : Loop} (r : Rel Γ S a w I X β σ) (hl : w.heap[l]? = some (.loop o)) (o' : Loop) : Rel Γ S a (w.putObj l (.loop o')) I X β σ := by
  refine ⟨r.tm, ?_, r.nt, ⟨fun l' d c hc => ?_, r.mem.inj, r.mem.keys, fun x v hx => cell_put (r.mem.im x v hx) hl rfl, r.mem.glo, fun b h => by simpa using r.mem.xb b h, r.mem.gz.of fun g arr el mm hg => ⟨arr, el, mm, by rw [World.putObj_heap_other (by rintro rfl; rw [hl] at hg; cases hg)]; exact hg, rfl⟩⟩, ⟨fun t g hg => ?_, r.own.inj⟩⟩
  · obtain ⟨⟨Ds, h1, h2, h3⟩, h4⟩ := r.df
    refine ⟨⟨Ds, h1, h2, fun D hD => ⟨?_, (h3 D hD).2⟩⟩, h4⟩
    have hne : D ≠ l := fun e => by have := (h3 D hD).1; rw [e, hl] at this; cases this
    rw [World.putObj_heap_other hne]; exact (h3 D hD).1
  · obtain ⟨b, arr, el, h1, h2, h3, h4, h5, h6, h7⟩ := r.mem.cell l' d c hc
    exact ⟨b, arr, el, h1, by rw [World.putObj_heap_other (fixed_cells h2 hl rfl)]; exact h2, h3, h4, h5, h6, h7⟩
  · obtain ⟨cur, k1, k2⟩ := r.own.row t g hg
    exact ⟨cur, by rw [World.putObj_heap_other (fixed_cells k1 hl rfl)]; exact k1, k2⟩

theorem Ext.put {w0 : World} {I0 : Imm} (h : Ext I0 X w0 I w) {l : Nat} (hl : w0.heap.size ≤ l) (hX : ∀ b, X b → b < w0.heap.size) (o : Obj) : Ext I0 X w0 I (w.putObj l o) :=
  ⟨h.os, h.tape, h.output, by simpa using h.size, fun b hb => by
      have := hX b hb
      rw [World.putObj_heap_other (by omega)]; exact h.keep b hb,
    h.imm, h.new, fun k o' hk ho => by
      have := (Array.getElem?_eq_some_iff.1 hk).1
      rw [World.putObj_heap_other (by omega)]; exact h.fix k o' hk ho⟩

/-- The temporaries at a round's begin. -/
theorem roundT_rel {β0 : Beta} {s : Sig} : ∀ (ps : List Nat) (xs : List IV) (vs : List Value) (tm : Tms) (tmps : Array Value), xs.length = ps.length → vs.length = ps.length → (∀ p ∈ ps, p < tmps.size) →
    (∀ i, V I β0 s (look tm i) (tmps.getD i undef)) → (∀ (j : Nat) x, xs[j]? = some x → V I β0 s x (vs.getD j undef)) →
    (∀ i, V I β0 s (look (roundT ps xs tm) i) (((ps.zip vs).foldl (fun t (p, v) => t.setIfInBounds p v) tmps).getD i undef)) ∧ ((ps.zip vs).foldl (fun t (p, v) => t.setIfInBounds p v) tmps).size = tmps.size ∧
      ∀ i, i ∉ ps → ((ps.zip vs).foldl (fun t (p, v) => t.setIfInBounds p v) tmps).getD i undef = tmps.getD i undef
  | [], xs, vs, tm, tmps, h1, h2, hp, ht, hx => by
    cases vs with
    | nil => cases xs with
      | nil => exact ⟨by simpa [roundT] using ht, rfl, fun _ _ => rfl⟩
      | cons _ _ => simp at h1
    | cons _ _ => simp at h2
  | p :: ps, [], vs, tm, tmps, h1, h2, hp, ht, hx => by simp at h1
  | p :: ps, x :: xs, [], tm, tmps, h1, h2, hp, ht, hx => by simp at h2
  | p :: ps, x :: xs, v :: vs, tm, tmps, h1, h2, hp, ht, hx => by
    have hpl : p < tmps.size := hp p (by simp)
    obtain ⟨g1, g2, g3⟩ := roundT_rel ps xs vs ((p, x) :: tm) (tmps.setIfInBounds p v) (by simpa using h1) (by simpa using h2) (fun q hq => by simpa using hp q (by simp [hq])) (fun i => by
      rw [look_cons, getD_set _ _ _ _ hpl]
      split
      · exact hx 0 x (by simp)
      · exact ht i) (fun j y hy => hx (j + 1) y (by simpa using hy))
    refine ⟨by simpa [roundT] using g1, by simpa using g2, fun i hi => ?_⟩
    simp only [List.mem_cons, not_or] at hi
    simp only [List.zip_cons_cons, List.foldl_cons]
    rw [g3 i hi.2, getD_set _ _ _ _ hpl, if_neg (fun e => hi.1 e.symm)]

theorem isIn_iff {l : List Nat} {i : Nat} : isIn l i = true ↔ i ∈ l := by
  induction l with
  | nil => simp [isIn]
  | cons x r ih =>
    simp only [isIn, Bool.or_eq_true, ih, List.mem_cons, beq_iff]
    exact ⟨fun h => h.imp Eq.symm id, fun h => h.imp Eq.symm id⟩

theorem look_drop {wr : List Nat} {i : Nat} : ∀ (tm : Tms), look (dropW wr tm) i = if isIn wr i = true then .dead else look tm i
  | [] => by simp [dropW, look]
  | (k, v) :: r => by
    simp only [dropW]
    split
    · rename_i h
      rw [look_drop r, look_cons]
      by_cases e : k = i
      · subst e; simp [h]
      · simp [e]
    · rename_i h
      rw [look_cons, look_cons, look_drop r]
      by_cases e : k = i
      · subst e; simp [h]
      · simp [e]

theorem look_ok {wr : List Nat} {i : Nat} : ∀ {tm : Tms}, okW wr tm = true → isIn wr i = true → look tm i = .dead
  | [], _, _ => rfl
  | (k, v) :: r, h, hi => by
    simp only [okW, Bool.and_eq_true] at h
    rw [look_cons, if_neg]
    · exact look_ok h.2 hi
    · intro e; subst e; rw [hi] at h; simp at h

/-- The blocks of one's own. -/
def mine (X : Nat → Prop) (β : Beta) (σ : Nat → Sig) (b : Nat) : Prop := X b ∨ (∃ l d, β l d = some b) ∨ ∃ t g, σ 0 t = some g ∧ g.b = b

theorem Rel.mine_lt (r : Rel Γ S a w I X β σ) : ∀ b, mine X β σ b → b < w.heap.size := by
  rintro b (h | ⟨l, d, h⟩ | ⟨t, g, h, rfl⟩)
  · exact r.mem.xb b h
  · obtain ⟨c, hc⟩ := r.mem.keys l d b h
    obtain ⟨b', arr, el, h1, h2, _⟩ := r.mem.cell l d c hc
    rw [h] at h1; cases h1; exact heap_lt h2
  · obtain ⟨cur, k1, _⟩ := r.own.row t g h; exact heap_lt k1

theorem Rel.mine_not {Y : Nat → Prop} (r : Rel Γ S a w I (fun b => X b ∨ Y b) β σ) (hxy : ∀ b, Y b → ¬ X b) : ∀ b, Y b → ¬ mine X β σ b := by
  rintro b hy (h | ⟨l, d, h⟩ | ⟨t, g, h, rfl⟩)
  · exact hxy b hy h
  · obtain ⟨c, hc⟩ := r.mem.keys l d b h
    obtain ⟨b', arr, el, h1, h2, _, _, _, _, h7⟩ := r.mem.cell l d c hc
    rw [h] at h1; cases h1; exact h7 (.inr hy)
  · obtain ⟨cur, k1, _, _, _, _, k6, _⟩ := r.own.row t g h; exact k6 (.inr hy)

/-- The caller's state between two rounds. -/
structure JB (Γ : Env) (a : Act) (w : World) (I : Imm) (X : Nat → Prop) (β : Beta) (σ : Nat → Sig) (l D : Nat) (o : Loop) (S' : St) (w' : World) (I' : Imm) (X' : Nat → Prop) (β' : Beta) (σ' : Nat → Sig) : Prop where
  rel : Rel Γ S' a w' I' X β' σ'
  mine : ∀ b, mine X β' σ' b → X' b
  ext : Ext I X w I' w'
  abv : Above β β' σ σ'
  loop : w'.heap[l]? = some (.loop o)
  dfr : w'.heap[D]? = some (.deferred (some []))

theorem JB.later {l D : Nat} {o : Loop} {S' : St} {w' : World} {I' : Imm} {X' : Nat → Prop} {β' : Beta} {σ' : Nat → Sig} {w2 : World} {I2 : Imm} (j : JB Γ a w I X β σ l D o S' w' I' X' β' σ') (he : Ext I' X' w' I2 w2) (hb : Base Γ.gl w2 I2 X') :
    JB Γ a w I X β σ l D o S' w2 I2 X' β' σ' :=
  ⟨j.rel.later (fun b h => j.mine b (.inl h)) (fun l d b h => j.mine b (.inr (.inl ⟨l, d, h⟩))) (fun t g h => j.mine _ (.inr (.inr ⟨t, g, h, rfl⟩))) he hb, j.mine,
    j.ext.trans (he.sub fun b h => j.mine b (.inl h)), j.abv, he.fix _ _ j.loop rfl, he.fix _ _ j.dfr rfl⟩

end
end Go.Proofs.YtllmejkmogepjaaGreatDoor.Ix

/-
  Ix26: a range over a function, the statement; all code.
-/
namespace Go.Proofs.YtllmejkmogepjaaGreatDoor.Ix
set_option linter.unusedVariables false
set_option linter.unusedSimpArgs false

section
variable {C : Con} {Γ : Env} {S : St} {a : Act} {w : World} {I : Imm} {X : Nat → Prop} {β : Beta} {σ : Nat → Sig} {K : St → Prop}

theorem all_lt {l : List Nat} {n : Nat} (h : l.all (fun t => Nat.blt t n) = true) : ∀ p ∈ l, p < n := fun p hp => by
  rw [List.all_eq_true] at h; exact blt_lt (h p hp)

theorem Rel.dropT (r : Rel Γ S a w I X β σ) (wr : List Nat) : Rel Γ ⟨dropW wr S.tm, S.ce, S.up⟩ a w I X β σ := by
  refine ⟨fun i => ?_, r.df, r.nt, r.mem, r.own⟩
  simp only [look_drop]
  split
  · exact .data (.dead _)
  · exact r.tm i

theorem range_sound (wr : Nat → Bool) (hm : Γ.P.follows .mixedOrders = true) (hT : TOK Γ.P Γ.T) (hC : HC C Γ) (hV : ∀ g c n xs, Γ.vis g c n xs → Vis Γ.P Γ.gl g c n xs) (n : Nat)
    (f : Operand) (ps : Array Tmp) (assign body : Code) (Q : Ex → St → Prop) (S : St) (a : Act) (w : World) (I : Imm) (X : Nat → Prop) (β : Beta) (σ : Nat → Sig) (hwr : ∀ d ∈ wrs (.rangeFunc f ps assign body), wr d = true)
    (h : iwp C Γ (.rangeFunc f ps assign body) Q S) (hr : Rel Γ S a w I X β σ) : (Code.rangeFunc f ps assign body).wpIn (Fw none) n Γ.P (QRG Γ (Wn wr) Q I X w β σ a) a w := by
  obtain ⟨g, c, nn, xs, hf, hp, hv, hok, hlen, Inv, ix, a0, h0, i0, hw, hrd, hd⟩ := h
  simp only [Bool.and_eq_true] at hok
  obtain ⟨⟨hn1, hn2⟩, hps⟩ := hok
  have hps := all_lt hps
  obtain ⟨⟨fn, code, hfn, hbody, hname⟩, hvis⟩ := hV _ _ _ _ hv
  have hvf := evo_V hr f
  rw [hf] at hvf
  obtain ⟨us0, us, hval, hl1, hl2, _, hV2⟩ := hvf.fn_inv
  have hus0 : us0 = #[] := Array.eq_empty_of_size_eq_zero (by rw [← hl1]; rfl)
  subst hus0
  refine wpIn_rangeFunc fun fnid _ => ?_
  let rec0 : LoopState → Option Code → Loop := fun st pe => { state := st, pending := pe, fn := fnid, tmps := a.tmps, params := ps, assign, body, defers := w.heap.size }
  let D := w.heap.size
  let l := w.heap.size + 1
  let W1 := (w.alloc (.deferred (some []))).alloc (.loop (rec0 .ready none))
  have hL1 : W1.heap[l]? = some (.loop (rec0 .ready none)) := by
    have := World.alloc_heap_new (w.alloc (.deferred (some []))) (.loop (rec0 .ready none)); rwa [World.size_alloc] at this
  have hK1 : W1.heap[D]? = some (.deferred (some [])) := by
    exact (heap_alloc_old _ _ (by simp [D])).trans (World.alloc_heap_new w _)
  have hX := hr.mem.xb
  have he1 : Ext I X w I W1 := (Ext.alloc I X w _ hX).trans (Ext.alloc I X _ _ fun b hb => by have := hX b hb; simp; omega)
  have hr1 : Rel Γ S a W1 I X β σ := (hr.alloc _).alloc _
  obtain ⟨β1, r1, ab1⟩ := hr1.le h0
  -- what is carried between the rounds
  let J : Nat → World → Imm → (Nat → Prop) → Prop := fun k w' I' X' =>
    (k ≤ nn ∧ ∃ x β' σ', ix x = k ∧ JB Γ a w I X β σ l D (rec0 .ready none) (Inv x) w' I' X' β' σ') ∨
    (nn < k ∧ ∃ S' c β' σ', ((c = .ret ∧ Q .ret S') ∨ ∃ id, c = .exit id ∧ Q (.exit id) S') ∧ JB Γ a w I X β σ l D (rec0 .done (some c)) S' w' I' X' β' σ')
  refine ⟨l, [{ target := .collected D, args := #[] }], W1, { target := .fn (.func g) us, args := #[yv l] }, W1, g, #[yv l] ++ us, W1, run_enterLoop_outer _ _ _ _ _, ?_, fun _ _ => trivial, ?_, fun e => (by cases e), ?_⟩
  · simp only [resolve, hval]
    simp [go_sem]; rfl
  · simp only [invoke, callFunc, run_program, Sem.run_bind, hfn, hname, hbody, Option.isNone, Result.andThen_ok]
    rfl
  · have hdone : Calls Γ.P g (#[yv l] ++ us) W1 fun e w' => ∃ v I' X' L, e = .returned v ∧ nn ≤ L ∧ J L w' I' X' ∧ Base Γ.gl w' I' X' := by
      have hX1 : ∀ b, mine X β1 σ b → b < W1.heap.size := r1.mine_lt
      refine hvis l us J W1 I (mine X β1 σ) ⟨r1.mem.im, r1.mem.glo, hX1, r1.mem.gz⟩ (by rw [noOwnL_eq, List.length_map]; exact hl2) (fun j x hx => ?_) ?_ ?_ (.inl ⟨Nat.zero_le _, a0, β1, σ, i0, r1, fun _ h => h, he1, ab1, hL1, hK1⟩)
      · rw [noOwnL_eq] at hx
        obtain ⟨y, hy, rfl⟩ := map_get hx
        exact (hV2 j y hy).data' (noPtrL_get hp j y hy)
      · rintro k w1 I1 X1 w2 I2 (⟨hk, x, β', σ', hx, j⟩ | ⟨hk, S', c, β', σ', hc, j⟩) he hb
        · exact .inl ⟨hk, x, β', σ', hx, j.later he hb⟩
        · exact .inr ⟨hk, S', c, β', σ', hc, j.later he hb⟩
      · -- one round
        intro k w1 I1 X1 Y vs hk hJ hb hY hlx hDx
        rcases hJ with ⟨_, x, β', σ', hix, j⟩ | ⟨hk', _⟩
        rotate_left
        · omega
        have hYX : ∀ b, Y b → ¬ mine X β' σ' b := fun b hy hm => (hY b hy).1 (j.mine b hm)
        have hYl : ∀ b, Y b → b ≠ l := fun b hy e => by
          obtain ⟨_, o, ho, hf⟩ := hY b hy
          rw [e, j.loop] at ho; cases ho; cases hf
        have hvs : vs.size = ps.size := by rw [← hlx, hlen k hk]; simp
        have hy := run_yield (P := Γ.P) (args := vs) j.loop hvs
        refine ⟨fnid, _, assign, body, hy, ?_⟩
        let tm0 := (ps.zip vs).foldl (fun t (p, v) => t.setIfInBounds p v) a.tmps
        have htm0 : tm0 = (ps.toList.zip vs.toList).foldl (fun t (p, v) => t.setIfInBounds p v) a.tmps := by
          show (ps.zip vs).foldl _ _ = _
          rw [← Array.foldl_toList, Array.toList_zip]
        obtain ⟨t1, t2, t3⟩ := roundT_rel (β0 := β') (s := σ' 0) (I := I1) ps.toList (xs k) vs.toList (Inv x).tm a.tmps (hlen k hk) (by simpa using hvs) (fun p hp => by have := hps p hp; have := hr.nt; omega)
          j.rel.tm (fun q y hq => by have := hDx q y hq; exact .data (by simpa [Array.getD_eq_getD_getElem?, List.getD_eq_getElem?_getD] using this))
        rw [← htm0] at t1 t2 t3
        have rr : Rel Γ ⟨roundT ps.toList (xs k) (Inv x).tm, (Inv x).ce, (Inv x).up⟩ { tmps := tm0, defers := [] } w1 I1 (fun b => X b ∨ Y b) β' σ' := by
          refine ⟨t1, ⟨.nil _ _, fun d e => (by rw [hC.2.2] at e; cases e)⟩, by show Γ.nt ≤ tm0.size; rw [t2]; exact j.rel.nt, ⟨fun l' d c hc => ?_, j.rel.mem.inj, j.rel.mem.keys, j.rel.mem.im, j.rel.mem.glo, fun b hb' => ?_, j.rel.mem.gz⟩, ⟨fun t g hg => ?_, j.rel.own.inj⟩⟩
          · obtain ⟨b, arr, el, g1, g2, g3, g4, g5, g6, g7⟩ := j.rel.mem.cell l' d c hc
            exact ⟨b, arr, el, g1, g2, g3, g4, g5, g6, fun hx => hx.elim g7 fun hy => hYX b hy (.inr (.inl ⟨l', d, g1⟩))⟩
          · rcases hb' with hb' | hb'
            · exact j.rel.mem.xb b hb'
            · obtain ⟨_, o, ho, _⟩ := hY b hb'; exact heap_lt ho
          · obtain ⟨cur, k1, k2, k3, k4, k5, k6, k7⟩ := j.rel.own.row t g hg
            exact ⟨cur, k1, k2, k3, k4, k5, fun hx => hx.elim k6 fun hy => hYX g.b hy (.inr (.inr ⟨t, g, hg, rfl⟩)), k7⟩
        refine roundIn_of_wpIn (F := Fw none) trivial ?_
        have hwa : ∀ d ∈ wrs assign, isIn (ps.toList ++ (wrs assign ++ wrs body)) d = true := fun d hd => isIn_iff.2 (by simp [hd])
        have hwb : ∀ d ∈ wrs body, isIn (ps.toList ++ (wrs assign ++ wrs body)) d = true := fun d hd => isIn_iff.2 (by simp [hd])
        refine wpIn_mono (iwp_sound_r hm hT hC (some l) 0 assign _ _ { tmps := tm0, defers := [] } w1 I1 (fun b => X b ∨ Y b) β' σ' (isIn (ps.toList ++ (wrs assign ++ wrs body))) hn1 hwa (hix ▸ hrd x (by omega)) rr) ?_
        intro e a2 w2 hq
        cases e with
        | exit id => obtain ⟨S', I', X', β2, σ2, k1, _⟩ := hq; exact k1.elim
        | ret => obtain ⟨S', I', X', β2, σ2, k1, _⟩ := hq; exact k1.elim
        | goto l => exact hq.elim
        | panic c => exact hq.elim
        | outgrown => exact hq.elim
        | normal =>
          obtain ⟨S2, I2, X2, β2, σ2, k1, k2, _, ⟨k3, k3'⟩, k4, k5⟩ := hq
          have hl2 : w2.heap[l]? = some (.loop (rec0 .ready none)) := k3.fix _ _ j.loop rfl
          refine ⟨_, run_beginRound hl2 rfl, ?_⟩
          have hl3 : (w2.putObj l (.loop { rec0 .ready none with state := .busy })).heap[l]? = some (.loop { rec0 .ready none with state := .busy }) := World.putObj_heap_same (heap_lt hl2)
          have k2' := (k2.sub k3').putLoop hl2 { rec0 .ready none with state := .busy }
          refine wpIn_mono (iwp_sound_r hm hT hC (some l) 0 body _ _ a2 _ I2 (fun b => X b ∨ Y b) β2 σ2 (isIn (ps.toList ++ (wrs assign ++ wrs body))) hn2 hwb k1 k2') ?_
          -- a round's end
          have fin : ∀ (jump : Option Code) (S3 S4 : St) (a3 : Act) (w3 : World) (I3 : Imm) (X3 : Nat → Prop) (β3 β4 : Beta) (σ3 : Nat → Sig), Rel Γ S4 a3 w3 I3 X3 β4 σ3 → (∀ b, (X b ∨ Y b) → X3 b) → Above β3 β4 σ3 σ3 → Ext I2 (fun b => X b ∨ Y b) (w2.putObj l (.loop { rec0 .ready none with state := .busy })) I3 w3 → Above β2 β3 σ2 σ3 →
              Same (Wn (isIn (ps.toList ++ (wrs assign ++ wrs body)))) a2 a3 → (∀ i, isIn (ps.toList ++ (wrs assign ++ wrs body)) i = true → look S4.tm i = .dead) →
              ∃ v w4, (Instr.endRound l jump).run Γ.P w3 = .ok v w4 ∧ ∃ I4 X4, v = .bool jump.isNone ∧ Kept I1 Y w1 I4 w4 ∧ Base Γ.gl w4 I4 X4 ∧ (∀ b, Y b → ¬ X4 b) ∧
                JB Γ a w I X β σ l D (rec0 (if jump.isNone then .ready else .done) jump) S4 w4 I4 X4 β4 σ3 := by
            intro jump S3 S4 a3 w3 I3 X3 β3 β4 σ3 q1 q2 q3 q4 q5 q6 q7
            have hl4 := q4.fix _ _ hl3 rfl
            have hd4 : w3.heap[D]? = some (.deferred (some [])) := q4.fix _ _ (by rw [World.putObj_heap_other (show D ≠ l by show w.heap.size ≠ w.heap.size + 1; omega)]; exact k3.fix _ _ j.dfr rfl) rfl
            have q1' := (q1.sub q2).putLoop hl4 (rec0 (if jump.isNone then .ready else .done) jump)
            have hext : Ext I X w I3 (w3.putObj l (.loop (rec0 (if jump.isNone then .ready else .done) jump))) := by
              have e1 : Ext I X w I2 (w2.putObj l (.loop { rec0 .ready none with state := .busy })) := (j.ext.trans (k3.sub fun b h => .inl h)).put (by show w.heap.size ≤ w.heap.size + 1; omega) hX _
              exact (e1.trans (q4.sub fun b h => .inl h)).put (by show w.heap.size ≤ w.heap.size + 1; omega) hX _
            refine ⟨_, _, run_endRound jump hl4, I3, mine X β4 σ3, rfl, ?_, ⟨q1'.mem.im, q1'.mem.glo, (q1'.sub fun b h => .inl h : Rel Γ S4 a3 _ I3 X β4 σ3).mine_lt, q1'.mem.gz⟩, q1'.mine_not (fun b hy hx => hYX b hy (.inl hx)), ?_⟩
            · have hs1 := k3.size
              have hs2 := q4.size
              refine ⟨by simp at hs2 ⊢; omega, fun b hb => ?_, fun x v hx => q4.imm _ _ (k3.imm _ _ hx), fun x hx => (q4.new x (.inr hx)).trans (k3.new x (.inr hx)), fun q cc hq => ?_⟩
              · rw [World.putObj_heap_other (hYl b hb), q4.keep b (.inr hb), World.putObj_heap_other (hYl b hb), k3.keep b (.inr hb)]
              · have hne : q ≠ l := fun e => by rw [e, j.loop] at hq; cases hq
                rw [World.putObj_heap_other hne]
                exact q4.fix _ _ (by rw [World.putObj_heap_other hne]; exact k3.fix _ _ hq rfl) rfl
            · refine ⟨⟨fun i => ?_, ?_, j.rel.nt, (q1'.sub fun b h => .inl h : Rel Γ S4 a3 _ I3 X β4 σ3).mem, (q1'.sub fun b h => .inl h : Rel Γ S4 a3 _ I3 X β4 σ3).own⟩, fun _ h => h, hext, ((j.abv.trans k4).trans q5).trans q3, World.putObj_heap_same (heap_lt hl4), by rw [World.putObj_heap_other (show D ≠ l by show w.heap.size ≠ w.heap.size + 1; omega)]; exact hd4⟩
              · by_cases hi : isIn (ps.toList ++ (wrs assign ++ wrs body)) i = true
                · rw [q7 i hi]; exact .data (.dead _)
                · have hi' : isIn (ps.toList ++ (wrs assign ++ wrs body)) i = false := by simpa using hi
                  have e1 := q6 i hi'
                  have e2 := k5 i hi'
                  have e3 := t3 i (fun hm => hi (isIn_iff.2 (by simp [hm])))
                  have := q1'.tm i
                  rw [e1, e2] at this
                  simp only at this
                  rw [e3] at this; exact this
              · obtain ⟨Ds, m1, m2, m3⟩ := hr.df.m
                exact ⟨⟨Ds, m1, m2, fun E hE => ⟨hext.fix E _ (m3 E hE).1 rfl, (m3 E hE).2⟩⟩, hr.df.e⟩
          intro e a3 w3 hq3
          cases e with
          | goto l => exact hq3.elim
          | panic c => exact hq3.elim
          | outgrown => exact hq3.elim
          | normal =>
            obtain ⟨S3, I3, X3, β3, σ3, ⟨x', hx', hle⟩, g2, _, ⟨g3, g3'⟩, g4, g5⟩ := hq3
            obtain ⟨β4, r4, ab4⟩ := g2.le hle
            obtain ⟨v, w4, f1, I4, X4, f2, f3, f4, f5, f6⟩ := fin none S3 (Inv x') a3 w3 I3 X3 β3 β4 σ3 r4 g3' ab4 g3 g4 g5 (fun i hi => look_ok (hw x') hi)
            exact ⟨v, w4, f1, I4, X4, true, by rw [f2]; rfl, f3, f4, f5, .inl ⟨hk, x', β4, σ3, by rw [hx', hix]; rfl, f6⟩⟩
          | ret =>
            obtain ⟨S3, I3, X3, β3, σ3, hq, g2, _, ⟨g3, g3'⟩, g4, g5⟩ := hq3
            have r4 : Rel Γ ⟨dropW (ps.toList ++ (wrs assign ++ wrs body)) S3.tm, S3.ce, S3.up⟩ a3 w3 I3 X3 β3 σ3 := g2.dropT _
            obtain ⟨v, w4, f1, I4, X4, f2, f3, f4, f5, f6⟩ := fin (some .ret) S3 _ a3 w3 I3 X3 β3 β3 σ3 r4 g3' (.refl _ _) g3 g4 g5 (fun i hi => by simp only [look_drop, hi, if_true])
            exact ⟨v, w4, f1, I4, X4, false, by rw [f2]; rfl, f3, f4, f5, .inr ⟨by simp; omega, _, .ret, β3, σ3, .inl ⟨rfl, hq⟩, f6⟩⟩
          | exit id =>
            obtain ⟨S3, I3, X3, β3, σ3, hq, g2, _, ⟨g3, g3'⟩, g4, g5⟩ := hq3
            have r4 : Rel Γ ⟨dropW (ps.toList ++ (wrs assign ++ wrs body)) S3.tm, S3.ce, S3.up⟩ a3 w3 I3 X3 β3 σ3 := g2.dropT _
            obtain ⟨v, w4, f1, I4, X4, f2, f3, f4, f5, f6⟩ := fin (some (.exit id)) S3 _ a3 w3 I3 X3 β3 β3 σ3 r4 g3' (.refl _ _) g3 g4 g5 (fun i hi => by simp only [look_drop, hi, if_true])
            exact ⟨v, w4, f1, I4, X4, false, by rw [f2]; rfl, f3, f4, f5, .inr ⟨by simp; omega, _, .exit id, β3, σ3, .inr ⟨id, rfl, hq⟩, f6⟩⟩
    refine (callsIn_of (n := n - 1) (r := none) hdone).mono ?_
    rintro e w' ⟨v, I', X', L, rfl, hL, hJ, hb⟩
    have after : ∀ (st : LoopState) (pe : Option Code) (S' : St) (β' : Beta) (σ' : Nat → Sig), st ≠ .busy → JB Γ a w I X β σ l D (rec0 st pe) S' w' I' X' β' σ' → ∀ K : St → Prop, K S' →
        ∃ w4, (Instr.endLoop l).run Γ.P w' = .ok pe w4 ∧ AftG Γ (Wn wr) K I X w β σ a { a with defers := [{ target := .collected D, args := #[] }] ++ a.defers } w4 := by
      intro st pe S' β' σ' hst j K hk
      have hrun := run_endLoop (P := Γ.P) j.loop hst
      have hne : D ≠ l := by show w.heap.size ≠ w.heap.size + 1; omega
      have r2 := j.rel.putLoop j.loop { rec0 st pe with state := .exhausted }
      have he2 : Ext I X w I' (w'.putObj l (.loop { rec0 st pe with state := .exhausted })) := j.ext.put (by show w.heap.size ≤ w.heap.size + 1; omega) hX _
      refine ⟨_, hrun, S', I', X, β', σ', hk, ⟨r2.tm, ?_, r2.nt, r2.mem, r2.own⟩, trivial, ⟨he2, fun _ h => h⟩, j.abv, fun _ _ => rfl⟩
      obtain ⟨Ds, m1, m2, m3⟩ := hr.df.m
      refine ⟨⟨D :: Ds, by simp [m1], List.nodup_cons.2 ⟨fun hD => ?_, m2⟩, fun E hE => ?_⟩, fun d e => (by rw [hC.2.2] at e; cases e)⟩
      · have := heap_lt (m3 D hD).1
        exact Nat.lt_irrefl _ this
      · rcases List.mem_cons.1 hE with rfl | hE
        · exact ⟨by rw [World.putObj_heap_other hne]; exact j.dfr, fun hx => Nat.lt_irrefl _ (hX _ hx)⟩
        · exact ⟨he2.fix E _ (m3 E hE).1 rfl, (m3 E hE).2⟩
    rcases hJ with ⟨hk, x, β', σ', hix, j⟩ | ⟨hk, S', c, β', σ', hc, j⟩
    · obtain ⟨w4, h1, h2⟩ := after .ready none (Inv x) β' σ' (by nofun) j (Q .normal) (hd x (by omega))
      exact ⟨none, w4, h1, h2⟩
    · rcases hc with ⟨rfl, hq⟩ | ⟨id, rfl, hq⟩
      · obtain ⟨w4, h1, h2⟩ := after .done _ S' β' σ' (by nofun) j (Q .ret) hq
        exact ⟨some .ret, w4, h1, wpIn_ret h2⟩
      · obtain ⟨w4, h1, h2⟩ := after .done _ S' β' σ' (by nofun) j (Q (.exit id)) hq
        exact ⟨some (.exit id), w4, h1, wpIn_exit h2⟩

/-- All code, in the frame of an activation. -/
theorem iwp_sound (hm : Γ.P.follows .mixedOrders = true) (hT : TOK Γ.P Γ.T) (hC : HC C Γ) (hV : ∀ g c n xs, Γ.vis g c n xs → Vis Γ.P Γ.gl g c n xs) (n : Nat) (c : Code) (Q : Ex → St → Prop) (S : St) (a : Act) (w : World) (I : Imm) (X : Nat → Prop) (β : Beta) (σ : Nat → Sig)
    (h : iwp C Γ c Q S) (hr : Rel Γ S a w I X β σ) : c.wpIn (Fw none) n Γ.P (QRG Γ (Wn fun _ => true) Q I X w β σ a) a w :=
  iwp_soundG (W := Wn fun _ => true) false false (opOK_n _ hT hC none n) (fun _ => draw_n _ hm hT hC none n)
    (fun _ f ps assign body Q S a w I X β σ hw h hr _ => range_sound _ hm hT hC hV n f ps assign body Q S a w I X β σ hw h hr) c Q S a w I X β σ (fun e => by cases e) (fun e => by cases e) (fun _ _ => rfl) h hr trivial

end
end Go.Proofs.YtllmejkmogepjaaGreatDoor.Ix

/-
  Ix15: a function's contract, out of the evaluator's word on its body.
-/
namespace Go.Proofs.YtllmejkmogepjaaGreatDoor.Ix
set_option linter.unusedVariables false

section
variable {Γ : Env} {S : St} {a : Act} {w : World} {I : Imm} {X : Nat → Prop} {β : Beta} {σ : Nat → Sig} {K : St → Prop}

theorem params_look : ∀ (args : List IV) (k i : Nat), look (params k args) i = if k ≤ i then args.getD (i - k) .dead else .dead
  | [], k, i => by simp [params, look]
  | x :: r, k, i => by
    simp only [params, look_cons, params_look r (k + 1) i]
    by_cases h : k = i
    · subst h; simp
    · rw [if_neg h]
      by_cases h2 : k ≤ i
      · rw [if_pos (by omega), if_pos h2, show i - k = (i - (k + 1)) + 1 by omega]; simp
      · rw [if_neg (by omega), if_neg h2]

theorem V.noOwnCell {I : Imm} {β β' : Beta} {s s' : Sig} (hb : ∀ l d b, β (l + 1) d = some b → β' (l + 1) d = some b) (hs : ∀ t g, s t = some g → s' t = some g) {x : IV} {v : Value} (h : V I β s x v) : clV [] x = true → V I β' s' x v := by
  intro hc
  have h1 : V I β' s x v := V.cl (ds := []) (fun l d b hb' hk => by
    cases l with
    | zero => simpa using hk rfl
    | succ l => exact hb l d b hb') h hc
  exact h1.mono (fun _ _ h => h) (fun _ _ _ h => h) hs

theorem freezeL_eq (ce : Ces) : ∀ l, freezeL ce l = l.map (freeze ce)
  | [] => rfl
  | x :: r => by simp only [freezeL, List.map_cons, freezeL_eq ce r]

theorem D.frz {I I2 : Imm} (hI : ∀ a v, I a = some v → I2 a = some v) (ce : Ces) {x : IV} {v : Value} (h : D I x v) : D I2 (freeze ce x) v := by
  induction h with
  | int k n => exact .int k n
  | bool b => exact .bool b
  | str s => exact .str s
  | lit v h => exact .lit v h
  | nilS => exact .nilS
  | lstN e f => exact .lstN e f
  | lst e n f b off c g hc hl hi h1 h _ => exact (D.lst e n f b off c g hc hl hi h1 h).mono hI
  | vptr e n f i j b off g hi0 hl hi h1 h _ => exact (D.vptr e n f i j b off g hi0 hl hi h1 h).mono hI
  | agg xs vs hl h1 _ ih =>
    simp only [freeze, freezeL_eq]
    exact .agg _ vs (by simpa using hl) h1 fun j y hy => by obtain ⟨z, hz, rfl⟩ := map_get hy; exact ih j z hz
  | tup xs vs hl _ ih =>
    simp only [freeze, freezeL_eq]
    exact .tup _ vs (by simpa using hl) fun j y hy => by obtain ⟨z, hz, rfl⟩ := map_get hy; exact ih j z hz
  | fn f xs ys vs us hl hk _ _ ih ih' =>
    simp only [freeze, freezeL_eq]
    exact .fn f _ _ vs us (by simpa using hl) (by simpa using hk) (fun j y hy => by obtain ⟨z, hz, rfl⟩ := map_get hy; exact ih j z hz) (fun j y hy => by obtain ⟨z, hz, rfl⟩ := map_get hy; exact ih' j z hz)
  | dead v => exact .dead v

open Classical in
/-- What the own cells hold from now on, nobody writes any more. -/
theorem Rel.frz (r : Rel Γ S a w I X β σ) : ∃ I2 : Imm, (∀ a v, I a = some v → I2 a = some v) ∧ (∀ x, X x.block → I2 x = I x) ∧ (∀ x v, V I β (σ 0) x v → V I2 β (σ 0) (freeze S.ce x) v) ∧ OwnR w I2 X β (σ 0) ∧
    MemR Γ.gl S.up w I2 X (fun l d => β (l + 1) d) (fun l => σ (l + 1)) := by
  let P : Addr → Prop := fun x => ∃ d c, lookC S.ce d = some c ∧ noPtrL c = true ∧ β 0 d = some x.block ∧ x.spot = none ∧ x.off < c.length
  let I2 : Imm := fun x => if P x then w.cell? x else I x
  have cell : ∀ d c b, lookC S.ce d = some c → β 0 d = some b → ∃ arr el, w.heap[b]? = some (.cells arr el (0, 0)) ∧ arr.size = c.length ∧ (∀ (j : Nat) (u : Value), arr[j]? = some u → u.oneCell' = true) ∧ (∀ (j : Nat) x, c[j]? = some x → V I β (σ 0) x (arr.getD j undef)) ∧ ¬ X b ∧ ∀ j, I ⟨b, j, none⟩ = none := by
    intro d c b hc hb
    obtain ⟨b', arr, el, h1, h2, h3, h4, h5, h6, h7⟩ := r.mem.cell 0 d c hc
    rw [hb] at h1; cases h1
    exact ⟨arr, el, h2, h3, h4, fun j x hx => by simpa using h5 j x hx, h7, h6⟩
  have hI : ∀ x v, I x = some v → I2 x = some v := by
    intro x v hx
    show (if P x then _ else _) = _
    split
    · exact r.mem.im x v hx
    · exact hx
  have hXP : ∀ x, X x.block → ¬ P x := by
    rintro x hx ⟨d, c, hc, _, hb, _⟩
    obtain ⟨_, _, _, _, _, _, h, _⟩ := cell d c _ hc hb
    exact h hx
  have hup : ∀ l d b (x : Addr), β (l + 1) d = some b → x.block = b → ¬ P x := by
    rintro l d b x hb rfl ⟨d', c, hc, _, hb', _⟩
    have := r.mem.inj _ _ _ _ _ hb hb'; omega
  have him : ∀ x v, I2 x = some v → w.cell? x = some v := by
    intro x v hx
    have hx : (if P x then w.cell? x else I x) = some v := hx
    split at hx
    · exact hx
    · exact r.mem.im x v hx
  refine ⟨I2, hI, fun x hx => if_neg (hXP x hx), fun x v hv => ?_, ⟨fun t g hg => ?_, r.own.inj⟩, ⟨fun l d c hc => ?_, fun l d l' d' b h1 h2 => ?_, fun l d b h1 => r.mem.keys (l + 1) d b h1, him, fun g => (r.mem.glo g).mono hI, r.mem.xb, r.mem.gz⟩⟩
  · induction hv with
    | data h => exact .data (h.frz hI _)
    | ptr l d off b hb =>
      cases l with
      | succ l => exact .ptr (l + 1) d off b hb
      | zero =>
        simp only [freeze]
        split
        · rename_i c hc
          split
          · rename_i hp
            obtain ⟨arr, el, h2, h3, h4, h5, h6, h7⟩ := cell d c b hc hb
            obtain ⟨arr0, hoff⟩ : True ∧ True := ⟨trivial, trivial⟩
            have hcell : ∀ j, j < c.length → I2 ⟨b, j, none⟩ = some (arr.getD j undef) := by
              intro j hj
              show (if P _ then _ else _) = _
              rw [if_pos ⟨d, c, hc, hp, hb, rfl, hj⟩]
              have hlt : j < arr.size := by omega
              simp [World.cell?, h2, Array.getD_eq_getD_getElem?, hlt]
            have := D.vptr (I := I2) c.length 1 (fun _ => noOwnL c) 0 off b 0 (fun _ j => arr.getD j undef) (by omega) (fun i _ => by rw [noOwnL_eq]; simp) (fun i j hi hj => by
              have : i = 0 := by omega
              subst this; simpa using hcell j hj) (fun i j hi hj => h4 j _ (by rw [Array.getD_eq_getD_getElem?]; have : j < arr.size := by omega
                                                                               simp [this])) (fun i j x hi hx => by
              rw [noOwnL_eq] at hx
              obtain ⟨y, hy, rfl⟩ := map_get hx
              exact ((h5 j y hy).data' (noPtrL_get hp j y hy)).mono hI)
            exact .data (by simpa using this)
          · exact .ptr 0 d off b hb
        · exact .ptr 0 d off b hb
    | ownN t e f => exact .ownN t e f
    | raw t e n b el ht => exact .raw t e n b el ht
    | own t e n f b el c g ht hc hl hi h1 h => exact .own t e n f b el c g ht hc hl (fun i j h h' => hI _ _ (hi i j h h')) h1 (fun i j x a b => (h i j x a b).mono hI)
    | agg xs vs hl h1 _ ih =>
      simp only [freeze, freezeL_eq]
      exact .agg _ vs (by simpa using hl) h1 fun j y hy => by obtain ⟨z, hz, rfl⟩ := map_get hy; exact ih j z hz
    | tup xs vs hl _ ih =>
      simp only [freeze, freezeL_eq]
      exact .tup _ vs (by simpa using hl) fun j y hy => by obtain ⟨z, hz, rfl⟩ := map_get hy; exact ih j z hz
    | fn f xs ys vs us hl hk _ _ ih ih' =>
      simp only [freeze, freezeL_eq]
      exact .fn f _ _ vs us (by simpa using hl) (by simpa using hk) (fun j y hy => by obtain ⟨z, hz, rfl⟩ := map_get hy; exact ih j z hz) (fun j y hy => by obtain ⟨z, hz, rfl⟩ := map_get hy; exact ih' j z hz)
  · obtain ⟨cur, c1, c2, c3, c4, c5, c6, c7⟩ := r.own.row t g hg
    refine ⟨cur, c1, c2, c3, c4, fun j hj => ?_, c6, c7⟩
    show (if P _ then _ else _) = _
    rw [if_neg]
    · exact c5 j hj
    · rintro ⟨d, c, hc, _, hb, _⟩; exact c7 0 d hb
  · obtain ⟨b, arr, el, h1, h2, h3, h4, h5, h6, h7⟩ := r.mem.cell (l + 1) d c hc
    refine ⟨b, arr, el, h1, h2, h3, h4, fun j x hx => ?_, fun j => ?_, h7⟩
    · have := (h5 j x hx).mono hI (fun _ _ _ h => h) (fun _ _ h => h)
      have e : (fun l' => β (l + 1 + l')) = fun l' d => β (l + l' + 1) d := by funext l'; rw [show l + 1 + l' = l + l' + 1 by omega]
      rw [e] at this; exact this
    · show (if P _ then _ else _) = _
      rw [if_neg (hup l d b _ h1 rfl)]; exact h6 j
  · have := r.mem.inj (l + 1) d (l' + 1) d' b h1 h2
    exact ⟨by omega, this.2⟩

/-- A block of put-off calls may turn. -/
theorem Rel.putDef {D : Nat} {c : Option (List Deferred)} (r : Rel Γ S a w I X β σ) (hl : w.heap[D]? = some (.deferred c)) {ds : List Deferred} (o' : Obj) (hm : Dfs Γ.ds ds (w.putObj D o') X) : Rel Γ S { a with defers := ds } (w.putObj D o') I X β σ := by
  refine ⟨r.tm, hm, r.nt, ⟨fun l' d c hc => ?_, r.mem.inj, r.mem.keys, fun x v hx => cell_put (r.mem.im x v hx) hl rfl, r.mem.glo, fun b h => by simpa using r.mem.xb b h, r.mem.gz.of fun g arr el mm hg => ⟨arr, el, mm, by rw [World.putObj_heap_other (by rintro rfl; rw [hl] at hg; cases hg)]; exact hg, rfl⟩⟩, ⟨fun t g hg => ?_, r.own.inj⟩⟩
  · obtain ⟨b, arr, el, h1, h2, h3, h4, h5, h6, h7⟩ := r.mem.cell l' d c hc
    exact ⟨b, arr, el, h1, by rw [World.putObj_heap_other (fixed_cells h2 hl rfl)]; exact h2, h3, h4, h5, h6, h7⟩
  · obtain ⟨cur, k1, k2⟩ := r.own.row t g hg
    exact ⟨cur, by rw [World.putObj_heap_other (fixed_cells k1 hl rfl)]; exact k1, k2⟩

/-- On the way out: the marks are taken up. -/
theorem leaves_marks (hds : Γ.ds = none) {n : Nat} {fn : Func} {R : Ending → World → Prop} {w0 : World} {I0 : Imm} {X0 : Nat → Prop} (h0 : ∀ (b : Nat) o, w0.heap[b]? = some o → fixed o = true → X b) (hx : ∀ b, X0 b → X b)
    (hR : ∀ w', Rel Γ S { a with defers := [] } w' I X β σ → Ext I0 X0 w0 I w' → ∃ v, (results fn a.tmps).run Γ.P w' = .ok v w' ∧ R (.returned v) w') :
    ∀ (Ds : List Nat) (w : World), Ds.Nodup → (∀ D ∈ Ds, w.heap[D]? = some (.deferred (some [])) ∧ ¬ X D) → Rel Γ S { a with defers := Ds.map fun D => { target := .collected D, args := #[] } } w I X β σ → Ext I0 X0 w0 I w →
      LeavesInM (Fw none) n Γ.P fn a.tmps R (Ds.map fun D => { target := .collected D, args := #[] }) .returning w
  | [], w, _, _, r, he => hR w r he
  | D :: Ds, w, hn, hD, r, he => by
    obtain ⟨hn1, hn2⟩ := List.nodup_cons.1 hn
    obtain ⟨g1, g2⟩ := hD D (by simp)
    have hD' : ∀ E ∈ Ds, (w.putObj D (.deferred none)).heap[E]? = some (.deferred (some [])) ∧ ¬ X E := fun E hE => by
      have hne : E ≠ D := fun e => hn1 (e ▸ hE)
      rw [World.putObj_heap_other hne]; exact hD E (by simp [hE])
    refine ⟨nofun, .inl ⟨D, _, rfl, run_takeDeferred g1, leaves_marks hds h0 hx hR Ds _ hn2 hD' ?_ ?_⟩⟩
    · exact r.putDef g1 (.deferred none) ⟨⟨Ds, rfl, hn2, hD'⟩, fun d e => (by rw [hds] at e; cases e)⟩
    · refine ⟨he.os, he.tape, he.output, by simpa using he.size, fun b hb => ?_, he.imm, he.new, fun k o hk ho => ?_⟩
      · have hne : b ≠ D := fun e => g2 (e ▸ hx b hb)
        rw [World.putObj_heap_other hne]; exact he.keep b hb
      · have hne : k ≠ D := fun e => g2 (e ▸ h0 k o hk ho)
        rw [World.putObj_heap_other hne]; exact he.fix k o hk ho

theorem comp_of_body {C : Con} (hmo : Γ.P.follows .mixedOrders = true) (hT : TOK Γ.P Γ.T) (hC : ∀ g up args r up', C g up args r up' → Comp Γ.P Γ.gl g up args r up') (hV : ∀ g c n xs, Γ.vis g c n xs → Vis Γ.P Γ.gl g c n xs) {g : Nat} {fn : Func} {c : Code} (hf : Γ.P.funcs[g]? = some fn)
    (hb : fn.body = some c) (hn : (fn.name == "runtime.NumGoroutine") = false) {up up2 : List Ces} {args : List IV} {rv : IV}
    (h : ibody C Γ fn up args fun r up' => r = rv ∧ up' = up2) : Comp Γ.P Γ.gl g up args rv up2 := by
  refine ⟨⟨fn, c, hf, hb, hn⟩, fun vals w I X β σ hm hlen hargs => ?_⟩
  refine (callsIn_wide (n := 1)).1 (callsIn_of_wp_marks (F := Fw none) hf hb trivial ?_)
  simp only [ibody, hb, fps_eq] at h
  let Γ' : Env := ⟨Γ.P, Γ.T, Γ.gl, fn.ntmps, Γ.vis, none, none⟩
  let σu : Nat → Sig := fun l => match l with | 0 => noSig | l + 1 => σ l
  let X1 : Nat → Prop := fun b => X b ∨ ∃ o, w.heap[b]? = some o ∧ fixed o = true
  have r0 : Rel Γ' ⟨params 0 args, [], up⟩ { tmps := vals ++ Array.replicate (fn.ntmps - vals.size) undef, defers := [] } w I X1 (under β) σu := by
    refine ⟨fun i => ?_, ⟨.nil _ _, fun d e => (by cases e)⟩, ?_, ⟨fun l d c hc => ?_, fun l d l' d' b h1 h2 => ?_, fun l d b h1 => ?_, hm.im, hm.glo, fun b hb => ?_, hm.gz⟩, ⟨fun t g h => (by cases h), fun t t' g g' h => (by cases h)⟩⟩
    · rw [params_look]
      simp only [Nat.zero_le, if_true, Nat.sub_zero]
      cases hi : args[i]? with
      | none => simp only [List.getD_eq_getElem?_getD, hi, Option.getD_none]; exact .data (.dead _)
      | some x =>
        have hlt : i < vals.size := by rw [← hlen]; exact (List.getElem?_eq_some_iff.1 hi).1
        have := hargs i x hi
        simp only [List.getD_eq_getElem?_getD, hi, Option.getD_some]
        rw [Array.getD_eq_getD_getElem?] at this ⊢
        rw [Array.getElem?_append_left hlt]; exact this
    · simp only [Array.size_append, Array.size_replicate]; show fn.ntmps ≤ _; omega
    · cases l with
      | zero => simp [upC, lookC] at hc
      | succ l =>
        obtain ⟨b, arr, el, h1, h2, h3, h4, h5, h6, h7⟩ := hm.cell l d c hc
        refine ⟨b, arr, el, h1, h2, h3, h4, fun j x hx => ?_, h6, fun hx => ?_⟩
        · have := h5 j x hx
          have e : (fun l' => under β (l + 1 + l')) = fun l' => β (l + l') := by funext l'; rw [show l + 1 + l' = (l + l') + 1 by omega]; rfl
          rw [e]; exact this
        · rcases hx with hx | ⟨o, ho, hf⟩
          · exact h7 hx
          · rw [h2] at ho; cases ho; cases hf
    · cases l with
      | zero => cases h1
      | succ l => cases l' with
        | zero => cases h2
        | succ l' => have := hm.inj l d l' d' b h1 h2; exact ⟨by omega, this.2⟩
    · cases l with
      | zero => cases h1
      | succ l => exact hm.keys l d b h1
    · rcases hb with hb | ⟨o, ho, _⟩
      · exact hm.xb b hb
      · exact heap_lt ho
  have hw := iwp_sound (X := X1) (Γ := Γ') hmo hT ⟨hC, rfl, rfl⟩ hV 1 c _ _ _ w I (under β) σu h r0
  have fin : ∀ a' w', AftG Γ' (Wn fun _ => true) (fun S => resL Γ' S fn.results.toList fun vs => fv (freeze S.ce (one vs)) fun v => match clV [] v with
      | true => v = rv ∧ S.up = up2
      | false => False) I X1 w (under β) σu { tmps := vals ++ Array.replicate (fn.ntmps - vals.size) undef, defers := [] } a' w' → LeavesInM (Fw none) 1 Γ.P fn a'.tmps (fun e w' => ∃ u I' s, e = .returned u ∧ V I' (under β) s rv u ∧ OwnR w' I' X (under β) s ∧ MemR Γ.gl up2 w' I' X β σ ∧ Ext I X w I' w') a'.defers .returning w' := by
    rintro a' w' ⟨S', I', X', β', σ', hk, r, _, ⟨he, hx'⟩, hab, _⟩
    have r := r.sub hx'
    obtain ⟨Ds, d1, d2, d3⟩ := r.df.m
    rw [d1]
    refine leaves_marks rfl (Γ := Γ') (S := S') (a := a') (I := I') (X := X1) (X0 := X) (w0 := w) (I0 := I) (β := β') (σ := σ') (fun b o h1 h2 => .inr ⟨o, h1, h2⟩) (fun b h => .inl h) ?_ Ds w' d2 d3 (by rw [← d1]; exact r) (he.sub fun b h => .inl h)
    intro w2 r2 he2
    obtain ⟨ivs, us, k1, k2, k3, k4⟩ := resL_sound (Γ := Γ') hT r2 _ _ hk
    rw [fv_eq] at k1
    split at k1
    case h_2 => exact k1.elim
    rename_i hcl
    obtain ⟨rfl, rfl⟩ := k1
    have hbe : ∀ l d, β' (l + 1) d = β l d := fun l d => by rw [hab.1 l]; rfl
    obtain ⟨I3, z1, z2, z3, z4, z5⟩ := r2.frz
    refine ⟨if h : us.toArray.size = 1 then us.toArray[0] else .tuple us.toArray, ?_, _, I3, σ' 0, rfl, ?_, ?_, ?_, ?_⟩
    · have k4' : (fn.results.toList.mapM (resSem a'.tmps)).run Γ.P w2 = .ok us w2 := k4
      show (results fn a'.tmps).run Γ.P w2 = _
      simp only [results_eq, Array.mapM_eq_mapM_toList, Sem.run_bind, Sem.run_map, k4']; rfl
    · refine V.noOwnCell (β := β') (fun l d b hb => by rw [hbe] at hb; exact hb) (fun _ _ h => h) (z3 _ _ ?_) hcl
      cases ivs with
      | nil =>
        have : us = [] := by cases us <;> simp at k2 ⊢
        subst this
        simp only [one]
        exact .tup [] _ rfl (fun j x hx => by simp at hx)
      | cons x ivs =>
        cases ivs with
        | nil =>
          obtain ⟨u, rfl⟩ : ∃ u, us = [u] := by
            cases us with
            | nil => simp at k2
            | cons u us => cases us with
              | nil => exact ⟨u, rfl⟩
              | cons u' us => simp at k2
          simpa [one] using k3 0 x (by simp)
        | cons y ivs =>
          have h2 : ¬ us.toArray.size = 1 := by simp at k2 ⊢; omega
          rw [dif_neg h2]
          simp only [one]
          exact .tup _ _ (by simpa using k2) (fun j z hz => by simpa using k3 j z hz)
    · refine ⟨fun t g h => ?_, z4.inj⟩
      obtain ⟨cur, c1, c2, c3, c4, c5, c6, c7⟩ := z4.row t g h
      refine ⟨cur, c1, c2, c3, c4, c5, fun hx => c6 (.inl hx), fun l d hb => ?_⟩
      cases l with
      | zero => cases hb
      | succ l => exact c7 (l + 1) d (by rw [hbe]; exact hb)
    · have e1 : (fun l d => β' (l + 1) d) = β := by funext l d; exact hbe l d
      have e2 : (fun l => σ' (l + 1)) = σ := by funext l; exact hab.2 l
      rw [e1, e2] at z5
      exact z5.sub fun b h => .inl h
    · exact ⟨he2.os, he2.tape, he2.output, he2.size, he2.keep, fun x v hx => z1 x v (he2.imm x v hx), fun x hx => (z2 x (.inl hx)).trans (he2.new x hx), he2.fix⟩
  refine wpIn_mono hw fun e a' w' h' => ?_
  cases e with
  | normal => exact fin a' w' h'
  | ret => exact fin a' w' h'
  | exit id => obtain ⟨S', I', X', β', σ', hk, _⟩ := h'; exact hk.elim
  | goto l => exact h'.elim
  | panic ch => exact h'.elim
  | outgrown => exact h'.elim

end
end Go.Proofs.YtllmejkmogepjaaGreatDoor.Ix

/-
  Ix16: the types' table, asked by a computation.
-/
namespace Go.Proofs.YtllmejkmogepjaaGreatDoor.Ix
set_option linter.unusedVariables false

/-- The leaves of the fields, the first of which lies at 'off'. -/
def flatFs (P : Program) (g : TypeId → Option (List LK)) : List Field → Nat → Option (List LK)
  | [], off => some []
  | f :: fs, off => match f.name == "_", f.offset == off, g f.type with
    | false, true, some s => if (P.info? f.type).map (·.size) = some s.length then (match flatFs P g fs (off + s.length) with
        | some r => some (s ++ r)
        | none => none) else none
    | _, _, _ => none
def flatN (P : Program) : Nat → TypeId → Option (List LK)
  | 0, _ => none
  | n + 1, t => match P.underlying t with
    | some (.int _) => some [.int]
    | some .bool => some [.bool]
    | some .string => some [.str]
    | some (.struct fs) => if P.stoodInHeld t then none else flatFs P (flatN P n) fs.toList 0
    | some (.array m e) => match flatN P n e with
      | some s => if (P.info? e).map (·.size) = some s.length then some (List.flatten (List.replicate m s)) else none
      | none => none
    | _ => none

def toVal (P : Program) (t : TypeId) (vs : List Value) : Value :=
  match aggOf P t with
  | some true => .agg vs.toArray
  | _ => vs.getD 0 undef

theorem eqVal_int {x y : Value} {b : Bool} (h : eqVal .int x y = some b) : ∃ k a c, x = .int k a ∧ y = .int k c ∧ b = (a == c) := by
  cases x <;> cases y <;> simp [eqVal] at h
  obtain ⟨rfl, rfl⟩ := h; exact ⟨_, _, _, rfl, rfl, rfl⟩
theorem eqVal_bool {x y : Value} {b : Bool} (h : eqVal .bool x y = some b) : ∃ a c, x = .bool a ∧ y = .bool c ∧ b = (a == c) := by
  cases x <;> cases y <;> simp [eqVal] at h
  exact ⟨_, _, rfl, rfl, h.symm⟩
theorem eqVal_str {x y : Value} {b : Bool} (h : eqVal .str x y = some b) : ∃ a c, x = .string a ∧ y = .string c ∧ b = (a.toList == c.toList) := by
  cases x <;> cases y <;> simp [eqVal] at h
  exact ⟨_, _, rfl, rfl, h.symm⟩

theorem eqVals_len : ∀ (ks : List LK) (a b : List Value) (r : Bool), eqVals ks a b = some r → a.length = ks.length ∧ b.length = ks.length
  | [], [], [], _, _ => ⟨rfl, rfl⟩
  | [], [], _ :: _, _, h => by simp [eqVals] at h
  | [], _ :: _, _, _, h => by simp [eqVals] at h
  | _ :: _, [], _, _, h => by simp [eqVals] at h
  | _ :: _, _ :: _, [], _, h => by simp [eqVals] at h
  | k :: ks, x :: a, y :: b, r, h => by
    simp only [eqVals] at h
    cases h2 : eqVals ks a b with
    | none => cases h1 : eqVal k x y <;> simp [h1, h2, andO] at h
    | some c => obtain ⟨g1, g2⟩ := eqVals_len ks a b c h2; exact ⟨by simp [g1], by simp [g2]⟩

theorem andO_some {x y : Option Bool} {b : Bool} (h : andO x y = some b) : ∃ a c, x = some a ∧ y = some c ∧ b = (a && c) := by
  cases x <;> cases y <;> simp [andO] at h
  exact ⟨_, _, rfl, rfl, h.symm⟩

theorem eqVals_append : ∀ (ks ks' : List LK) (vs us : List Value) (b : Bool), eqVals (ks ++ ks') vs us = some b →
    ∃ b1 b2, eqVals ks (vs.take ks.length) (us.take ks.length) = some b1 ∧ eqVals ks' (vs.drop ks.length) (us.drop ks.length) = some b2 ∧ b = (b1 && b2)
  | [], ks', vs, us, b, h => ⟨true, b, by simp [eqVals], by simpa using h, by simp⟩
  | k :: ks, ks', [], us, b, h => by simp [eqVals] at h
  | k :: ks, ks', _ :: _, [], b, h => by simp [eqVals] at h
  | k :: ks, ks', x :: vs, y :: us, b, h => by
    simp only [List.cons_append, eqVals] at h
    obtain ⟨a, c, h1, h2, rfl⟩ := andO_some h
    obtain ⟨b1, b2, g1, g2, rfl⟩ := eqVals_append ks ks' vs us c h2
    exact ⟨a && b1, b2, by simp [eqVals, h1, g1, andO], by simpa using g2, by simp [Bool.and_assoc]⟩

section
variable {P : Program}

theorem run_part {t off s : Nat} {b : Bool} (ha : aggOf P t = some b) (hs : (P.info? t).map (·.size) = some s) (h1 : b = false → s = 1) {xs : List Value} (hb : off + s ≤ xs.length) (w : World) :
    (part t xs.toArray off).run P w = .ok (toVal P t ((xs.drop off).take s)) w := by
  cases b
  · have := h1 rfl; subst this
    have hlt : off < xs.length := by omega
    simp [part, run_isAgg' ha, toVal, ha, hlt]
  · simp [part, run_isAgg' ha, toVal, ha, run_sz hs]

theorem flatN_agg : ∀ (n : Nat) (t : Nat) (s : List LK), flatN P n t = some s → ∃ b, aggOf P t = some b ∧ (b = false → s.length = 1)
  | 0, t, s, h => by simp [flatN] at h
  | n + 1, t, s, h => by
    unfold flatN at h
    unfold aggOf
    split at h
    · rename_i hu; rw [hu]; simp at h; exact ⟨false, rfl, fun _ => by simp [← h]⟩
    · rename_i hu; rw [hu]; simp at h; exact ⟨false, rfl, fun _ => by simp [← h]⟩
    · rename_i hu; rw [hu]; simp at h; exact ⟨false, rfl, fun _ => by simp [← h]⟩
    · rename_i fs hu; rw [hu]; exact ⟨true, rfl, nofun⟩
    · rename_i m e hu; rw [hu]; exact ⟨true, rfl, nofun⟩
    · cases h

theorem eqVals_one {k : LK} {vs us : List Value} {b : Bool} (h : eqVals [k] vs us = some b) : ∃ x y, vs = [x] ∧ us = [y] ∧ eqVal k x y = some b := by
  obtain ⟨h1, h2⟩ := eqVals_len _ _ _ _ h
  match vs, us, h1, h2 with
  | [x], [y], _, _ =>
    refine ⟨x, y, rfl, rfl, ?_⟩
    simp only [eqVals] at h
    cases hx : eqVal k x y with
    | none => simp [hx, andO] at h
    | some c => simpa [hx, andO] using h

/-- '==' of the elements from place 'i' on. -/
theorem eqItems_eq {k e : Nat} {s : List LK} {vs us : List Value} (hinfo : (P.info? e).map (·.size) = some s.length) {ag : Bool} (ha : aggOf P e = some ag) (h1 : ag = false → s.length = 1)
    (ih : ∀ (vs us : List Value) (b : Bool) (w : World), eqVals s vs us = some b → (Op.equalIn k e (toVal P e vs) (toVal P e us)).run P w = .ok b w) :
    ∀ (m i : Nat) (b : Bool) (w : World), eqVals (List.flatten (List.replicate m s)) (vs.drop (i * s.length)) (us.drop (i * s.length)) = some b →
      (Op.eqItems k e (P.cellsOf e) vs.toArray us.toArray (List.range' i m)).run P w = .ok b w
  | 0, i, b, w, h => by
    simp only [List.replicate_zero, List.flatten_nil] at h
    have := eqVals_len _ _ _ _ h
    cases hv : vs.drop (i * s.length) <;> cases hu : us.drop (i * s.length) <;> rw [hv, hu] at h <;> simp [eqVals] at h
    subst h; simp [Op.eqItems]
  | m + 1, i, b, w, h => by
    rw [List.replicate_succ, List.flatten_cons] at h
    obtain ⟨b1, b2, g1, g2, rfl⟩ := eqVals_append _ _ _ _ _ h
    have hlen := eqVals_len _ _ _ _ h
    simp only [List.length_append, List.length_drop] at hlen
    have hc : P.cellsOf e = s.length := by unfold Program.cellsOf; rw [hinfo]; rfl
    have hv : i * s.length + s.length ≤ vs.length := by
      by_cases h0 : s.length = 0
      · have hag : ag = true := by cases ag; exact absurd (h1 rfl) (by omega); rfl
        rw [h0] at hlen ⊢; simp
      · omega
    have hu : i * s.length + s.length ≤ us.length := by
      by_cases h0 : s.length = 0
      · rw [h0] at hlen ⊢; simp
      · omega
    simp only [List.range'_succ, Op.eqItems, Sem.run_bind, hc, run_part ha hinfo h1 hv, run_part ha hinfo h1 hu, Result.andThen_ok, ih _ _ b1 w g1]
    cases b1
    · simp
    · have := eqItems_eq hinfo ha h1 ih m (i + 1) b2 w (by simpa [Nat.add_mul, List.drop_drop] using g2)
      rw [hc] at this
      simpa using this

theorem flatFs_eq {g : TypeId → Option (List LK)} {k : Nat} (hg : ∀ (t : Nat) (s : List LK), g t = some s → ∃ b, aggOf P t = some b ∧ (b = false → s.length = 1))
    (ih : ∀ (t : Nat) (s : List LK), g t = some s → ∀ (vs us : List Value) (b : Bool) (w : World), eqVals s vs us = some b → (Op.equalIn k t (toVal P t vs) (toVal P t us)).run P w = .ok b w) :
    ∀ (fs : List Field) (off : Nat) (s : List LK), flatFs P g fs off = some s → ∀ (vs us : List Value) (b : Bool) (w : World),
    eqVals s (vs.drop off) (us.drop off) = some b → (Op.eqFields k vs.toArray us.toArray fs).run P w = .ok b w
  | [], off, s, h, vs, us, b, w, he => by
    simp [flatFs] at h; subst h
    cases hv : vs.drop off <;> cases hu : us.drop off <;> rw [hv, hu] at he <;> simp [eqVals] at he
    subst he
    simp [Op.eqFields]
  | f :: fs, off, s, h, vs, us, b, w, he => by
    simp only [flatFs] at h
    split at h
    · rename_i s1 h1 h2 h3
      split at h
      · rename_i h4
        split at h
        · rename_i s2 h6
          simp at h; subst h
          obtain ⟨ag, ha, h5⟩ := hg f.type s1 h3
          obtain ⟨b1, b2, g1, g2, rfl⟩ := eqVals_append _ _ _ _ _ he
          have hlen := eqVals_len _ _ _ _ he
          simp only [List.length_append, List.length_drop] at hlen
          have hoff : f.offset = off := by simpa using h2
          simp only [Op.eqFields]
          have hname : f.name ≠ "_" := by simpa using h1
          rw [if_pos hname]
          by_cases h0 : s1.length = 0
          · have hag : ag = true := by cases ag; exact absurd (h5 rfl) (by omega); rfl
            subst hag
            have hz : s1 = [] := List.eq_nil_of_length_eq_zero h0
            subst hz
            simp [eqVals] at g1; subst g1
            have hp : ∀ (l : List Value), (part f.type l.toArray f.offset).run P w = .ok (.agg #[]) w := by
              intro l
              simp [part, run_isAgg' ha, run_sz h4]
            have hih := ih f.type [] h3 [] [] true w (by simp [eqVals])
            simp only [toVal, ha] at hih
            simp only [Sem.run_bind, hp, Result.andThen_ok, hih]
            have := flatFs_eq hg ih fs (off + 0) s2 h6 vs us b2 w (by simpa using g2)
            simpa using this
          · have hv : off + s1.length ≤ vs.length := by omega
            have hu : off + s1.length ≤ us.length := by omega
            simp only [Sem.run_bind, hoff, run_part ha h4 h5 hv, run_part ha h4 h5 hu, Result.andThen_ok, ih f.type s1 h3 _ _ b1 w g1]
            cases b1
            · simp
            · have := flatFs_eq hg ih fs (off + s1.length) s2 h6 vs us b2 w (by simpa [List.drop_drop] using g2)
              simpa using this
        · cases h
      · cases h
    · cases h
theorem flatN_eq : ∀ (n t : Nat) (s : List LK), flatN P n t = some s → ∀ (k : Nat) (vs us : List Value) (b : Bool) (w : World), n ≤ k → eqVals s vs us = some b →
    (Op.equalIn k t (toVal P t vs) (toVal P t us)).run P w = .ok b w
  | 0, t, s, h, _, _, _, _, _, _, _ => by simp [flatN] at h
  | n + 1, t, s, h, 0, _, _, _, _, hk, _ => by omega
  | n + 1, t, s, h, k + 1, vs, us, b, w, hk, he => by
    unfold flatN at h
    split at h
    · rename_i k' hu
      simp at h; subst h
      obtain ⟨x, y, rfl, rfl, hxy⟩ := eqVals_one he
      have ha : aggOf P t = some false := by unfold aggOf; rw [hu]
      simp only [toVal, ha, List.getD_cons_zero]
      obtain ⟨q, c, d, rfl, rfl, rfl⟩ := eqVal_int hxy
      exact run_equalIn_int w k t q k' c d hu
    · rename_i hu
      simp at h; subst h
      obtain ⟨x, y, rfl, rfl, hxy⟩ := eqVals_one he
      have ha : aggOf P t = some false := by unfold aggOf; rw [hu]
      simp only [toVal, ha, List.getD_cons_zero]
      obtain ⟨c, d, rfl, rfl, rfl⟩ := eqVal_bool hxy
      exact run_equalIn_bool' w k t c d hu
    · rename_i hu
      simp at h; subst h
      obtain ⟨x, y, rfl, rfl, hxy⟩ := eqVals_one he
      have ha : aggOf P t = some false := by unfold aggOf; rw [hu]
      simp only [toVal, ha, List.getD_cons_zero]
      obtain ⟨c, d, rfl, rfl, rfl⟩ := eqVal_str hxy
      exact run_equalIn_string w k t c d hu
    · rename_i fs hu
      split at h
      · cases h
      · rename_i hp
        have ha : aggOf P t = some true := by unfold aggOf; rw [hu]
        have hf : P.fieldsOf t = fs := by unfold Program.fieldsOf; rw [hu]
        simp only [toVal, ha]
        rw [run_equalIn_struct w k t _ _ (by rw [hf]; exact hu) (by simpa using hp), hf]
        exact flatFs_eq (flatN_agg n) (fun t s h vs us b w he => flatN_eq n t s h k vs us b w (by omega) he) fs.toList 0 s h vs us b w (by simpa using he)
    · rename_i m e hu
      split at h
      · rename_i s1 hs1
        split at h
        · rename_i hi
          simp at h; subst h
          have ha : aggOf P t = some true := by unfold aggOf; rw [hu]
          obtain ⟨ag, hae, h1⟩ := flatN_agg n e s1 hs1
          cases hie : P.info? e with
          | none => rw [hie] at hi; cases hi
          | some inf =>
            simp only [toVal, ha]
            rw [run_equalIn_array w k _ _ hu hie, List.range_eq_range']
            exact eqItems_eq hi hae h1 (fun vs us b w h => flatN_eq n e s1 hs1 k vs us b w (by omega) h) m 0 b w (by simpa using he)
        · cases h
      · cases h
    · cases h

/-! ### the whole table -/

def litEq : Value → Value → Bool
  | .float k b, .float k' b' => decide (k = k') && b == b'
  | .complex k a b, .complex k' a' b' => decide (k = k') && a == a' && b == b'
  | .pointer none, .pointer none | .nilFunc, .nilFunc | .nilIface, .nilIface | .map none, .map none | .chan none, .chan none => true
  | _, _ => false

theorem litEq_spec {a b : Value} (h : litEq a b = true) : a = b ∧ scal a = true := by
  unfold litEq at h
  split at h <;> simp_all [scal]

def zOK : IV → Value → Bool
  | .int k n, .int k' n' => decide (k = k') && decide (n = n')
  | .bool a, .bool b => a == b
  | .str s, .string s' => s.data == s'.data
  | .nilS, .slice none 0 0 => true
  | .lit v, v' => litEq v v'
  | _, _ => false

theorem zOK_spec {x : IV} {v : Value} (h : zOK x v = true) (I : Imm) : D I x v ∧ v.oneCell' = true := by
  unfold zOK at h
  split at h
  · simp at h; obtain ⟨rfl, rfl⟩ := h; exact ⟨.int _ _, rfl⟩
  · simp at h; subst h; exact ⟨.bool _, rfl⟩
  · rename_i s s'
    have : s = s' := by
      obtain ⟨a⟩ := s; obtain ⟨b⟩ := s'
      simp at h; rw [h]
    subst this; exact ⟨.str _, rfl⟩
  · exact ⟨.nilS, rfl⟩
  · obtain ⟨rfl, hs⟩ := litEq_spec h
    exact ⟨.lit _ hs, by rename_i v v'; unfold scal at hs; split at hs <;> first | rfl | cases hs⟩
  · cases h

def zAll : List IV → List Value → Bool
  | [], [] => true
  | x :: xs, v :: vs => zOK x v && zAll xs vs
  | _, _ => false

theorem zAll_spec : ∀ {xs : List IV} {vs : List Value}, zAll xs vs = true → xs.length = vs.length ∧ (∀ (j : Nat) u, vs[j]? = some u → u.oneCell' = true) ∧
    ∀ (I : Imm) (j : Nat) x, xs[j]? = some x → D I x (vs.getD j undef)
  | [], [], _ => ⟨rfl, fun j u h => by simp at h, fun I j x h => by simp at h⟩
  | [], _ :: _, h => by simp [zAll] at h
  | _ :: _, [], h => by simp [zAll] at h
  | x :: xs, v :: vs, h => by
    simp [zAll] at h
    obtain ⟨g1, g2, g3⟩ := zAll_spec h.2
    refine ⟨by simp [g1], fun j u hu => ?_, fun I j y hy => ?_⟩
    · cases j with
      | zero => simp at hu; subst hu; exact (zOK_spec h.1 (fun _ => none)).2
      | succ j => exact g2 j u (by simpa using hu)
    · cases j with
      | zero => simp at hy; subst hy; simpa using (zOK_spec h.1 I).1
      | succ j => simpa using g3 I j y (by simpa using hy)

def fieldsOK (P : Program) : List (Nat × Nat × Bool) → List Field → Bool
  | [], [] => true
  | (off, sz, ag) :: r, f :: fs => f.offset == off && (P.info? f.type).map (·.size) == some sz && decide (0 < sz) && aggOf P f.type == some ag && (ag || sz == 1) && fieldsOK P r fs
  | _, _ => false

theorem fieldsOK_spec : ∀ {l : List (Nat × Nat × Bool)} {fs : List Field}, fieldsOK P l fs = true → fs.length = l.length ∧ ∀ (i : Nat) off sz ag, l[i]? = some (off, sz, ag) →
    ∃ f, fs[i]? = some f ∧ f.offset = off ∧ (P.info? f.type).map (·.size) = some sz ∧ 0 < sz ∧ aggOf P f.type = some ag ∧ (ag = false → sz = 1)
  | [], [], _ => ⟨rfl, fun i off sz ag h => by simp at h⟩
  | [], _ :: _, h => by simp [fieldsOK] at h
  | _ :: _, [], h => by simp [fieldsOK] at h
  | (off, sz, ag) :: r, f :: fs, h => by
    simp only [fieldsOK, Bool.and_eq_true] at h
    obtain ⟨⟨⟨⟨⟨h1, h2⟩, h3⟩, h4⟩, h5⟩, h6⟩ := h
    obtain ⟨g1, g2⟩ := fieldsOK_spec h6
    refine ⟨by simp [g1], fun i off' sz' ag' hi => ?_⟩
    cases i with
    | zero =>
      simp at hi
      obtain ⟨rfl, rfl, rfl⟩ := hi
      refine ⟨f, by simp, by simpa using h1, by simpa using h2, by simpa using h3, by simpa using h4, fun e => ?_⟩
      subst e; simpa using h5
    | succ i => simpa using g2 i off' sz' ag' (by simpa using hi)

def lkEq : List LK → List LK → Bool
  | [], [] => true
  | .int :: a, .int :: b | .bool :: a, .bool :: b | .str :: a, .str :: b => lkEq a b
  | _, _ => false
theorem lkEq_spec : ∀ {a b : List LK}, lkEq a b = true → a = b
  | [], [], _ => rfl
  | .int :: a, .int :: b, h => by rw [lkEq_spec (show lkEq a b = true from h)]
  | .bool :: a, .bool :: b, h => by rw [lkEq_spec (show lkEq a b = true from h)]
  | .str :: a, .str :: b, h => by rw [lkEq_spec (show lkEq a b = true from h)]
  | [], _ :: _, h => by cases h
  | k :: _, [], h => by cases k <;> cases h
  | .int :: _, .bool :: _, h | .int :: _, .str :: _, h | .bool :: _, .int :: _, h | .bool :: _, .str :: _, h | .str :: _, .int :: _, h | .str :: _, .bool :: _, h => by cases h

def eqOKb (P : Program) (t : Nat) (ks : List LK) : Bool :=
  match ks with
  | [] => true
  | _ => aggOf P t == some true && !P.eqGuardType P.depth t && (match flatN P 20 t with | some s => lkEq s ks | none => false)

theorem eqOKb_spec {t : Nat} {ks : List LK} (h : eqOKb P t ks = true) (hne : ks ≠ []) : EqOK P t ks := by
  unfold eqOKb at h
  split at h
  · exact absurd rfl hne
  · simp only [Bool.and_eq_true] at h
    obtain ⟨⟨h1, h2⟩, h3⟩ := h
    split at h3
    · rename_i s hs
      have := lkEq_spec h3; subst this
      intro op ox oy vs us b w he
      refine ⟨run_eqGuard_agg w op t ox oy vs us (by simpa using h2), ?_⟩
      have := flatN_eq 20 t s hs 10000 vs.toList us.toList b w (by omega) he
      have ha : aggOf P t = some true := by simpa using h1
      simp only [toVal, ha] at this
      exact this
    · cases h3

def kindOK (P : Program) (T : Nat → Ty) (d : TypeDesc) : TK → Bool
  | .other => true
  | .struct fs => match d with | .struct fields => fieldsOK P fs fields.toList | _ => false
  | .array n e => match d with | .array n' e' => n == n' && e == e' && (T e).size != 0 | _ => false
  | .slice e => match d with | .slice e' => e == e' && (T e).size != 0 | _ => false
  | .str => match d with | .string => true | _ => false

def isInt (d : TypeDesc) (z : List IV) : Bool := match z with
  | [.int k _] => (match d with | .int k' => decide (k = k') | _ => false)
  | [.bool _] => (match d with | .bool => true | _ => false)
  | _ => true

def tokB (P : Program) (T : Nat → Ty) (t : Nat) : Bool :=
  match P.info? t, P.underlying t with
  | some inf, some d => match inf.zero with
    | some z => inf.size == (T t).size && decide (0 < (T t).size) && decide (inf.bytes ≤ 131072) && aggOf P t == some (T t).agg && z.cells.size == (T t).size &&
        zAll (T t).zero z.cells.toList && kindOK P T d (T t).k && ((T t).agg || (T t).size == 1) && eqOKb P t (T t).eq && (match (T t).k with | .other => isInt d (T t).zero | _ => true)
    | none => false
  | _, _ => false

theorem tokB_spec {T : Nat → Ty} {t : Nat} (h : tokB P T t = true) : ∃ inf d z, TOK1 P T t inf d z := by
  unfold tokB at h
  split at h
  · rename_i inf d hi hd
    split at h
    · rename_i z hz
      simp only [Bool.and_eq_true] at h
      obtain ⟨⟨⟨⟨⟨⟨⟨⟨⟨h1, h2⟩, h3⟩, h4⟩, h5⟩, h6⟩, h7⟩, h8⟩, h9⟩, h10⟩ := h
      obtain ⟨g1, g2, g3⟩ := zAll_spec h6
      refine ⟨inf, d, z, hi, hd, by simpa using h1, by simpa using h2, by simpa using h3, by simpa using h4, hz, by simpa using h5, ?_, fun j u hu => g2 j u (by simpa using hu), fun I j x hx => ?_, ?_, fun e => ?_, fun hne => eqOKb_spec h9 hne, fun hk b hb => ?_, fun hk k m hb => ?_⟩
      · rw [g1]; simpa using h5
      · have := g3 I j x hx
        simpa [Array.getD_eq_getD_getElem?] using this
      · unfold kindOK at h7
        split at h7
        · rename_i hk; rw [hk]; trivial
        · rename_i fs hk
          rw [hk]
          split at h7
          · rename_i fields
            obtain ⟨e1, e2⟩ := fieldsOK_spec h7
            exact ⟨fields, rfl, by simpa using e1, fun i off sz ag hx => by
              obtain ⟨f, f1, f2⟩ := e2 i off sz ag hx
              exact ⟨f, by simpa using f1, f2⟩⟩
          · cases h7
        · rename_i n e hk
          rw [hk]
          split at h7
          · simp only [Bool.and_eq_true] at h7
            obtain ⟨⟨a1, a2⟩, a3⟩ := h7
            simp at a1 a2 a3; subst a1 a2
            exact ⟨rfl, a3⟩
          · cases h7
        · rename_i e hk
          rw [hk]
          split at h7
          · simp only [Bool.and_eq_true] at h7
            obtain ⟨a2, a3⟩ := h7
            simp at a2 a3; subst a2
            exact ⟨rfl, a3⟩
          · cases h7
        · rename_i hk
          rw [hk]
          split at h7
          · rfl
          · cases h7
      · rw [e] at h8; simpa using h8
      · rw [hk] at h10
        simp only [hb, isInt] at h10
        split at h10 <;> first | rfl | cases h10
      · rw [hk] at h10
        simp only [hb, isInt] at h10
        split at h10
        · simp at h10; rw [h10]
        · cases h10
    · cases h
  · cases h

def tyNone : Ty → Bool
  | ⟨0, 0, false, [], [], .other⟩ => true
  | _ => false

theorem tyNone_spec {x : Ty} (h : tyNone x = true) : x = Ty.none := by
  unfold tyNone at h
  split at h
  · rfl
  · cases h

/-- The table, by numbers below 'n'. -/
theorem tok_of {T : Nat → Ty} (n : Nat) (h : (List.range n).all (fun t => tokB P T t || tyNone (T t)) = true) (hT : ∀ t, Nat.blt t n = false → T t = Ty.none) : TOK P T := by
  intro t
  cases hb : Nat.blt t n with
  | false => exact .inl (hT t hb)
  | true =>
    rw [List.all_eq_true] at h
    have := h t (by simpa using blt_lt hb)
    simp only [Bool.or_eq_true] at this
    rcases this with h | h
    · exact .inr (tokB_spec h)
    · exact .inl (tyNone_spec h)

end
end Go.Proofs.YtllmejkmogepjaaGreatDoor.Ix
