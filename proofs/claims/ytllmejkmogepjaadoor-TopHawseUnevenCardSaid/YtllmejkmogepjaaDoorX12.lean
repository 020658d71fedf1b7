/-
  Ix12: calls.
-/
import Derived.Test.YtllmejkmogepjaaDoorX29
namespace Go.Proofs.YtllmejkmogepjaaDoor.Ix
set_option linter.unusedVariables false

section
/-! ### A value told as another one -/

mutual
theorem leV_sound {I : Imm} {β : Beta} {s : Sig} : ∀ (x y : IV) (v : Value), leV x y → V I β s x v → V I β s y v := by
  intro x y v h hv
  cases y with
  | dead => exact .data (.dead v)
  | lst o' e' n' f' =>
    cases x with
    | nilS =>
      simp only [leV] at h; subst h
      obtain ⟨px, rfl⟩ := hv.nilS_inv
      cases o' with
      | none => exact .data (.lstN _ _)
      | some t => exact .ownN _ _ _
    | lst o e n f =>
      simp only [leV] at h
      obtain ⟨ho, rfl, rfl, hf⟩ := h
      rcases hv.lst_inv with ⟨px, rfl, rfl⟩ | ⟨b, off, c, g, rfl, hnc, hown, hl, hI, hone, hD⟩
      · cases o' with
        | none => exact .data (.lstN _ _)
        | some t => exact .ownN _ _ _
      · rcases ho with rfl | rfl
        · exact .data (.lst e n f' b off c g hnc (fun i hi => by rw [← hf i hi]; exact hl i hi) hI hone (fun i j x hi hx => hD i j x hi (by rw [hf i hi]; exact hx)))
        · cases o' with
          | none => exact .data (.lst e n f' b off c g hnc (fun i hi => by rw [← hf i hi]; exact hl i hi) hI hone (fun i j x hi hx => hD i j x hi (by rw [hf i hi]; exact hx)))
          | some t =>
            obtain ⟨rfl, el, ht⟩ := hown t rfl
            exact .own t e n f' b el c g ht hnc (fun i hi => by rw [← hf i hi]; exact hl i hi) (fun i j hi hj => by simpa using hI i j hi hj) hone (fun i j x hi hx => hD i j x hi (by rw [hf i hi]; exact hx))
    | _ => simp only [leV] at h; first | cases h | (subst h; exact hv)
  | agg ys =>
    cases x with
    | agg xs =>
      simp only [leV] at h
      obtain ⟨vs, rfl, hl, h1, hV⟩ := hv.agg_inv
      obtain ⟨g1, g2⟩ := leL_sound xs ys h (fun j => vs.getD j undef) hV
      exact .agg ys vs (by rw [← g1, hl]) h1 g2
    | _ => simp only [leV] at h; cases h
  | tup ys =>
    cases x with
    | tup xs =>
      simp only [leV] at h
      obtain ⟨vs, rfl, hl, hV⟩ := hv.tup_inv
      obtain ⟨g1, g2⟩ := leL_sound xs ys h (fun j => vs.getD j undef) hV
      exact .tup ys vs (by rw [← g1, hl]) g2
    | _ => simp only [leV] at h; cases h
  | _ =>
    cases x <;> simp only [leV] at h <;> first | cases h | (exact h ▸ hv)
    all_goals exact hv
theorem leL_sound {I : Imm} {β : Beta} {s : Sig} : ∀ (xs ys : List IV), leL xs ys → ∀ (f : Nat → Value), (∀ (j : Nat) x, xs[j]? = some x → V I β s x (f j)) →
    xs.length = ys.length ∧ ∀ (j : Nat) y, ys[j]? = some y → V I β s y (f j)
  | [], [], _, f, _ => ⟨rfl, fun j y h => by simp at h⟩
  | x :: xs, y :: ys, h, f, hx => by
    simp only [leL] at h
    obtain ⟨g1, g2⟩ := leL_sound xs ys h.2 (fun j => f (j + 1)) (fun j z hz => hx (j + 1) z (by simpa using hz))
    refine ⟨by simp [g1], fun j z hz => ?_⟩
    cases j with
    | zero => simp at hz; subst hz; exact leV_sound x y _ h.1 (hx 0 x (by simp))
    | succ j => exact g2 j z (by simpa using hz)
  | [], _ :: _, h, _, _ => by simp [leL] at h
  | _ :: _, [], h, _, _ => by simp [leL] at h
end

end

section
variable {Γ : Env} {S : St} {a : Act} {w : World} {I : Imm} {X : Nat → Prop} {β : Beta} {σ : Nat → Sig} {K : St → Prop}

/-- What is known of the calls; and this is no iterator. -/
def HC (C : Con) (Γ : Env) : Prop := (∀ g up args r up', C g up args r up' → Comp Γ.P Γ.gl g up args r up') ∧ Γ.yld = none ∧ Γ.ds = none

theorem back_sound {s : Sig} {r r' : IV} {v : Value} {d : Option Nat} (h : back d r = some r') (hv : V I (under β) s r v) (s' : Sig) (hd : ∀ t, d = some t → ∀ u g, s u = some g → (∃ e n f, r = .lst (some u) e n f ∨ ∃ q, r = .tup (.lst (some u) e n f :: q)) → s' t = some g) : V I β s' r' v := by
  unfold back at h
  split at h
  · rename_i t e n f
    simp at h; subst h
    cases hv with
    | data h => cases h
    | ownN t e f =>
      cases d with
      | none => exact .data (.lstN e f)
      | some d => exact .ownN d e f
    | own t e n f b el c g ht hc hl hi h1 h =>
      cases d with
      | none => exact .data (.lst e n f b 0 c g hc hl (fun i j a b => by simpa using hi i j a b) h1 h)
      | some d => exact .own d e n f b el c g (hd d rfl t _ ht ⟨_, _, _, .inl rfl⟩) hc hl hi h1 h
  · rename_i t e n f q
    split at h
    · rename_i y hy
      obtain ⟨e1, e2⟩ := unshiftL_spec _ _ hy
      simp at h; subst h
      obtain ⟨vs, rfl, hl, hV⟩ := hv.tup_inv
      refine .tup _ vs (by simp at hl ⊢; omega) fun j x hx => ?_
      cases j with
      | zero =>
        simp at hx; subst hx
        have h0 := hV 0 (.lst (some t) e n f) (by simp)
        generalize vs.getD 0 undef = u at h0
        cases h0 with
        | data h => cases h
        | ownN t e f =>
          cases d with
          | none => exact .data (.lstN e f)
          | some d => exact .ownN d e f
        | own t e n f b el c g ht hc hl hi h1 h =>
          cases d with
          | none => exact .data (.lst e n f b 0 c g hc hl (fun i j a b => by simpa using hi i j a b) h1 h)
          | some d => exact .own d e n f b el c g (hd d rfl t _ ht ⟨_, _, _, .inr ⟨_, rfl⟩⟩) hc hl hi h1 h
      | succ j =>
        obtain ⟨z, hz, hu⟩ := e2 j x (by simpa using hx)
        exact (hV (j + 1) z (by simpa using hz)).unshift x hu
    · cases h
  · exact hv.unshift r' h

theorem MemR.sub {gl : Nat → IV} {cs : List Ces} {Y : Nat → Prop} (m : MemR gl cs w I Y β σ) (h : ∀ b, X b → Y b) : MemR gl cs w I X β σ :=
  ⟨fun l d c hc => by obtain ⟨b, arr, el, h1, h2, h3, h4, h5, h6, h7⟩ := m.cell l d c hc; exact ⟨b, arr, el, h1, h2, h3, h4, h5, h6, fun hx => h7 (h b hx)⟩,
    m.inj, m.keys, m.im, m.glo, fun b hb => m.xb b (h b hb)⟩

/-- The others' blocks, as a called function has to leave them: its caller's rows among them. -/
def fence (X : Nat → Prop) (s : Sig) : Nat → Prop := fun b => X b ∨ ∃ t g, s t = some g ∧ g.b = b

theorem call_sound {C : Con} (hC : ∀ g up args r up', C g up args r up' → Comp Γ.P Γ.gl g up args r up') (o : Oper) (c : Call) (x : Operand) (ho : o.op = .call c) (hc : c.callee = .value x)
    {g : Nat} {first captured : List IV} (hx : evo Γ S x = .fn g first captured)
    (h : CALL C g S (shiftL (first ++ evoL Γ S c.args.toList ++ captured)) o.dst fun r S' => untagO o.dst S' fun S' => fv r fun r => putT Γ S' o.dst r K)
    (r : Rel Γ S a w I X β σ) (Q : Exit → Act → World → Prop) : o.wp Γ.P a w (Aft Γ K I X w β σ) Q := by
  obtain ⟨args', rv, r', ce, up, hle, hcon, hback, hk⟩ := h
  obtain ⟨⟨fn, code, hf, hbody, hname⟩, hcomp⟩ := hC _ _ _ _ _ hcon
  have hvx := evo_V r x
  rw [hx] at hvx
  obtain ⟨vs, us, hval, hl1, hl2, hV1, hV2⟩ := hvx.fn_inv
  have hmem' : MemR Γ.gl (S.ce :: S.up) w I (fence X (σ 0)) β σ := by
    refine ⟨fun l d c hc => ?_, r.mem.inj, r.mem.keys, r.mem.im, r.mem.glo, fun b hb => ?_⟩
    · obtain ⟨b, arr, el, h1, h2, h3, h4, h5, h6, h7⟩ := r.mem.cell l d c hc
      refine ⟨b, arr, el, h1, h2, h3, h4, h5, h6, fun hx => ?_⟩
      rcases hx with hx | ⟨t, g, hg, hb⟩
      · exact h7 hx
      · obtain ⟨cur, _, _, _, _, _, _, k7⟩ := r.own.row t g hg
        exact k7 l d (hb ▸ h1)
    · rcases hb with hb | ⟨t, g, hg, rfl⟩
      · exact r.mem.xb b hb
      · obtain ⟨cur, k1, _⟩ := r.own.row t g hg
        exact heap_lt k1
  have hrun : (execOp a.eval o).run Γ.P w = .ok (.enter g (vs ++ c.args.map a.eval ++ us)) w := by
    simp only [execOp, ho, resolve, hc, hval, Deferred.ofValue, Sem.run_bind, Sem.run_pure, Result.andThen_ok, invoke, callFunc, run_program, hf, hname, hbody, Option.isNone]
    rfl
  have hargs : ∀ (j : Nat) y, (shiftL (first ++ evoL Γ S c.args.toList ++ captured))[j]? = some y → V I (under β) noSig y ((vs ++ c.args.map a.eval ++ us).getD j undef) := by
    intro j y hy
    rw [shiftL_eq] at hy
    obtain ⟨z, hz, rfl⟩ := map_get hy
    refine V.shift (σ := σ 0) ?_
    rw [evoL_eq] at hz
    by_cases h1 : j < first.length
    · rw [List.append_assoc, List.getElem?_append_left h1] at hz
      have := hV1 j z hz
      have hj : j < vs.size := by omega
      rw [Array.getD_eq_getD_getElem?] at this ⊢
      rw [Array.append_assoc, Array.getElem?_append_left hj]; exact this
    · by_cases h2 : j < first.length + c.args.toList.length
      · rw [List.getElem?_append_left (by simp; simpa using h2), List.getElem?_append_right (by omega)] at hz
        simp only [List.getElem?_map, Option.map_eq_some_iff] at hz
        obtain ⟨q, hq, rfl⟩ := hz
        have := evo_V r q
        rw [Array.getD_eq_getD_getElem?, Array.getElem?_append_left (by simp at h2 ⊢; omega), Array.getElem?_append_right (by omega)]
        rw [hl1] at hq
        simp only [Array.getElem?_toList] at hq
        simpa [hq] using this
      · rw [List.getElem?_append_right (by simp; simp at h2; omega)] at hz
        have := hV2 _ z hz
        rw [Array.getD_eq_getD_getElem?] at this ⊢
        rw [Array.getElem?_append_right (by simp at h2 ⊢; omega)]
        simp only [List.length_append, List.length_map, Array.length_toList] at this
        simp only [Array.size_append, Array.size_map, ← hl1]
        exact this
  obtain ⟨hle1, hle2⟩ := leL_sound _ _ hle (fun j => (vs ++ c.args.map a.eval ++ us).getD j undef) hargs
  have hcalls := hcomp (vs ++ c.args.map a.eval ++ us) w I (fence X (σ 0)) β σ hmem' (by rw [← hle1]; simp [shiftL_eq, evoL_eq]; omega) hle2
  unfold Oper.wp
  rw [hrun]
  simp only [Oper.upon_enter]
  refine hcalls.mono fun e w' ⟨v, I', s, he, hv, hown, hmem2, hext⟩ => ?_
  subst he
  simp only
  -- the state behind the call
  have r1 : Rel Γ ⟨S.tm, ce, up⟩ a w' I' X β σ := by
    refine ⟨fun i => (r.tm i).mono hext.imm (fun _ _ _ h => h) (fun _ _ h => h), r.df.to hext.fix (fun _ _ h => h), r.nt, hmem2.sub (fun b hb => .inl hb), ⟨fun t g hg => ?_, r.own.inj⟩⟩
    obtain ⟨cur, k1, k2, k3, k4, k5, k6, k7⟩ := r.own.row t g hg
    refine ⟨cur, by rw [hext.keep g.b (.inr ⟨t, g, hg, rfl⟩)]; exact k1, k2, k3, k4, fun j hj => ?_, k6, k7⟩
    rw [hext.new ⟨g.b, j, none⟩ (.inr ⟨t, g, hg, rfl⟩)]; exact k5 j hj
  have hext' : Ext I X w I' w' := hext.sub (fun b hb => .inl hb)
  cases hd : o.dst with
  | none =>
    rw [hd] at hk hback
    simp only [untagO, fv_eq] at hk
    have hv' : V I' β (σ 0) r' v := back_sound hback hv _ (fun t ht => by cases ht)
    obtain ⟨S', hk', r2⟩ := putT_sound hk r1 hv'
    exact ⟨S', I', β, σ, hk', r2, hext', .refl _ _⟩
  | some d =>
    rw [hd] at hk hback
    simp only [untagO, fv_eq] at hk
    obtain ⟨S2, hk2, r2, _, _⟩ := untag_sound hk r1
    -- the tag of what is handed back
    by_cases hown' : ∃ u g, s u = some g ∧ ∃ e n f, rv = .lst (some u) e n f ∨ ∃ q, rv = .tup (.lst (some u) e n f :: q)
    · obtain ⟨u, g, hg, hshape⟩ := hown'
      obtain ⟨cur, k1, k2, k3, k4, k5, k6, k7⟩ := hown.row u g hg
      have huniq : ∀ u' g', s u' = some g' → (∃ e n f, rv = .lst (some u') e n f ∨ ∃ q, rv = .tup (.lst (some u') e n f :: q)) → g' = g := by
        intro u' g' hg' hsh
        obtain ⟨e, n, f, hs⟩ := hshape
        obtain ⟨e', n', f', hs'⟩ := hsh
        have : u' = u := by
          rcases hs with hs | ⟨q, hs⟩ <;> rcases hs' with hs' | ⟨q', hs'⟩ <;> rw [hs] at hs' <;> simp at hs'
          · exact hs'.1.symm
          · exact hs'.1.1.symm
        subst this
        rw [hg] at hg'; cases hg'; rfl
      let s2 : Sig := fun t => if t = d then some g else (setSig σ fun u => if u = d then none else σ 0 u) 0 t
      have hle : ∀ t g0, (setSig σ fun u => if u = d then none else σ 0 u) 0 t = some g0 → s2 t = some g0 := by
        intro t g0 h
        show (if _ then _ else _) = _
        rw [if_neg]; exact h
        rintro rfl; simp [setSig] at h
      have r3 : Rel Γ S2 a w' I' X β (setSig σ s2) := by
        refine ⟨fun i => (r2.tm i).mono (fun _ _ h => h) (fun _ _ _ h => h) hle, r2.df, r2.nt, ⟨fun l d' c hc => ?_, r2.mem.inj, r2.mem.keys, r2.mem.im, r2.mem.glo, r2.mem.xb⟩, ⟨fun t g0 h => ?_, fun t t' g0 g1 h h' hb => ?_⟩⟩
        · obtain ⟨b, arr, el, h1, h2, h3, h4, h5, h6⟩ := r2.mem.cell l d' c hc
          refine ⟨b, arr, el, h1, h2, h3, h4, fun j y hy => (h5 j y hy).mono (fun _ _ h => h) (fun _ _ _ h => h) (fun t g0 h => ?_), h6⟩
          cases l with
          | zero => exact hle t g0 h
          | succ l => exact h
        · have h : (if t = d then some g else _) = some g0 := h
          split at h
          · simp at h; subst h
            exact ⟨cur, k1, k2, k3, k4, k5, fun hx => k6 (.inl hx), fun l d' hb => k7 (l + 1) d' hb⟩
          · exact r2.own.row t g0 h
        · have h : (if t = d then some g else _) = some g0 := h
          have h' : (if t' = d then some g else _) = some g1 := h'
          have hne : ∀ t g0, (setSig σ fun u => if u = d then none else σ 0 u) 0 t = some g0 → g0.b ≠ g.b := by
            intro t g0 h hb
            simp only [setSig] at h
            split at h
            · cases h
            · exact k6 (.inr ⟨t, g0, h, hb⟩)
          split at h <;> split at h'
          · subst_vars; rfl
          · simp at h; subst h; exact absurd hb.symm (hne t' g1 h')
          · simp at h'; subst h'; exact absurd hb (hne t g0 h)
          · exact r2.own.inj t t' g0 g1 h h' hb
      have hv' : V I' β (setSig σ s2 0) r' v := back_sound hback hv _ (fun t ht u' g' hg' hsh => by
        simp at ht; subst ht
        rw [huniq u' g' hg' hsh]
        show (if _ then _ else _) = _
        simp)
      obtain ⟨S', hk', r4⟩ := putT_sound hk2 r3 hv'
      exact ⟨S', I', β, setSig σ s2, hk', r4, hext', .setSig β σ _⟩
    · have hv' : V I' β (setSig σ (fun u => if u = d then none else σ 0 u) 0) r' v := back_sound hback hv _ (fun t ht u g hg hsh => absurd ⟨u, g, hg, hsh⟩ hown')
      obtain ⟨S', hk', r4⟩ := putT_sound hk2 r2 hv'
      exact ⟨S', I', β, _, hk', r4, hext', .setSig β σ _⟩

theorem calls_sound {C : Con} (hT : TOK Γ.P Γ.T) (hC : ∀ g up args r up', C g up args r up' → Comp Γ.P Γ.gl g up args r up') (o : Oper) (c : Call) (hy : ∀ x v, c.callee = .value x → evo Γ S x = .lit v → Γ.yld = none) (ho : o.op = .call c)
    (h : calls C Γ S o c K) (r : Rel Γ S a w I X β σ) (Q : Exit → Act → World → Prop) : o.wp Γ.P a w (Aft Γ K I X w β σ) Q := by
  unfold calls at h
  split at h
  · rename_i x hc
    split at h
    · rename_i g first captured hx
      rw [fvL_eq] at h
      exact call_sound hC o c x ho hc hx h r Q
    · rename_i hx
      rw [hy _ _ hc hx] at h
      split at h
      · rename_i h1; cases h1
      · exact h.elim
    · exact h.elim
  · rename_i b hc
    rw [fvL_eq, evoL_eq] at h
    have hrun : ∀ {v : Value} {w' : World}, (builtin b c.argTypes o.type (c.args.map fun | .const _ => true | _ => false) (c.args.map a.eval)).run Γ.P w = .ok (.value v) w' → (execOp a.eval o).run Γ.P w = .ok (.value v) w' := by
      intro v w' h
      simp only [execOp, ho, resolve, hc, Sem.run_bind, Sem.run_pure, Result.andThen_ok, invoke]
      exact h
    split at h
    · rename_i x hxs
      split at h
      · rename_i t ht
        obtain ⟨y, hy⟩ : ∃ y, c.args.toList = [y] := by
          cases hl : c.args.toList with
          | nil => simp [hl] at hxs
          | cons y l => cases l with
            | nil => exact ⟨y, rfl⟩
            | cons z l => simp [hl] at hxs
        have hargs : c.args = #[y] := by rw [← Array.toArray_toList (xs := c.args), hy]
        have htys : c.argTypes = #[t] := by rw [← Array.toArray_toList (xs := c.argTypes), ht]
        have hxy : evo Γ S y = x := by simpa [hy] using hxs
        have hv := evo_V r y
        rw [hxy] at hv
        split at h
        · rename_i e oo e' n f hk
          obtain ⟨inf, d, z, tk⟩ := TOK.get hT (t := t) (.inr (by rw [hk]; simp))
          have kd := tk.kind
          rw [hk] at kd
          obtain ⟨rfl, he⟩ := kd
          have hval : ∃ bs cp, a.eval y = .slice bs n cp := by
            rcases hv.lst_inv with ⟨px, h1, rfl⟩ | ⟨b, off, c, g, h1, _⟩
            · exact ⟨_, _, h1⟩
            · exact ⟨_, _, h1⟩
          obtain ⟨bs, cp, hval⟩ := hval
          exact wp_val (v := .int .i64 n) (hrun (by simp [builtin, Builtin.len_, hargs, htys, run_underlying tk.und, hval, goInt])) (put_aft h r (.data (.int _ _)))
        · rename_i e hk
          obtain ⟨inf, d, z, tk⟩ := TOK.get hT (t := t) (.inr (by rw [hk]; simp))
          have kd := tk.kind
          rw [hk] at kd
          obtain ⟨rfl, he⟩ := kd
          obtain ⟨px, hpx⟩ := hv.nilS_inv
          exact wp_val (v := .int .i64 0) (hrun (by simp [builtin, Builtin.len_, hargs, htys, run_underlying tk.und, hpx, goInt])) (put_aft h r (.data (.int _ _)))
        · rename_i s hk
          obtain ⟨inf, d, z, tk⟩ := TOK.get hT (t := t) (.inr (by rw [hk]; simp))
          have kd := tk.kind
          rw [hk] at kd
          subst kd
          exact wp_val (v := .int .i64 s.size) (hrun (by simp [builtin, Builtin.len_, hargs, htys, run_underlying tk.und, hv.str_inv, goInt])) (put_aft h r (.data (.int _ _)))
        · exact h.elim
      · exact h.elim
    · rename_i x y hxs
      obtain ⟨p, q, hl, hp, hq⟩ : ∃ p q, c.args.toList = [p, q] ∧ evo Γ S p = x ∧ evo Γ S q = y := by
        cases hl : c.args.toList with
        | nil => simp [hl] at hxs
        | cons p l => cases l with
          | nil => simp [hl] at hxs
          | cons q l => cases l with
            | nil => simp [hl] at hxs; exact ⟨p, q, rfl, hxs.1, hxs.2⟩
            | cons z l => simp [hl] at hxs
      have hargs : c.args = #[p, q] := by rw [← Array.toArray_toList (xs := c.args), hl]
      have hvp := evo_V r p
      have hvq := evo_V r q
      unfold minI at h
      split at h
      · rename_i k m k' m'
        rw [hp] at hvp; rw [hq] at hvq
        exact wp_val (v := .int k (if m' < m then m' else m)) (hrun (by simp [builtin, Builtin.min_, hargs, hvp.int_inv, hvq.int_inv, Builtin.min2])) (put_aft h r (.data (.int _ _)))
      · exact h.elim
    · rename_i x y hxs
      obtain ⟨p, q, hl, hp, hq⟩ : ∃ p q, c.args.toList = [p, q] ∧ evo Γ S p = x ∧ evo Γ S q = y := by
        cases hl : c.args.toList with
        | nil => simp [hl] at hxs
        | cons p l => cases l with
          | nil => simp [hl] at hxs
          | cons q l => cases l with
            | nil => simp [hl] at hxs; exact ⟨p, q, rfl, hxs.1, hxs.2⟩
            | cons z l => simp [hl] at hxs
      have hargs : c.args = #[p, q] := by rw [← Array.toArray_toList (xs := c.args), hl]
      have hvp := evo_V r p
      have hvq := evo_V r q
      unfold maxI at h
      split at h
      · rename_i k m k' m'
        rw [hp] at hvp; rw [hq] at hvq
        exact wp_val (v := .int k (if m' > m then m' else m)) (hrun (by simp [builtin, Builtin.max_, hargs, hvp.int_inv, hvq.int_inv, Builtin.max2])) (put_aft h r (.data (.int _ _)))
      · exact h.elim
    · rename_i t e n x hxs
      obtain ⟨p, q, hl, hp, hq⟩ : ∃ p q, c.args.toList = [p, q] ∧ evo Γ S p = .raw t e n ∧ evo Γ S q = x := by
        cases hl : c.args.toList with
        | nil => simp [hl] at hxs
        | cons p l => cases l with
          | nil => simp [hl] at hxs
          | cons q l => cases l with
            | nil => simp [hl] at hxs; exact ⟨p, q, rfl, hxs.1, hxs.2⟩
            | cons z l => simp [hl] at hxs
      have hargs : c.args = #[p, q] := by rw [← Array.toArray_toList (xs := c.args), hl]
      split at h
      · rename_i ty sT ht
        split at h
        · rename_i el hk
          split at h
          · rename_i he
            have he := (beq_iff _ _).1 he
            have htys : c.argTypes = #[ty, sT] := by rw [← Array.toArray_toList (xs := c.argTypes), ht]
            obtain ⟨w', hr, haft⟩ := copyI_sound (rty := o.type) (sT := sT) hT hk he h r (hp ▸ evo_V r p) (hq ▸ evo_V r q)
            refine wp_val (v := .int .i64 n) (w' := w') (hrun ?_) haft
            simp [builtin, hargs, htys, hr]
          · exact h.elim
        · exact h.elim
      · exact h.elim
    · rename_i x y hxs
      obtain ⟨p, q, hl, hp, hq⟩ : ∃ p q, c.args.toList = [p, q] ∧ evo Γ S p = x ∧ evo Γ S q = y := by
        cases hl : c.args.toList with
        | nil => simp [hl] at hxs
        | cons p l => cases l with
          | nil => simp [hl] at hxs
          | cons q l => cases l with
            | nil => simp [hl] at hxs; exact ⟨p, q, rfl, hxs.1, hxs.2⟩
            | cons z l => simp [hl] at hxs
      have hargs : c.args = #[p, q] := by rw [← Array.toArray_toList (xs := c.args), hl]
      split at h
      · rename_i d t t' hd ht
        split at h
        · rename_i e htt hk
          have htt := (beq_iff _ _).1 htt
          subst htt
          have htys : c.argTypes = #[t, t] := by rw [← Array.toArray_toList (xs := c.argTypes), ht]
          obtain ⟨v, w', hr, haft⟩ := appendI_sound (ty := o.type) hT hk h r (hp ▸ evo_V r p) (hq ▸ evo_V r q)
          refine wp_val (v := v) (w' := w') (hrun ?_) (by rw [hd]; exact haft)
          simp [builtin, hargs, htys, hr]
        · exact h.elim
      · exact h.elim
    · exact h.elim
  · exact h.elim

theorem iop_all' {C : Con} (hT : TOK Γ.P Γ.T) (hC : ∀ g up args r up', C g up args r up' → Comp Γ.P Γ.gl g up args r up') (o : Oper) (hy : ∀ c x v, o.op = .call c → c.callee = .value x → evo Γ S x = .lit v → Γ.yld = none) (h : iop C Γ S o K) (r : Rel Γ S a w I X β σ)
    (Q : Exit → Act → World → Prop) : o.wp Γ.P a w (Aft Γ K I X w β σ) Q := by
  by_cases hc : ∃ c, o.op = .call c
  · obtain ⟨c, hc⟩ := hc
    refine calls_sound hT hC o c (fun x v => hy c x v hc) hc ?_ r Q
    unfold iop at h
    rw [hc] at h
    exact h
  · exact iop_sound hT o (fun c e => hc ⟨c, e⟩) h r Q

theorem iop_all {C : Con} (hT : TOK Γ.P Γ.T) (hC : HC C Γ) (o : Oper) (h : iop C Γ S o K) (r : Rel Γ S a w I X β σ)
    (Q : Exit → Act → World → Prop) : o.wp Γ.P a w (Aft Γ K I X w β σ) Q := iop_all' hT hC.1 o (fun _ _ _ _ _ _ => hC.2.1) h r Q

end
end Go.Proofs.YtllmejkmogepjaaDoor.Ix
