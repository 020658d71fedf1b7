/- YtfoenhiohhmnlaaGreatDoorM3 -/
import Derived.Test.YtfoenhiohhmnlaaGreatDoorM2
import Derived.Orders
namespace Go.Proofs.YtfoenhiohhmnlaaGreatDoor.Ix
set_option linter.unusedVariables false
section
mutual
theorem leV_sound {I : Imm} {β : Beta} {s : Sig} : ∀ (x y : IV) (v : Value), leV x y → V I β s x v → V I β s y v := by
  intro x y v h hv
  cases y with
  | dead => exact .data (.dead v)
  | lst o' e' n' f' =>
    cases x with
    | nilS =>
      simp only [leV] at h; subst h
      obtain ⟨px, rfl⟩ := hv.nilS_inv
      cases o' with
      | none => exact .data (.lstN _ _)
      | some t => exact .ownN _ _ _
    | lst o e n f =>
      simp only [leV] at h
      obtain ⟨ho, rfl, rfl, hf⟩ := h
      rcases hv.lst_inv with ⟨px, rfl, rfl⟩ | ⟨b, off, c, g, rfl, hnc, hown, hl, hI, hone, hD⟩
      · cases o' with
        | none => exact .data (.lstN _ _)
        | some t => exact .ownN _ _ _
      · rcases ho with rfl | rfl
        · exact .data (.lst e n f' b off c g hnc (fun i hi => by rw [← hf i hi]; exact hl i hi) hI hone (fun i j x hi hx => hD i j x hi (by rw [hf i hi]; exact hx)))
        · cases o' with
          | none => exact .data (.lst e n f' b off c g hnc (fun i hi => by rw [← hf i hi]; exact hl i hi) hI hone (fun i j x hi hx => hD i j x hi (by rw [hf i hi]; exact hx)))
          | some t =>
            obtain ⟨rfl, el, ht⟩ := hown t rfl
            exact .own t e n f' b el c g ht hnc (fun i hi => by rw [← hf i hi]; exact hl i hi) (fun i j hi hj => by simpa using hI i j hi hj) hone (fun i j x hi hx => hD i j x hi (by rw [hf i hi]; exact hx))
    | _ => simp only [leV] at h; first | cases h | (subst h; exact hv)
  | agg ys =>
    cases x with
    | agg xs =>
      simp only [leV] at h
      obtain ⟨vs, rfl, hl, h1, hV⟩ := hv.agg_inv
      obtain ⟨g1, g2⟩ := leL_sound xs ys h (fun j => vs.getD j undef) hV
      exact .agg ys vs (by rw [← g1, hl]) h1 g2
    | _ => simp only [leV] at h; cases h
  | tup ys =>
    cases x with
    | tup xs =>
      simp only [leV] at h
      obtain ⟨vs, rfl, hl, hV⟩ := hv.tup_inv
      obtain ⟨g1, g2⟩ := leL_sound xs ys h (fun j => vs.getD j undef) hV
      exact .tup ys vs (by rw [← g1, hl]) g2
    | _ => simp only [leV] at h; cases h
  | _ =>
    cases x <;> simp only [leV] at h <;> first | cases h | (exact h ▸ hv)
    all_goals exact hv
theorem leL_sound {I : Imm} {β : Beta} {s : Sig} : ∀ (xs ys : List IV), leL xs ys → ∀ (f : Nat → Value), (∀ (j : Nat) x, xs[j]? = some x → V I β s x (f j)) →
    xs.length = ys.length ∧ ∀ (j : Nat) y, ys[j]? = some y → V I β s y (f j)
  | [], [], _, f, _ => ⟨rfl, fun j y h => by simp at h⟩
  | x :: xs, y :: ys, h, f, hx => by
    simp only [leL] at h
    obtain ⟨g1, g2⟩ := leL_sound xs ys h.2 (fun j => f (j + 1)) (fun j z hz => hx (j + 1) z (by simpa using hz))
    refine ⟨by simp [g1], fun j z hz => ?_⟩
    cases j with
    | zero => simp at hz; subst hz; exact leV_sound x y _ h.1 (hx 0 x (by simp))
    | succ j => exact g2 j z (by simpa using hz)
  | [], _ :: _, h, _, _ => by simp [leL] at h
  | _ :: _, [], h, _, _ => by simp [leL] at h
end
end
section
variable {Γ : Env} {S : St} {a : Act} {w : World} {I : Imm} {X : Nat → Prop} {β : Beta} {σ : Nat → Sig} {K : St → Prop}
def HCC (C : Con) (P : Program) (gl : Nat → IV) : Prop := (∀ g up args r up', C g up args r up' → Comp P gl g up args r up') ∧ (∀ g args k cs, C.o g args k cs → CompO P gl g args k cs) ∧ ∀ g d c rest c', C.l g d c rest c' → CompL P gl g d c rest c'
def HC (C : Con) (Γ : Env) : Prop := HCC C Γ.P Γ.gl ∧ Γ.yld = none
theorem back_sound {s : Sig} {r r' : IV} {v : Value} {d : Option Nat} (h : back d r = some r') (hv : V I (under β) s r v) (s' : Sig) (hd : ∀ t, d = some t → ∀ u g, s u = some g → (∃ e n f, r = .lst (some u) e n f ∨ ∃ q, r = .tup (.lst (some u) e n f :: q)) → s' t = some g) : V I β s' r' v := by
  unfold back at h
  split at h
  · rename_i t e n f
    simp at h; subst h
    cases hv with
    | data h => cases h
    | ownN t e f =>
      cases d with
      | none => exact .data (.lstN e f)
      | some d => exact .ownN d e f
    | own t e n f b el c g ht hc hl hi h1 h =>
      cases d with
      | none => exact .data (.lst e n f b 0 c g hc hl (fun i j a b => by simpa using hi i j a b) h1 h)
      | some d => exact .own d e n f b el c g (hd d rfl t _ ht ⟨_, _, _, .inl rfl⟩) hc hl hi h1 h
  · rename_i t e n f q
    split at h
    · rename_i y hy
      obtain ⟨e1, e2⟩ := unshiftL_spec _ _ hy
      simp at h; subst h
      obtain ⟨vs, rfl, hl, hV⟩ := hv.tup_inv
      refine .tup _ vs (by simp at hl ⊢; omega) fun j x hx => ?_
      cases j with
      | zero =>
        simp at hx; subst hx
        have h0 := hV 0 (.lst (some t) e n f) (by simp)
        generalize vs.getD 0 undef = u at h0
        cases h0 with
        | data h => cases h
        | ownN t e f =>
          cases d with
          | none => exact .data (.lstN e f)
          | some d => exact .ownN d e f
        | own t e n f b el c g ht hc hl hi h1 h =>
          cases d with
          | none => exact .data (.lst e n f b 0 c g hc hl (fun i j a b => by simpa using hi i j a b) h1 h)
          | some d => exact .own d e n f b el c g (hd d rfl t _ ht ⟨_, _, _, .inr ⟨_, rfl⟩⟩) hc hl hi h1 h
      | succ j =>
        obtain ⟨z, hz, hu⟩ := e2 j x (by simpa using hx)
        exact (hV (j + 1) z (by simpa using hz)).unshift x hu
    · cases h
  · exact hv.unshift r' h
theorem MemR.sub {gl : Nat → IV} {cs : List Ces} {Y : Nat → Prop} (m : MemR gl cs w I Y β σ) (h : ∀ b, X b → Y b) : MemR gl cs w I X β σ :=
  ⟨fun l d c hc => by obtain ⟨b, arr, el, h1, h2, h3, h4, h5, h6, h7⟩ := m.cell l d c hc; exact ⟨b, arr, el, h1, h2, h3, h4, h5, h6, fun hx => h7 (h b hx)⟩,
    m.inj, m.keys, m.im, m.glo, fun b hb => m.xb b (h b hb), m.gz⟩
theorem minL_run {P : Program} {I : Imm} {β : Beta} {σ : Sig} (w : World) : ∀ (us : List IV) (vs : List Value) (k : IntKind) (m : Int) {K : IV → Prop}, minL (.int k m) us K → vs.length = us.length →
    (∀ (j : Nat) x, us[j]? = some x → ∃ v, vs[j]? = some v ∧ V I β σ x v) → ∃ n, K (.int k n) ∧ (vs.foldlM Builtin.min2 (.int k m)).run P w = .ok (.int k n) w
  | [], vs, k, m, K, h, hl, _ => by
    have : vs = [] := by simpa using hl
    subst this
    exact ⟨m, h, by simp⟩
  | y :: us, vs, k, m, K, h, hl, hv => by
    cases vs with
    | nil => simp at hl
    | cons v vs =>
      obtain ⟨v', e, hV⟩ := hv 0 y rfl
      simp at e; subst e
      cases y with
      | int k2 m2 =>
        have h : minL (.int k (if m2 < m then m2 else m)) us K := h
        obtain ⟨n, h1, h2⟩ := minL_run w us vs k _ h (by simpa using hl) (fun j x hx => by have := hv (j + 1) x (by simpa using hx); simpa using this)
        refine ⟨n, h1, ?_⟩
        rw [List.foldlM_cons, hV.int_inv]
        simp only [Builtin.min2, pure_bind]
        exact h2
      | _ => exact h.elim
theorem maxL_run {P : Program} {I : Imm} {β : Beta} {σ : Sig} (w : World) : ∀ (us : List IV) (vs : List Value) (k : IntKind) (m : Int) {K : IV → Prop}, maxL (.int k m) us K → vs.length = us.length →
    (∀ (j : Nat) x, us[j]? = some x → ∃ v, vs[j]? = some v ∧ V I β σ x v) → ∃ n, K (.int k n) ∧ (vs.foldlM Builtin.max2 (.int k m)).run P w = .ok (.int k n) w
  | [], vs, k, m, K, h, hl, _ => by
    have : vs = [] := by simpa using hl
    subst this
    exact ⟨m, h, by simp⟩
  | y :: us, vs, k, m, K, h, hl, hv => by
    cases vs with
    | nil => simp at hl
    | cons v vs =>
      obtain ⟨v', e, hV⟩ := hv 0 y rfl
      simp at e; subst e
      cases y with
      | int k2 m2 =>
        have h : maxL (.int k (if m2 > m then m2 else m)) us K := h
        obtain ⟨n, h1, h2⟩ := maxL_run w us vs k _ h (by simpa using hl) (fun j x hx => by have := hv (j + 1) x (by simpa using hx); simpa using this)
        refine ⟨n, h1, ?_⟩
        rw [List.foldlM_cons, hV.int_inv]
        simp only [Builtin.max2, pure_bind]
        exact h2
      | _ => exact h.elim
def fence (X : Nat → Prop) (s : Sig) : Nat → Prop := fun b => X b ∨ ∃ t g, s t = some g ∧ g.b = b
def keepT (ks : List Nat) : Tms → Tms
  | [] => []
  | (i, v) :: r => match hasN ks i with
    | true => (i, v) :: keepT ks r
    | false => keepT ks r
theorem fpsK_eq (ks : List Nat) : ∀ (l : Tms) (K : Tms → Prop), fpsK ks l K = K (keepT ks l)
  | [], K => rfl
  | (i, v) :: r, K => by
    simp only [fpsK, keepT]
    cases hasN ks i with
    | true => simp only; rw [fv_eq, fpsK_eq ks r]
    | false => simp only; rw [fpsK_eq ks r]
theorem keepT_look (ks : List Nat) : ∀ (l : Tms) (i : Nat), look (keepT ks l) i = .dead ∨ look (keepT ks l) i = look l i
  | [], i => .inl rfl
  | (j, v) :: r, i => by
    simp only [keepT]
    split
    · rw [look_cons, look_cons]
      split
      · exact .inr rfl
      · exact keepT_look ks r i
    · rename_i hk
      rcases keepT_look ks r i with e | e
      · exact .inl e
      · by_cases h : j = i
        · subst h
          left
          have hn : ∀ (l : Tms), look (keepT ks l) j = .dead := by
            intro l
            induction l with
            | nil => rfl
            | cons x l ih =>
              obtain ⟨y, z⟩ := x
              simp only [keepT]
              split
              · rename_i hy
                rw [look_cons]
                rw [if_neg]
                · exact ih
                · rintro rfl; rw [hy] at hk; cases hk
              · exact ih
          exact hn r
        · right
          rw [e, look_cons, if_neg h]
theorem call_run (o : Oper) (c : Call) (x : Operand) (ho : o.op = .call c) (hc : c.callee = .value x)
    {g : Nat} {first captured : List IV} (hx : evo Γ S x = .fn g first captured) (r : Rel Γ S a w I X β σ) {fn : Func} {code : Code} (hf : Γ.P.funcs[g]? = some fn) (hbody : fn.body = some code) (hname : (fn.name == "runtime.NumGoroutine") = false) :
    ∃ vals : Array Value, (execOp a.eval o).run Γ.P w = .ok (.enter g vals) w ∧ (shiftL (first ++ evoL Γ S c.args.toList ++ captured)).length = vals.size ∧
      ∀ (j : Nat) y, (shiftL (first ++ evoL Γ S c.args.toList ++ captured))[j]? = some y → V I (under β) noSig y (vals.getD j undef) := by
  have hvx := evo_V r x
  rw [hx] at hvx
  obtain ⟨vs, us, hval, hl1, hl2, hV1, hV2⟩ := hvx.fn_inv
  have hrun : (execOp a.eval o).run Γ.P w = .ok (.enter g (vs ++ c.args.map a.eval ++ us)) w := by
    simp only [execOp, ho, resolve, hc, hval, Deferred.ofValue, Sem.run_bind, Sem.run_pure, Result.andThen_ok, invoke, callFunc, run_program, hf, hname, hbody, Option.isNone]
    rfl
  have hargs : ∀ (j : Nat) y, (shiftL (first ++ evoL Γ S c.args.toList ++ captured))[j]? = some y → V I (under β) noSig y ((vs ++ c.args.map a.eval ++ us).getD j undef) := by
    intro j y hy
    rw [shiftL_eq] at hy
    obtain ⟨z, hz, rfl⟩ := map_get hy
    refine V.shift (σ := σ 0) ?_
    rw [evoL_eq] at hz
    by_cases h1 : j < first.length
    · rw [List.append_assoc, List.getElem?_append_left h1] at hz
      have := hV1 j z hz
      have hj : j < vs.size := by omega
      rw [Array.getD_eq_getD_getElem?] at this ⊢
      rw [Array.append_assoc, Array.getElem?_append_left hj]; exact this
    · by_cases h2 : j < first.length + c.args.toList.length
      · rw [List.getElem?_append_left (by simp; simpa using h2), List.getElem?_append_right (by omega)] at hz
        simp only [List.getElem?_map, Option.map_eq_some_iff] at hz
        obtain ⟨q, hq, rfl⟩ := hz
        have := evo_V r q
        rw [Array.getD_eq_getD_getElem?, Array.getElem?_append_left (by simp at h2 ⊢; omega), Array.getElem?_append_right (by omega)]
        rw [hl1] at hq
        simp only [Array.getElem?_toList] at hq
        simpa [hq] using this
      · rw [List.getElem?_append_right (by simp; simp at h2; omega)] at hz
        have := hV2 _ z hz
        rw [Array.getD_eq_getD_getElem?] at this ⊢
        rw [Array.getElem?_append_right (by simp at h2 ⊢; omega)]
        simp only [List.length_append, List.length_map, Array.length_toList] at this
        simp only [Array.size_append, Array.size_map, ← hl1]
        exact this
  exact ⟨_, hrun, by simp [shiftL_eq, evoL_eq]; omega, hargs⟩
theorem call_thaw {C : Con} (hC : HCC C Γ.P Γ.gl) (o : Oper) (c : Call) (x : Operand) (ho : o.op = .call c) (hc : c.callee = .value x)
    {g : Nat} {first captured : List IV} (hx : evo Γ S x = .fn g first captured) (r : Rel Γ S a w I X β σ) (Q : Exit → Act → World → Prop)
    (ks : List Nat) (dd : Nat) (hd : o.dst = some dd) (xs : List IV) (e n z : Nat) (f : Nat → List IV) (hle : leL (shiftL (first ++ evoL Γ S c.args.toList ++ captured)) [.agg (xs ++ [.lst none e n f])]) (hxs : xs.all slcI = true) (hi : ∀ i, i < n → allInt (f i) = true) (hpos : 0 < n)
    (h : ∀ vs : List Value, vs.length = xs.length → (∀ v ∈ vs, ∃ p n c, v = .slice p n c) → C g [] [.agg (vs.map .lit ++ [.lst none e n f])] (.agg (vs.map .lit ++ [.lst (some z) e n f])) [])
    (hn : lookC S.ce dd = none) (hk : ∀ m cc bb, untagO o.dst ⟨keepT ks S.tm, (dd, flatR e n f ++ List.replicate m .dead) :: S.ce, S.up⟩ fun S' => fv (.agg (xs ++ [.row dd e n cc bb])) fun r => putT Γ S' o.dst r K) : o.wp Γ.P a w (Aft Γ K I X w β σ) Q := by
  obtain ⟨⟨fn, code, hf, hbody, hname⟩, -⟩ := hC.1 _ _ _ _ _ (h (List.replicate xs.length (.slice none 0 0)) (by simp) (fun v hv => by rw [(List.mem_replicate.1 hv).2]; exact ⟨_, _, _, rfl⟩))
  obtain ⟨vals, hrun, hsize, hargs⟩ := call_run o c x ho hc hx r hf hbody hname
  obtain ⟨hle1, hle2⟩ := leL_sound _ _ hle (fun j => vals.getD j undef) hargs
  have hv0 := hle2 0 _ rfl
  obtain ⟨vs0, hvs0, hl0, hone0, hV0⟩ := hv0.agg_inv
  have hl0' : xs.length + 1 = vs0.size := by rw [← hl0]; simp
  have hparts : ∀ (j : Nat) y, xs[j]? = some y → (∃ p n c, vs0.getD j undef = .slice p n c) ∧ D I y (vs0.getD j undef) := fun j y hy => by
    have hj := (List.getElem?_eq_some_iff.1 hy).1
    exact slc_val (List.all_eq_true.1 hxs y (List.mem_of_getElem? hy)) (hV0 j y (by rw [List.getElem?_append_left hj]; exact hy))
  have hsl : ∀ v ∈ vs0.toList.take xs.length, ∃ p n c, v = .slice p n c := fun v hv => by
    obtain ⟨j, hj⟩ := List.mem_iff_getElem?.1 hv
    rw [List.getElem?_take] at hj
    split at hj
    · rename_i hjx
      obtain ⟨y, hy⟩ : ∃ y, xs[j]? = some y := ⟨_, List.getElem?_eq_getElem hjx⟩
      have := (hparts j y hy).1
      rw [Array.getD_eq_getD_getElem?] at this
      simp only [Array.getElem?_toList] at hj
      rw [hj] at this
      exact this
    · cases hj
  obtain ⟨_, hcomp⟩ := hC.1 _ _ _ _ _ (h (vs0.toList.take xs.length) (by simp; omega) hsl)
  have hu : under (fun _ _ => none) = fun _ _ => none := by funext l d; cases l <;> rfl
  have hvals : vals = #[.agg vs0] := by
    have h1 : vals.size = 1 := by rw [← hsize, hle1]; rfl
    apply Array.ext
    · exact h1
    · intro i h2 h3
      have : i = 0 := by omega
      subst this
      rw [Array.getD_eq_getD_getElem?, Array.getElem?_eq_getElem h2] at hvs0
      simpa using hvs0
  have hcalls := hcomp vals w I (fun b => b < w.heap.size) (fun _ _ => none) (fun _ => noSig) ⟨fun l d c hc => by simp [upC, lookC] at hc, fun l d l' d' b h => (by cases h), fun l d b h => (by cases h), r.mem.im, r.mem.glo, fun b h => h, r.mem.gz⟩ (by rw [hvals]; rfl) (fun j y hy => by
    rw [hu, hvals]
    cases j with
    | succ j => simp at hy
    | zero =>
      have hy : IV.agg ((vs0.toList.take xs.length).map .lit ++ [.lst none e n f]) = y := Option.some.inj hy
      subst hy
      have hlt : ((vs0.toList.take xs.length).map IV.lit).length = xs.length := by simp; omega
      refine .agg _ vs0 (by rw [List.length_append, hlt]; simpa using hl0') hone0 fun j y hy => ?_
      by_cases hj : j < xs.length
      · rw [List.getElem?_append_left (by omega), List.getElem?_map, List.getElem?_take, if_pos hj] at hy
        have hj0 : j < vs0.size := by omega
        simp [hj0] at hy
        subst hy
        obtain ⟨⟨p, q, c', hs⟩, _⟩ := hparts j _ (List.getElem?_eq_getElem hj)
        rw [Array.getD_eq_getD_getElem?, Array.getElem?_eq_getElem hj0] at hs ⊢
        simp only [Option.getD_some] at hs ⊢
        rw [hs]
        exact .data (.lit _ rfl)
      · rw [List.getElem?_append_right (by omega)] at hy
        have : j = xs.length := by
          have := (List.getElem?_eq_some_iff.1 hy).1
          simp at this; omega
        subst this
        rw [hlt] at hy
        simp at hy
        subst hy
        have := hV0 xs.length (.lst none e n f) (by rw [List.getElem?_append_right (by omega)]; simp)
        cases this with
        | data h => exact .data h)
  unfold Oper.wp
  rw [hrun]
  simp only [Oper.upon_enter]
  refine hcalls.mono fun e' w' ⟨v, I', s, he, hv, hown, hmem2, hext⟩ => ?_
  subst he
  simp only
  rw [hu] at hv hown
  obtain ⟨m, cc, bb, I2, β2, r1, hext2, habove, hV2⟩ := thaw_rel r hl0' (fun j y hy => (hparts j y hy).2) hi hpos hn hv hown hmem2 hext
  have r2 : Rel Γ ⟨keepT ks S.tm, (dd, flatR e n f ++ List.replicate m .dead) :: S.ce, S.up⟩ a w' I2 X β2 σ := ⟨fun i => by
    show V I2 β2 (σ 0) (look (keepT ks S.tm) i) _
    rcases keepT_look ks S.tm i with q | q
    · rw [q]; exact .data (.dead _)
    · rw [q]; exact r1.tm i, r1.df, r1.nt, r1.mem, r1.own⟩
  have hk := hk m cc bb
  rw [hd] at hk ⊢
  simp only [untagO, fv_eq] at hk
  obtain ⟨S2, hk2, r3, _, _⟩ := untag_sound hk r2
  obtain ⟨S', hk', r4⟩ := putT_sound hk2 r3 (hV2 _)
  exact ⟨S', I2, β2, _, hk', r4, hext2, habove.trans (.setSig β2 σ _)⟩
theorem call_sound0 {C : Con} (hC : HCC C Γ.P Γ.gl) (o : Oper) (c : Call) (x : Operand) (ho : o.op = .call c) (hc : c.callee = .value x)
    {g : Nat} {first captured : List IV} (hx : evo Γ S x = .fn g first captured)
    (h : ∃ tmN args' rv r' ce up, leL (shiftL (first ++ evoL Γ S c.args.toList ++ captured)) args' ∧ C g (S.ce :: S.up) args' rv (ce :: up) ∧ back o.dst rv = some r' ∧
      (∀ i, look tmN i = .dead ∨ look tmN i = look S.tm i) ∧ untagO o.dst ⟨tmN, ce, up⟩ fun S' => fv r' fun r => putT Γ S' o.dst r K)
    (r : Rel Γ S a w I X β σ) (Q : Exit → Act → World → Prop) : o.wp Γ.P a w (Aft Γ K I X w β σ) Q := by
  obtain ⟨tmN, args', rv, r', ce, up, hle, hcon, hback, hkeep, hk⟩ := h
  obtain ⟨⟨fn, code, hf, hbody, hname⟩, hcomp⟩ := hC.1 _ _ _ _ _ hcon
  have hvx := evo_V r x
  rw [hx] at hvx
  obtain ⟨vs, us, hval, hl1, hl2, hV1, hV2⟩ := hvx.fn_inv
  have hmem' : MemR Γ.gl (S.ce :: S.up) w I (fence X (σ 0)) β σ := by
    refine ⟨fun l d c hc => ?_, r.mem.inj, r.mem.keys, r.mem.im, r.mem.glo, fun b hb => ?_, r.mem.gz⟩
    · obtain ⟨b, arr, el, h1, h2, h3, h4, h5, h6, h7⟩ := r.mem.cell l d c hc
      refine ⟨b, arr, el, h1, h2, h3, h4, h5, h6, fun hx => ?_⟩
      rcases hx with hx | ⟨t, g, hg, hb⟩
      · exact h7 hx
      · obtain ⟨cur, _, _, _, _, _, _, k7⟩ := r.own.row t g hg
        exact k7 l d (hb ▸ h1)
    · rcases hb with hb | ⟨t, g, hg, rfl⟩
      · exact r.mem.xb b hb
      · obtain ⟨cur, k1, _⟩ := r.own.row t g hg
        exact heap_lt k1
  have hrun : (execOp a.eval o).run Γ.P w = .ok (.enter g (vs ++ c.args.map a.eval ++ us)) w := by
    simp only [execOp, ho, resolve, hc, hval, Deferred.ofValue, Sem.run_bind, Sem.run_pure, Result.andThen_ok, invoke, callFunc, run_program, hf, hname, hbody, Option.isNone]
    rfl
  have hargs : ∀ (j : Nat) y, (shiftL (first ++ evoL Γ S c.args.toList ++ captured))[j]? = some y → V I (under β) noSig y ((vs ++ c.args.map a.eval ++ us).getD j undef) := by
    intro j y hy
    rw [shiftL_eq] at hy
    obtain ⟨z, hz, rfl⟩ := map_get hy
    refine V.shift (σ := σ 0) ?_
    rw [evoL_eq] at hz
    by_cases h1 : j < first.length
    · rw [List.append_assoc, List.getElem?_append_left h1] at hz
      have := hV1 j z hz
      have hj : j < vs.size := by omega
      rw [Array.getD_eq_getD_getElem?] at this ⊢
      rw [Array.append_assoc, Array.getElem?_append_left hj]; exact this
    · by_cases h2 : j < first.length + c.args.toList.length
      · rw [List.getElem?_append_left (by simp; simpa using h2), List.getElem?_append_right (by omega)] at hz
        simp only [List.getElem?_map, Option.map_eq_some_iff] at hz
        obtain ⟨q, hq, rfl⟩ := hz
        have := evo_V r q
        rw [Array.getD_eq_getD_getElem?, Array.getElem?_append_left (by simp at h2 ⊢; omega), Array.getElem?_append_right (by omega)]
        rw [hl1] at hq
        simp only [Array.getElem?_toList] at hq
        simpa [hq] using this
      · rw [List.getElem?_append_right (by simp; simp at h2; omega)] at hz
        have := hV2 _ z hz
        rw [Array.getD_eq_getD_getElem?] at this ⊢
        rw [Array.getElem?_append_right (by simp at h2 ⊢; omega)]
        simp only [List.length_append, List.length_map, Array.length_toList] at this
        simp only [Array.size_append, Array.size_map, ← hl1]
        exact this
  obtain ⟨hle1, hle2⟩ := leL_sound _ _ hle (fun j => (vs ++ c.args.map a.eval ++ us).getD j undef) hargs
  have hcalls := hcomp (vs ++ c.args.map a.eval ++ us) w I (fence X (σ 0)) β σ hmem' (by rw [← hle1]; simp [shiftL_eq, evoL_eq]; omega) hle2
  unfold Oper.wp
  rw [hrun]
  simp only [Oper.upon_enter]
  refine hcalls.mono fun e w' ⟨v, I', s, he, hv, hown, hmem2, hext⟩ => ?_
  subst he
  simp only
  have r1 : Rel Γ ⟨tmN, ce, up⟩ a w' I' X β σ := by
    refine ⟨fun i => by
      show V I' β (σ 0) (look tmN i) _
      rcases hkeep i with e | e
      · rw [e]; exact .data (.dead _)
      · rw [e]; exact (r.tm i).mono hext.imm (fun _ _ _ h => h) (fun _ _ h => h), r.df.to hext.fix (fun _ _ h => h), r.nt, hmem2.sub (fun b hb => .inl hb), ⟨fun t g hg => ?_, r.own.inj⟩⟩
    obtain ⟨cur, k1, k2, k3, k4, k5, k6, k7⟩ := r.own.row t g hg
    refine ⟨cur, by rw [hext.keep g.b (.inr ⟨t, g, hg, rfl⟩)]; exact k1, k2, k3, k4, fun j hj => ?_, k6, k7⟩
    rw [hext.new ⟨g.b, j, none⟩ (.inr ⟨t, g, hg, rfl⟩)]; exact k5 j hj
  have hext' : Ext I X w I' w' := hext.sub (fun b hb => .inl hb)
  cases hd : o.dst with
  | none =>
    rw [hd] at hk hback
    simp only [untagO, fv_eq] at hk
    have hv' : V I' β (σ 0) r' v := back_sound hback hv _ (fun t ht => by cases ht)
    obtain ⟨S', hk', r2⟩ := putT_sound hk r1 hv'
    exact ⟨S', I', β, σ, hk', r2, hext', .refl _ _⟩
  | some d =>
    rw [hd] at hk hback
    simp only [untagO, fv_eq] at hk
    obtain ⟨S2, hk2, r2, _, _⟩ := untag_sound hk r1
    by_cases hown' : ∃ u g, s u = some g ∧ ∃ e n f, rv = .lst (some u) e n f ∨ ∃ q, rv = .tup (.lst (some u) e n f :: q)
    · obtain ⟨u, g, hg, hshape⟩ := hown'
      obtain ⟨cur, k1, k2, k3, k4, k5, k6, k7⟩ := hown.row u g hg
      have huniq : ∀ u' g', s u' = some g' → (∃ e n f, rv = .lst (some u') e n f ∨ ∃ q, rv = .tup (.lst (some u') e n f :: q)) → g' = g := by
        intro u' g' hg' hsh
        obtain ⟨e, n, f, hs⟩ := hshape
        obtain ⟨e', n', f', hs'⟩ := hsh
        have : u' = u := by
          rcases hs with hs | ⟨q, hs⟩ <;> rcases hs' with hs' | ⟨q', hs'⟩ <;> rw [hs] at hs' <;> simp at hs'
          · exact hs'.1.symm
          · exact hs'.1.1.symm
        subst this
        rw [hg] at hg'; cases hg'; rfl
      let s2 : Sig := fun t => if t = d then some g else (setSig σ fun u => if u = d then none else σ 0 u) 0 t
      have hle : ∀ t g0, (setSig σ fun u => if u = d then none else σ 0 u) 0 t = some g0 → s2 t = some g0 := by
        intro t g0 h
        show (if _ then _ else _) = _
        rw [if_neg]; exact h
        rintro rfl; simp [setSig] at h
      have r3 : Rel Γ S2 a w' I' X β (setSig σ s2) := by
        refine ⟨fun i => (r2.tm i).mono (fun _ _ h => h) (fun _ _ _ h => h) hle, r2.df, r2.nt, ⟨fun l d' c hc => ?_, r2.mem.inj, r2.mem.keys, r2.mem.im, r2.mem.glo, r2.mem.xb, r2.mem.gz⟩, ⟨fun t g0 h => ?_, fun t t' g0 g1 h h' hb => ?_⟩⟩
        · obtain ⟨b, arr, el, h1, h2, h3, h4, h5, h6⟩ := r2.mem.cell l d' c hc
          refine ⟨b, arr, el, h1, h2, h3, h4, fun j y hy => (h5 j y hy).mono (fun _ _ h => h) (fun _ _ _ h => h) (fun t g0 h => ?_), h6⟩
          cases l with
          | zero => exact hle t g0 h
          | succ l => exact h
        · have h : (if t = d then some g else _) = some g0 := h
          split at h
          · simp at h; subst h
            exact ⟨cur, k1, k2, k3, k4, k5, fun hx => k6 (.inl hx), fun l d' hb => k7 (l + 1) d' hb⟩
          · exact r2.own.row t g0 h
        · have h : (if t = d then some g else _) = some g0 := h
          have h' : (if t' = d then some g else _) = some g1 := h'
          have hne : ∀ t g0, (setSig σ fun u => if u = d then none else σ 0 u) 0 t = some g0 → g0.b ≠ g.b := by
            intro t g0 h hb
            simp only [setSig] at h
            split at h
            · cases h
            · exact k6 (.inr ⟨t, g0, h, hb⟩)
          split at h <;> split at h'
          · subst_vars; rfl
          · simp at h; subst h; exact absurd hb.symm (hne t' g1 h')
          · simp at h'; subst h'; exact absurd hb (hne t g0 h)
          · exact r2.own.inj t t' g0 g1 h h' hb
      have hv' : V I' β (setSig σ s2 0) r' v := back_sound hback hv _ (fun t ht u' g' hg' hsh => by
        simp at ht; subst ht
        rw [huniq u' g' hg' hsh]
        show (if _ then _ else _) = _
        simp)
      obtain ⟨S', hk', r4⟩ := putT_sound hk2 r3 hv'
      exact ⟨S', I', β, setSig σ s2, hk', r4, hext', .setSig β σ _⟩
    · have hv' : V I' β (setSig σ (fun u => if u = d then none else σ 0 u) 0) r' v := back_sound hback hv _ (fun t ht u g hg hsh => absurd ⟨u, g, hg, hsh⟩ hown')
      obtain ⟨S', hk', r4⟩ := putT_sound hk2 r2 hv'
      exact ⟨S', I', β, _, hk', r4, hext', .setSig β σ _⟩
theorem hasKey_iff : ∀ {ce : Ces} {d : Nat}, hasKey ce d = true ↔ ∃ c, lookC ce d = some c
  | [], d => by simp [hasKey, lookC]
  | (i, c) :: r, d => by
    simp only [hasKey, lookC, Bool.or_eq_true, hasKey_iff (ce := r)]
    cases h : Nat.beq i d <;> simp
theorem Rel.addCell {d b : Nat} {c : List IV} (r : Rel Γ S a w I X β σ) (h : OwnC w I X b c) (hb : ∀ l d, β l d ≠ some b) (hs : ∀ t g, σ 0 t = some g → g.b ≠ b) (hd : lookC S.ce d = none) :
    ∃ β', Rel Γ ⟨S.tm, (d, c) :: S.ce, S.up⟩ a w I X β' σ ∧ Above β β' σ σ ∧ β' 0 d = some b ∧ (∀ l e b, β l e = some b → β' l e = some b) ∧ ∀ l e b', β' l e = some b' → b' = b ∨ β l e = some b' := by
  obtain ⟨arr, el, h1, h2, h3, h4, h5, h6⟩ := h
  let β2 : Beta := fun l e => if l = 0 ∧ e = d then some b else β l e
  have hβ0 : ∀ b', β 0 d ≠ some b' := fun b' hh => by
    obtain ⟨c', hc'⟩ := r.mem.keys 0 d b' hh
    have : lookC S.ce d = some c' := hc'
    rw [hd] at this; cases this
  have hβ : ∀ l e b', β l e = some b' → β2 l e = some b' := fun l e b' hh => by
    show (if _ then _ else _) = _
    rw [if_neg]; exact hh
    rintro ⟨rfl, rfl⟩; exact hβ0 _ hh
  have hinv : ∀ l e b', β2 l e = some b' → (l = 0 ∧ e = d ∧ b' = b) ∨ β l e = some b' := fun l e b' hh => by
    have hh : (if l = 0 ∧ e = d then some b else β l e) = some b' := hh
    split at hh
    · rename_i q; exact .inl ⟨q.1, q.2, (Option.some.inj hh).symm⟩
    · exact .inr hh
  have hself : lookC ((d, c) :: S.ce) d = some c := by simp only [lookC]; rw [show Nat.beq d d = true from (beq_iff _ _).2 rfl]
  have hne : ∀ e, e ≠ d → lookC ((d, c) :: S.ce) e = lookC S.ce e := fun e he => by
    simp only [lookC]
    cases q : Nat.beq d e with
    | false => rfl
    | true => exact absurd ((beq_iff _ _).1 q).symm he
  refine ⟨β2, ⟨fun i => (r.tm i).mono (fun _ _ h => h) hβ (fun _ _ h => h), r.df, r.nt, ⟨fun l e cc hcc => ?_, fun l e l' e' b' k1 k2 => ?_, fun l e b' k1 => ?_, r.mem.im, r.mem.glo, r.mem.xb, r.mem.gz⟩,
    ⟨fun t g hg => ?_, r.own.inj⟩⟩, ⟨fun l => ?_, fun _ => rfl⟩, if_pos ⟨rfl, rfl⟩, hβ, fun l e b' hh => ?_⟩
  · have old : ∀ (l e : Nat) (cc : List IV), lookC (upC (S.ce :: S.up) l) e = some cc → ∃ b arr el, β2 l e = some b ∧ w.heap[b]? = some (.cells arr el (0, 0)) ∧ arr.size = cc.length ∧
      (∀ (j : Nat) (u : Value), arr[j]? = some u → u.oneCell' = true) ∧ (∀ j x, cc[j]? = some x → V I (fun l' => β2 (l + l')) (σ l) x (arr.getD j undef)) ∧ (∀ j, I ⟨b, j, none⟩ = none) ∧ ¬ X b := fun l e cc hcc => by
      obtain ⟨b', arr', el', g1, g2, g3, g4, g5, g6, g7⟩ := r.mem.cell l e cc hcc
      exact ⟨b', arr', el', hβ _ _ _ g1, g2, g3, g4, fun j x hx => (g5 j x hx).mono (fun _ _ h => h) (fun l' d' b'' h => hβ _ _ _ h) (fun _ _ h => h), g6, g7⟩
    cases l with
    | succ l => exact old (l + 1) e cc hcc
    | zero =>
      by_cases he : e = d
      · subst he
        have hcc : lookC ((e, c) :: S.ce) e = some cc := hcc
        rw [hself] at hcc
        cases hcc
        exact ⟨b, arr, el, if_pos ⟨rfl, rfl⟩, h1, h2, h3, fun j x hx => .data (h4 j x hx), h5, h6⟩
      · have hcc : lookC ((d, c) :: S.ce) e = some cc := hcc
        rw [hne e he] at hcc
        exact old 0 e cc hcc
  · rcases hinv _ _ _ k1 with ⟨rfl, rfl, rfl⟩ | h1' <;> rcases hinv _ _ _ k2 with ⟨rfl, rfl, q⟩ | h2'
    · exact ⟨rfl, rfl⟩
    · exact absurd h2' (hb _ _)
    · subst q; exact absurd h1' (hb _ _)
    · exact r.mem.inj _ _ _ _ _ h1' h2'
  · rcases hinv _ _ _ k1 with ⟨rfl, rfl, rfl⟩ | h1'
    · exact ⟨c, hself⟩
    · obtain ⟨c', hc'⟩ := r.mem.keys l e b' h1'
      cases l with
      | succ l => exact ⟨c', hc'⟩
      | zero =>
        by_cases he : e = d
        · subst he; exact absurd h1' (hβ0 _)
        · exact ⟨c', (hne e he).trans hc'⟩
  · obtain ⟨cur, k1, k2, k3, k4, k5, k6, k7⟩ := r.own.row t g hg
    refine ⟨cur, k1, k2, k3, k4, k5, k6, fun l e hh => ?_⟩
    rcases hinv _ _ _ hh with ⟨_, _, q⟩ | hh
    · exact hs t g hg q
    · exact k7 l e hh
  · funext e
    show (if _ then _ else _) = _
    rw [if_neg (by omega)]
  · rcases hinv _ _ _ hh with ⟨_, _, q⟩ | hh
    · exact .inl q
    · exact .inr hh
theorem Rel.addCells : ∀ (ks : List Nat) (cs : List (List IV)) (bs : List Nat) {S : St} {β : Beta}, Rel Γ S a w I X β σ → ks.length = cs.length → bs.length = cs.length → bs.Nodup →
    (∀ (i b : Nat) c, bs[i]? = some b → cs[i]? = some c → OwnC w I X b c ∧ ∀ l d, β l d ≠ some b) → (∀ b ∈ bs, ∀ t g, σ 0 t = some g → g.b ≠ b) → freshB S.ce ks = true →
    ∃ β', Rel Γ ⟨S.tm, addC ks cs S.ce, S.up⟩ a w I X β' σ ∧ Above β β' σ σ ∧ (∀ l e b, β l e = some b → β' l e = some b) ∧ (∀ (i k b : Nat), ks[i]? = some k → bs[i]? = some b → β' 0 k = some b) ∧ ∀ l e b', β' l e = some b' → b' ∈ bs ∨ β l e = some b'
  | [], [], [], S, β, r, _, _, _, _, _, _ => ⟨β, r, .refl _ _, fun _ _ _ h => h, (fun i k b h => by simp at h), fun _ _ _ h => .inr h⟩
  | k :: ks, c :: cs, b :: bs, S, β, r, h1, h2, hn, hc, hs, hf => by
    simp only [freshB, Bool.and_eq_true, Bool.not_eq_true'] at hf
    obtain ⟨f1, f2, f3⟩ := hf
    obtain ⟨hn1, hn2⟩ := List.nodup_cons.1 hn
    obtain ⟨β1, r1, a1, m1, p1, z1⟩ := Rel.addCells ks cs bs r (by simpa using h1) (by simpa using h2) hn2 (fun i b' c' e1 e2 => hc (i + 1) b' c' (by simpa using e1) (by simpa using e2)) (fun b' hb' => hs b' (by simp [hb'])) f3
    have hkey : lookC (addC ks cs S.ce) k = none := by
      have hk0 : lookC S.ce k = none := by
        cases q : lookC S.ce k with
        | none => rfl
        | some x => have := hasKey_iff.2 ⟨x, q⟩; rw [f1] at this; cases this
      have : ∀ (ks : List Nat) (cs : List (List IV)), hasN ks k = false → lookC (addC ks cs S.ce) k = none := by
        intro ks
        induction ks with
        | nil => intro cs _; cases cs <;> exact hk0
        | cons x ks ih =>
          intro cs hx
          cases cs with
          | nil => exact hk0
          | cons c cs =>
            simp only [hasN] at hx
            simp only [addC, lookC]
            cases q : Nat.beq x k with
            | true => rw [q] at hx; cases hx
            | false => rw [q] at hx; exact ih cs hx
      exact this ks cs f2
    have hnb : ∀ l d, β1 l d ≠ some b := fun l d hh => by
      rcases z1 _ _ _ hh with q | q
      · exact hn1 q
      · exact (hc 0 b c rfl rfl).2 l d q
    obtain ⟨β2, r2, a2, q2, m2, z2⟩ := r1.addCell (d := k) (hc 0 b c rfl rfl).1 hnb (hs b (by simp)) hkey
    refine ⟨β2, r2, a1.trans a2, fun l e b' hh => m2 _ _ _ (m1 _ _ _ hh), fun i k' b' e1 e2 => ?_, fun l e b' hh => ?_⟩
    · cases i with
      | zero => simp at e1 e2; subst e1; subst e2; exact q2
      | succ i => exact m2 _ _ _ (p1 i k' b' (by simpa using e1) (by simpa using e2))
    · rcases z2 _ _ _ hh with q | q
      · exact .inl (by simp [q])
      · rcases z1 _ _ _ q with q | q
        · exact .inl (by simp [q])
        · exact .inr q
theorem ptrsI_get : ∀ {ks : List Nat} {j : Nat} {x : IV}, (ptrsI ks)[j]? = some x → ∃ k, ks[j]? = some k ∧ x = .ptr 0 k 0
  | [], j, x, h => by simp [ptrsI] at h
  | k :: ks, 0, x, h => by simp [ptrsI] at h; exact ⟨k, rfl, h.symm⟩
  | k :: ks, j + 1, x, h => by simp only [ptrsI, List.getElem?_cons_succ] at h; simpa using ptrsI_get h
theorem ptrsI_len : ∀ (ks : List Nat), (ptrsI ks).length = ks.length
  | [] => rfl
  | k :: ks => by simp [ptrsI, ptrsI_len ks]
theorem call_own {C : Con} (hC : HCC C Γ.P Γ.gl) (o : Oper) (c : Call) (x : Operand) (ho : o.op = .call c) (hc : c.callee = .value x)
    {g : Nat} {first captured : List IV} (hx : evo Γ S x = .fn g first captured) (r : Rel Γ S a w I X β σ) (Q : Exit → Act → World → Prop)
    (ks : List Nat) (args' : List IV) (k : Nat) (cs : List (List IV)) (hle : leL (shiftL (first ++ evoL Γ S c.args.toList ++ captured)) args') (h : C.o g args' k cs) (hl : ks.length = cs.length) (hf : freshB S.ce ks = true)
    (hk : untagO o.dst ⟨S.tm, addC ks cs S.ce, S.up⟩ fun S' => fv (.fn k [] (ptrsI ks)) fun r => putT Γ S' o.dst r K) : o.wp Γ.P a w (Aft Γ K I X w β σ) Q := by
  obtain ⟨⟨fn, code, hfn, hbody, hname⟩, hcomp⟩ := hC.2.1 _ _ _ _ h
  obtain ⟨vals, hrun, hsize, hargs⟩ := call_run o c x ho hc hx r hfn hbody hname
  obtain ⟨hle1, hle2⟩ := leL_sound _ _ hle (fun j => vals.getD j undef) hargs
  have hmem' : MemR Γ.gl (S.ce :: S.up) w I (fence X (σ 0)) β σ := by
    refine ⟨fun l d c hc => ?_, r.mem.inj, r.mem.keys, r.mem.im, r.mem.glo, fun b hb => ?_, r.mem.gz⟩
    · obtain ⟨b, arr, el, h1, h2, h3, h4, h5, h6, h7⟩ := r.mem.cell l d c hc
      refine ⟨b, arr, el, h1, h2, h3, h4, h5, h6, fun hx => ?_⟩
      rcases hx with hx | ⟨t, g, hg, hb⟩
      · exact h7 hx
      · obtain ⟨cur, _, _, _, _, _, _, k7⟩ := r.own.row t g hg
        exact k7 l d (hb ▸ h1)
    · rcases hb with hb | ⟨t, g, hg, rfl⟩
      · exact r.mem.xb b hb
      · obtain ⟨cur, k1, _⟩ := r.own.row t g hg
        exact heap_lt k1
  have hcalls := hcomp (S.ce :: S.up) vals w I (fence X (σ 0)) β σ hmem' (by rw [← hle1]; exact hsize) hle2
  unfold Oper.wp
  rw [hrun]
  simp only [Oper.upon_enter]
  refine hcalls.mono fun e w' ⟨bs, I', he, hbl, hnd, hcells, hmem2, hext⟩ => ?_
  subst he
  simp only
  have r1 : Rel Γ S a w' I' X β σ := by
    refine ⟨fun i => (r.tm i).mono hext.imm (fun _ _ _ h => h) (fun _ _ h => h), r.df.to hext.fix (fun _ _ h => h), r.nt, hmem2.sub (fun b hb => .inl hb), ⟨fun t g hg => ?_, r.own.inj⟩⟩
    obtain ⟨cur, k1, k2, k3, k4, k5, k6, k7⟩ := r.own.row t g hg
    refine ⟨cur, by rw [hext.keep g.b (.inr ⟨t, g, hg, rfl⟩)]; exact k1, k2, k3, k4, fun j hj => ?_, k6, k7⟩
    rw [hext.new ⟨g.b, j, none⟩ (.inr ⟨t, g, hg, rfl⟩)]; exact k5 j hj
  have hext' : Ext I X w I' w' := hext.sub (fun b hb => .inl hb)
  have hfen : ∀ b ∈ bs, ¬ fence X (σ 0) b := fun b hb => by
    obtain ⟨i, hi⟩ := List.mem_iff_getElem?.1 hb
    have hlt := (List.getElem?_eq_some_iff.1 hi).1
    obtain ⟨⟨_, _, _, _, _, _, _, q⟩, _⟩ := hcells i b _ hi (List.getElem?_eq_getElem (by omega : i < cs.length))
    exact q
  obtain ⟨β2, r2, a2, m2, p2, _⟩ := r1.addCells ks cs bs hl hbl hnd (fun i b c e1 e2 => by
    obtain ⟨⟨arr, el, q1, q2, q3, q4, q5, q6⟩, q7⟩ := hcells i b c e1 e2
    exact ⟨⟨arr, el, q1, q2, q3, q4, q5, fun hx => q6 (.inl hx)⟩, q7⟩) (fun b hb t g hg e => hfen b hb (.inr ⟨t, g, hg, e⟩)) hf
  have hv : ∀ s2 : Sig, V I' β2 s2 (.fn k [] (ptrsI ks)) (.func (.func k) #[] (bs.map ptrV).toArray) := fun s2 => by
    refine .fn k [] _ #[] _ rfl (by simp [ptrsI_len]; omega) (fun j x h => by simp at h) fun j x h => ?_
    obtain ⟨kk, h1, rfl⟩ := ptrsI_get h
    have hj := (List.getElem?_eq_some_iff.1 h1).1
    have hb : bs[j]? = some bs[j] := List.getElem?_eq_getElem (by omega)
    have := p2 j kk _ h1 hb
    have e : (bs.map ptrV).toArray.getD j undef = ptrV bs[j] := by
      rw [Array.getD_eq_getD_getElem?]; simp [hb]
    rw [e]
    exact .ptr 0 kk 0 _ this
  cases hd : o.dst with
  | none =>
    rw [hd] at hk
    simp only [untagO, fv_eq] at hk
    obtain ⟨S', hk', r3⟩ := putT_sound hk r2 (hv _)
    exact ⟨S', I', β2, σ, hk', r3, hext', a2⟩
  | some d =>
    rw [hd] at hk
    simp only [untagO, fv_eq] at hk
    obtain ⟨S2, hk2, r3, _, _⟩ := untag_sound hk r2
    obtain ⟨S', hk', r4⟩ := putT_sound hk2 r3 (hv _)
    exact ⟨S', I', β2, _, hk', r4, hext', a2.trans (.setSig β2 σ _)⟩
theorem call_lend {C : Con} (hC : HCC C Γ.P Γ.gl) (o : Oper) (c : Call) (x : Operand) (ho : o.op = .call c) (hc : c.callee = .value x)
    {g : Nat} {first captured : List IV} (hx : evo Γ S x = .fn g first captured) (r : Rel Γ S a w I X β σ) (Q : Exit → Act → World → Prop)
    (dd : Nat) (c0 c' rest : List IV) (hle : leL (shiftL (first ++ evoL Γ S c.args.toList ++ captured)) (.ptr 1 dd 0 :: rest)) (hr : noPtrL rest = true) (hc0 : lookC S.ce dd = some c0) (hn : noPtrL c0 = true) (hn' : noPtrL c' = true)
    (h : C.l g dd c0 (noOwnL rest) c') (ht : (freeTm (tagsL c0 ++ tagsL c') S.tm && freeCe (tagsL c0 ++ tagsL c') dd S.ce) = true)
    (hk : untagO o.dst ⟨S.tm, putC S.ce dd c', S.up⟩ fun S' => fv (.tup []) fun r => putT Γ S' o.dst r K) : o.wp Γ.P a w (Aft Γ K I X w β σ) Q := by
  obtain ⟨⟨fn, code, hfn, hbody, hname⟩, hcomp⟩ := hC.2.2 _ _ _ _ _ h
  obtain ⟨vals, hrun, hsize, hargs⟩ := call_run o c x ho hc hx r hfn hbody hname
  obtain ⟨hle1, hle2⟩ := leL_sound _ _ hle (fun j => vals.getD j undef) hargs
  simp only [Bool.and_eq_true] at ht
  obtain ⟨b0, hv0, hβ⟩ := (hle2 0 _ rfl).ptr_inv
  have hβ : β 0 dd = some b0 := hβ
  obtain ⟨X1, s, m1, o1, back⟩ := lend_rel r hc0 hβ hn hn' ht.1 ht.2
  have hcalls := hcomp b0 vals w I X1 s m1 o1 (by rw [noOwnL_eq, List.length_map, ← hsize, hle1]; rfl) hv0 (fun j y hy => by
    rw [noOwnL_eq] at hy
    obtain ⟨z, hz, rfl⟩ := map_get hy
    exact (hle2 (j + 1) z (by simpa using hz)).data' (noPtrL_get hr j z hz))
  unfold Oper.wp
  rw [hrun]
  simp only [Oper.upon_enter]
  refine hcalls.mono fun e w' ⟨I', s', he, m2, o2, ex⟩ => ?_
  subst he
  simp only
  obtain ⟨σ', r2, ex2, ab⟩ := back w' I' s' m2 o2 ex
  have hv : ∀ (β2 : Beta) (s2 : Sig), V I' β2 s2 (.tup []) (.tuple #[]) := fun β2 s2 => .tup [] #[] rfl (fun j x h => by simp at h)
  cases hd : o.dst with
  | none =>
    rw [hd] at hk
    simp only [untagO, fv_eq] at hk
    obtain ⟨S', hk', r3⟩ := putT_sound hk r2 (hv _ _)
    exact ⟨S', I', β, σ', hk', r3, ex2, ab⟩
  | some d =>
    rw [hd] at hk
    simp only [untagO, fv_eq] at hk
    obtain ⟨S2, hk2, r3, _, _⟩ := untag_sound hk r2
    obtain ⟨S', hk', r4⟩ := putT_sound hk2 r3 (hv _ _)
    exact ⟨S', I', β, _, hk', r4, ex2, ab.trans (.setSig β σ' _)⟩
theorem call_sound {C : Con} (hC : HCC C Γ.P Γ.gl) (o : Oper) (c : Call) (x : Operand) (ho : o.op = .call c) (hc : c.callee = .value x)
    {g : Nat} {first captured : List IV} (hx : evo Γ S x = .fn g first captured)
    (h : CALL C g S (shiftL (first ++ evoL Γ S c.args.toList ++ captured)) o.dst fun r S' => untagO o.dst S' fun S' => fv r fun r => putT Γ S' o.dst r K)
    (r : Rel Γ S a w I X β σ) (Q : Exit → Act → World → Prop) : o.wp Γ.P a w (Aft Γ K I X w β σ) Q := by
  cases h with
  | mk args' r0 r' ce up hle h hr hk => exact call_sound0 hC o c x ho hc hx ⟨S.tm, args', r0, r', ce, up, hle, h, hr, fun _ => .inr rfl, hk⟩ r Q
  | cut ks args' r0 r' ce up hle h hr hk =>
    rw [fpsK_eq] at hk
    exact call_sound0 hC o c x ho hc hx ⟨keepT ks S.tm, args', r0, r', ce, up, hle, h, hr, keepT_look ks S.tm, hk⟩ r Q
  | thaw ks dd hd xs e n z f hle hxs hi hpos h hn hk => exact call_thaw hC o c x ho hc hx r Q ks dd hd xs e n z f hle hxs hi hpos h hn (fun m cc bb => by have := hk m cc bb; rw [fpsK_eq] at this; exact this)
  | own ks args' k cs hle h hl hf hk => exact call_own hC o c x ho hc hx r Q ks args' k cs hle h hl hf hk
  | lend dd c0 c' rest hle hr hc0 hn hn' h ht hk => exact call_lend hC o c x ho hc hx r Q dd c0 c' rest hle hr hc0 hn hn' h ht hk
theorem calls_sound {C : Con} (hT : TOK Γ.P Γ.T) (hC : HCC C Γ.P Γ.gl) (o : Oper) (c : Call) (hy : ∀ x v, c.callee = .value x → evo Γ S x = .lit v → Γ.yld = none) (ho : o.op = .call c)
    (h : calls C Γ S o c K) (r : Rel Γ S a w I X β σ) (Q : Exit → Act → World → Prop) : o.wp Γ.P a w (Aft Γ K I X w β σ) Q := by
  unfold calls at h
  split at h
  · rename_i x hc
    split at h
    · rename_i g first captured hx
      rw [fvL_eq] at h
      exact call_sound hC o c x ho hc hx h r Q
    · rename_i hx
      rw [hy _ _ hc hx] at h
      split at h
      · rename_i h1; cases h1
      · exact h.elim
    · exact h.elim
  · rename_i b hc
    rw [fvL_eq, evoL_eq] at h
    have hrun : ∀ {v : Value} {w' : World}, (builtin b c.argTypes o.type (c.args.map fun | .const _ => true | _ => false) (c.args.map a.eval)).run Γ.P w = .ok (.value v) w' → (execOp a.eval o).run Γ.P w = .ok (.value v) w' := by
      intro v w' h
      simp only [execOp, ho, resolve, hc, Sem.run_bind, Sem.run_pure, Result.andThen_ok, invoke]
      exact h
    split at h
    · rename_i x hxs
      split at h
      · rename_i t ht
        obtain ⟨y, hy⟩ : ∃ y, c.args.toList = [y] := by
          cases hl : c.args.toList with
          | nil => simp [hl] at hxs
          | cons y l => cases l with
            | nil => exact ⟨y, rfl⟩
            | cons z l => simp [hl] at hxs
        have hargs : c.args = #[y] := by rw [← Array.toArray_toList (xs := c.args), hy]
        have htys : c.argTypes = #[t] := by rw [← Array.toArray_toList (xs := c.argTypes), ht]
        have hxy : evo Γ S y = x := by simpa [hy] using hxs
        have hv := evo_V r y
        rw [hxy] at hv
        split at h
        · rename_i e oo e' n f hk
          obtain ⟨inf, d, z, tk⟩ := TOK.get hT (t := t) (.inr (by rw [hk]; simp))
          have kd := tk.kind
          rw [hk] at kd
          obtain ⟨rfl, he⟩ := kd
          have hval : ∃ bs cp, a.eval y = .slice bs n cp := by
            rcases hv.lst_inv with ⟨px, h1, rfl⟩ | ⟨b, off, c, g, h1, _⟩
            · exact ⟨_, _, h1⟩
            · exact ⟨_, _, h1⟩
          obtain ⟨bs, cp, hval⟩ := hval
          exact wp_val (v := .int .i64 n) (hrun (by simp [builtin, Builtin.len_, hargs, htys, run_underlying tk.und, hval, goInt])) (put_aft h r (.data (.int _ _)))
        · rename_i e hk
          obtain ⟨inf, d, z, tk⟩ := TOK.get hT (t := t) (.inr (by rw [hk]; simp))
          have kd := tk.kind
          rw [hk] at kd
          obtain ⟨rfl, he⟩ := kd
          obtain ⟨px, hpx⟩ := hv.nilS_inv
          exact wp_val (v := .int .i64 0) (hrun (by simp [builtin, Builtin.len_, hargs, htys, run_underlying tk.und, hpx, goInt])) (put_aft h r (.data (.int _ _)))
        · rename_i e d' e' n _ _ hk
          obtain ⟨inf, d, z, tk⟩ := TOK.get hT (t := t) (.inr (by rw [hk]; simp))
          have kd := tk.kind
          rw [hk] at kd
          obtain ⟨rfl, he⟩ := kd
          obtain ⟨b, cp, hvx, _, _⟩ := hv.row_inv
          exact wp_val (v := .int .i64 n) (hrun (by simp [builtin, Builtin.len_, hargs, htys, run_underlying tk.und, hvx, goInt])) (put_aft h r (.data (.int _ _)))
        · rename_i s hk
          obtain ⟨inf, d, z, tk⟩ := TOK.get hT (t := t) (.inr (by rw [hk]; simp))
          have kd := tk.kind
          rw [hk] at kd
          subst kd
          exact wp_val (v := .int .i64 s.size) (hrun (by simp [builtin, Builtin.len_, hargs, htys, run_underlying tk.und, hv.str_inv, goInt])) (put_aft h r (.data (.int _ _)))
        · exact h.elim
      · exact h.elim
    · rename_i x y us hxs
      obtain ⟨p, q, l, hl, hp, hq, hus⟩ : ∃ p q l, c.args.toList = p :: q :: l ∧ evo Γ S p = x ∧ evo Γ S q = y ∧ l.map (evo Γ S) = us := by
        cases hl : c.args.toList with
        | nil => simp [hl] at hxs
        | cons p l => cases l with
          | nil => simp [hl] at hxs
          | cons q l => simp [hl] at hxs; exact ⟨p, q, l, rfl, hxs.1, hxs.2.1, by simpa using hxs.2.2⟩
      have hargs : c.args = (p :: q :: l).toArray := by rw [← Array.toArray_toList (xs := c.args), hl]
      have hvp := evo_V r p
      have hvq := evo_V r q
      have h : minI x y fun v => minL v us fun v => putT Γ S o.dst v K := h
      unfold minI at h
      split at h
      · rename_i k m k' m' _hz
        rw [hp] at hvp; rw [hq] at hvq
        obtain ⟨n, hn, hr⟩ := minL_run (P := Γ.P) w us (l.map a.eval) k _ h (by simp [← hus]) (fun j x hx => by
          rw [← hus, List.getElem?_map, Option.map_eq_some_iff] at hx
          obtain ⟨y, hy, rfl⟩ := hx
          have := evo_V r y
          exact ⟨_, by rw [List.getElem?_map, hy]; rfl, this⟩)
        exact wp_val (v := .int k n) (hrun (by simp [builtin, Builtin.min_, hargs, hvp.int_inv, hvq.int_inv, Builtin.min2]; rw [hr]; rfl)) (put_aft hn r (.data (.int _ _)))
      · exact h.elim
    · rename_i x y us hxs
      obtain ⟨p, q, l, hl, hp, hq, hus⟩ : ∃ p q l, c.args.toList = p :: q :: l ∧ evo Γ S p = x ∧ evo Γ S q = y ∧ l.map (evo Γ S) = us := by
        cases hl : c.args.toList with
        | nil => simp [hl] at hxs
        | cons p l => cases l with
          | nil => simp [hl] at hxs
          | cons q l => simp [hl] at hxs; exact ⟨p, q, l, rfl, hxs.1, hxs.2.1, by simpa using hxs.2.2⟩
      have hargs : c.args = (p :: q :: l).toArray := by rw [← Array.toArray_toList (xs := c.args), hl]
      have hvp := evo_V r p
      have hvq := evo_V r q
      have h : maxI x y fun v => maxL v us fun v => putT Γ S o.dst v K := h
      unfold maxI at h
      split at h
      · rename_i k m k' m' _hz
        rw [hp] at hvp; rw [hq] at hvq
        obtain ⟨n, hn, hr⟩ := maxL_run (P := Γ.P) w us (l.map a.eval) k _ h (by simp [← hus]) (fun j x hx => by
          rw [← hus, List.getElem?_map, Option.map_eq_some_iff] at hx
          obtain ⟨y, hy, rfl⟩ := hx
          have := evo_V r y
          exact ⟨_, by rw [List.getElem?_map, hy]; rfl, this⟩)
        exact wp_val (v := .int k n) (hrun (by simp [builtin, Builtin.max_, hargs, hvp.int_inv, hvq.int_inv, Builtin.max2]; simp only [gt_iff_lt] at hr; rw [hr]; rfl)) (put_aft hn r (.data (.int _ _)))
      · exact h.elim
    · rename_i k a0 b0 hxs
      obtain ⟨y, hl⟩ : ∃ y, c.args.toList = [y] := by
        cases hl : c.args.toList with
        | nil => simp [hl] at hxs
        | cons y l => cases l with
          | nil => exact ⟨y, rfl⟩
          | cons z l => simp [hl] at hxs
      have hargs : c.args = #[y] := by rw [← Array.toArray_toList (xs := c.args), hl]
      have hxy : evo Γ S y = .lit (.complex k a0 b0) := by simpa [hl] using hxs
      have hv := evo_V r y
      rw [hxy] at hv
      exact wp_val (v := .float k a0) (hrun (by simp [builtin, hargs, hv.lit_inv, run_real])) (put_aft h r (.data (.lit _ rfl)))
    · rename_i k a0 b0 hxs
      obtain ⟨y, hl⟩ : ∃ y, c.args.toList = [y] := by
        cases hl : c.args.toList with
        | nil => simp [hl] at hxs
        | cons y l => cases l with
          | nil => exact ⟨y, rfl⟩
          | cons z l => simp [hl] at hxs
      have hargs : c.args = #[y] := by rw [← Array.toArray_toList (xs := c.args), hl]
      have hxy : evo Γ S y = .lit (.complex k a0 b0) := by simpa [hl] using hxs
      have hv := evo_V r y
      rw [hxy] at hv
      exact wp_val (v := .float k b0) (hrun (by simp [builtin, hargs, hv.lit_inv, run_imag])) (put_aft h r (.data (.lit _ rfl)))
    · rename_i k a0 k' b0 hxs
      obtain ⟨p, q, hl, hp, hq⟩ : ∃ p q, c.args.toList = [p, q] ∧ evo Γ S p = .lit (.float k a0) ∧ evo Γ S q = .lit (.float k' b0) := by
        cases hl : c.args.toList with
        | nil => simp [hl] at hxs
        | cons p l => cases l with
          | nil => simp [hl] at hxs
          | cons q l => cases l with
            | nil => simp [hl] at hxs; exact ⟨p, q, rfl, hxs.1, hxs.2⟩
            | cons z l => simp [hl] at hxs
      have hargs : c.args = #[p, q] := by rw [← Array.toArray_toList (xs := c.args), hl]
      have hvp := evo_V r p
      have hvq := evo_V r q
      rw [hp] at hvp
      rw [hq] at hvq
      split at h
      · rename_i hk
        have hk := of_decide_eq_true hk
        subst hk
        exact wp_val (v := .complex k a0 b0) (hrun (by simp [builtin, hargs, hvp.lit_inv, hvq.lit_inv, run_complex])) (put_aft h r (.data (.lit _ rfl)))
      · exact h.elim
    · rename_i t e n x hxs
      obtain ⟨p, q, hl, hp, hq⟩ : ∃ p q, c.args.toList = [p, q] ∧ evo Γ S p = .raw t e n ∧ evo Γ S q = x := by
        cases hl : c.args.toList with
        | nil => simp [hl] at hxs
        | cons p l => cases l with
          | nil => simp [hl] at hxs
          | cons q l => cases l with
            | nil => simp [hl] at hxs; exact ⟨p, q, rfl, hxs.1, hxs.2⟩
            | cons z l => simp [hl] at hxs
      have hargs : c.args = #[p, q] := by rw [← Array.toArray_toList (xs := c.args), hl]
      split at h
      · rename_i ty sT ht
        split at h
        · rename_i el hk
          split at h
          · rename_i he
            have he := (beq_iff _ _).1 he
            have htys : c.argTypes = #[ty, sT] := by rw [← Array.toArray_toList (xs := c.argTypes), ht]
            obtain ⟨w', hr, haft⟩ := copyI_sound (rty := o.type) (sT := sT) hT hk he h r (hp ▸ evo_V r p) (hq ▸ evo_V r q)
            refine wp_val (v := .int .i64 n) (w' := w') (hrun ?_) haft
            simp [builtin, hargs, htys, hr]
          · exact h.elim
        · exact h.elim
      · exact h.elim
    · rename_i x y hxs
      obtain ⟨p, q, hl, hp, hq⟩ : ∃ p q, c.args.toList = [p, q] ∧ evo Γ S p = x ∧ evo Γ S q = y := by
        cases hl : c.args.toList with
        | nil => simp [hl] at hxs
        | cons p l => cases l with
          | nil => simp [hl] at hxs
          | cons q l => cases l with
            | nil => simp [hl] at hxs; exact ⟨p, q, rfl, hxs.1, hxs.2⟩
            | cons z l => simp [hl] at hxs
      have hargs : c.args = #[p, q] := by rw [← Array.toArray_toList (xs := c.args), hl]
      split at h
      · rename_i d t t' hd ht
        split at h
        · rename_i e htt hk
          have htt := (beq_iff _ _).1 htt
          subst htt
          have htys : c.argTypes = #[t, t] := by rw [← Array.toArray_toList (xs := c.argTypes), ht]
          obtain ⟨v, w', hr, haft⟩ := appendI_sound (ty := o.type) hT hk h r (hp ▸ evo_V r p) (hq ▸ evo_V r q)
          refine wp_val (v := v) (w' := w') (hrun ?_) (by rw [hd]; exact haft)
          simp [builtin, hargs, htys, hr]
        · exact h.elim
      · exact h.elim
    · exact h.elim
  · exact h.elim
theorem iop_all' {C : Con} (hT : TOK Γ.P Γ.T) (hC : HCC C Γ.P Γ.gl) (o : Oper) (hy : ∀ c x v, o.op = .call c → c.callee = .value x → evo Γ S x = .lit v → Γ.yld = none) (h : iop C Γ S o K) (r : Rel Γ S a w I X β σ)
    (Q : Exit → Act → World → Prop) : o.wp Γ.P a w (Aft Γ K I X w β σ) Q := by
  by_cases hc : ∃ c, o.op = .call c
  · obtain ⟨c, hc⟩ := hc
    refine calls_sound hT hC o c (fun x v => hy c x v hc) hc ?_ r Q
    unfold iop at h
    rw [hc] at h
    exact h
  · exact iop_sound hT o (fun c e => hc ⟨c, e⟩) h r Q
theorem iop_all {C : Con} (hT : TOK Γ.P Γ.T) (hC : HC C Γ) (o : Oper) (h : iop C Γ S o K) (r : Rel Γ S a w I X β σ)
    (Q : Exit → Act → World → Prop) : o.wp Γ.P a w (Aft Γ K I X w β σ) Q := iop_all' hT hC.1 o (fun _ _ _ _ _ _ => hC.2) h r Q
end
end Go.Proofs.YtfoenhiohhmnlaaGreatDoor.Ix

namespace Go.Proofs.YtfoenhiohhmnlaaGreatDoor.Ix
set_option linter.unusedVariables false
section
variable {Γ : Env} {S : St} {a : Act} {w : World} {I : Imm} {X : Nat → Prop} {β : Beta} {σ : Nat → Sig} {K : St → Prop}
theorem dstOf_eq : ∀ (l : List Oper) (j : Nat), dstOf l j = (l[j]?).bind (·.dst)
  | [], j => by simp [dstOf]
  | o :: r, 0 => by simp [dstOf]
  | o :: r, n + 1 => by simp [dstOf, dstOf_eq r n]
theorem Rel.tell (r : Rel Γ S a w I X β σ) {t : Nat} {v : IV} (hv : V I β (σ 0) v (a.tmps.getD t undef)) : Rel Γ ⟨(t, v) :: S.tm, S.ce, S.up⟩ a w I X β σ := by
  refine ⟨fun i => ?_, r.df, r.nt, r.mem, r.own⟩
  simp only [look_cons]
  split
  · rename_i h; subst h; exact hv
  · exact r.tm i
theorem yielded_of {ops : Array Oper} {j t : Nat} {b : Bool} {tmps : Array Value} (hd : dstOf ops.toList j = some t) (hv : tmps.getD t undef = .bool b) : yielded ops tmps j = some b := by
  rw [dstOf_eq] at hd
  simp only [Array.getElem?_toList] at hd
  unfold yielded
  rw [hd]
  have hlt : t < tmps.size := by
    rcases Nat.lt_or_ge t tmps.size with h | h
    · exact h
    · simp [Array.getD_eq_getD_getElem?, Array.getElem?_eq_none h, undef] at hv
  have : tmps[t]? = some (.bool b) := by
    rw [Array.getElem?_eq_getElem hlt]
    simpa [hlt] using hv
  simp [this]
theorem D.und {I : Imm} : D I (.tup []) undef := .tup [] #[] rfl (fun j x h => by simp at h)
theorem V.und_inv {I : Imm} {β : Beta} {s : Sig} {v : Value} (h : V I β s (.tup []) v) : v = undef := by
  obtain ⟨vs, rfl, h1, _⟩ := h.tup_inv
  have : vs = #[] := Array.eq_empty_of_size_eq_zero h1.symm
  rw [this]; rfl
theorem yielded_und {ops : Array Oper} {j t : Nat} {tmps : Array Value} (hd : dstOf ops.toList j = some t) (hv : tmps.getD t undef = undef) : yielded ops tmps j = none := by
  rw [dstOf_eq] at hd
  simp only [Array.getElem?_toList] at hd
  unfold yielded
  rw [hd]
  simp only [Option.bind_some]
  cases ht : tmps[t]? with
  | none => rfl
  | some x =>
    have : x = undef := by rw [Array.getD_eq_getD_getElem?, ht] at hv; exact hv
    rw [this]; rfl
def iop1 (C : Con) (Γ : Env) (all : List Oper) (o : Oper) (K : St → Prop) (S : St) : Prop :=
  match o.guard with
  | none => iop C Γ S o K
  | some (j, want) => match dstOf all j with
    | none => False
    | some t => match look S.tm t with
      | .bool b => brk b fun b => putT Γ S (some t) (.bool b) fun S => match want, b with
        | true, true | false, false => iop C Γ S o K
        | _, _ => putT Γ S o.dst (.tup []) K
      | .tup [] => putT Γ S o.dst (.tup []) K
      | _ => False
theorem iops_cons {C : Con} {all r : List Oper} {o : Oper} : iops C Γ all (o :: r) K S = iop1 C Γ all o (fun S' => iops C Γ all r K S') S := rfl
theorem brk_spec {b : Bool} {k : Bool → Prop} (h : brk b k) : k b := by cases b <;> exact h
theorem iop1_sound {C : Con} (hT : TOK Γ.P Γ.T) (hC : HC C Γ) {ops : Array Oper} (o : Oper)
    (h : iop1 C Γ ops.toList o K S) (r : Rel Γ S a w I X β σ) (Q : Exit → Act → World → Prop) :
    if Region.wanted o (yielded ops a.tmps) then o.wp Γ.P a w (Aft Γ K I X w β σ) Q else Aft Γ K I X w β σ (a.put o.dst undef) w := by
  unfold iop1 at h
  split at h
  · rename_i hg
    have : Region.wanted o (yielded ops a.tmps) = true := by simp [Region.wanted, hg]
    rw [if_pos this]
    exact iop_all hT hC o h r Q
  · rename_i j want hg
    split at h
    · exact h.elim
    · rename_i t hd
      split at h
      · rename_i b hb
        have hv := r.tm t
        rw [hb] at hv
        have hval := hv.bool_inv
        have hy := yielded_of hd hval
        have h := brk_spec h
        simp only [putT] at h
        split at h
        · have r' := r.tell (t := t) (v := .bool b) (by rw [hval]; exact .data (.bool b))
          cases want <;> cases b <;> simp only at h
          · have : Region.wanted o (yielded ops a.tmps) = true := by simp [Region.wanted, hg, hy]
            rw [if_pos this]; exact iop_all hT hC o h r' Q
          · have : ¬ Region.wanted o (yielded ops a.tmps) = true := by simp [Region.wanted, hg, hy]
            rw [if_neg this]
            exact put_aft h r' (.data D.und)
          · have : ¬ Region.wanted o (yielded ops a.tmps) = true := by simp [Region.wanted, hg, hy]
            rw [if_neg this]
            exact put_aft h r' (.data D.und)
          · have : Region.wanted o (yielded ops a.tmps) = true := by simp [Region.wanted, hg, hy]
            rw [if_pos this]; exact iop_all hT hC o h r' Q
        · exact h.elim
      · rename_i hb
        have hv := r.tm t
        rw [hb] at hv
        have hy := yielded_und hd hv.und_inv
        have : ¬ Region.wanted o (yielded ops a.tmps) = true := by simp [Region.wanted, hg, hy]
        rw [if_neg this]
        exact put_aft h r (.data D.und)
      · exact h.elim
theorem Aft.trans {K K' : St → Prop} {I' : Imm} {w' : World} {β' : Beta} {σ' : Nat → Sig} {a'' : Act} {w'' : World} (he : Ext I X w I' w') (ha : Above β β' σ σ') (h : Aft Γ K I' X w' β' σ' a'' w'') : Aft Γ K I X w β σ a'' w'' :=
  let ⟨S', I2, β2, σ2, h1, h2, h3, h4⟩ := h
  ⟨S', I2, β2, σ2, h1, h2, he.trans h3, ha.trans h4⟩
end
end Go.Proofs.YtfoenhiohhmnlaaGreatDoor.Ix

namespace Go.Proofs.YtfoenhiohhmnlaaGreatDoor.Ix
set_option linter.unusedVariables false
set_option linter.unusedSimpArgs false
structure Alike (ts : List Nat) (S S' : St) : Prop where
  tm : ∀ t, t ∈ ts → look S.tm t = look S'.tm t
  ce : S.ce = S'.ce
  up : S.up = S'.up
theorem mem_opTs {x : Operand} {t : Nat} : ∀ {l : List Operand}, x ∈ l → t ∈ opT x → t ∈ opTs l
  | y :: r, h, ht => by
    (try simp only [opTs, List.mem_append])
    rcases List.mem_cons.1 h with rfl | h
    · exact .inl ht
    · exact .inr (mem_opTs h ht)
section
variable {C : Con} {Γ : Env} {S S' : St}
theorem evo_alike {x : Operand} (h : ∀ t, t ∈ opT x → look S.tm t = look S'.tm t) : evo Γ S x = evo Γ S' x := by
  cases x <;> simp [evo]
  exact h _ (by simp [opT])
theorem evo_alikes {l : List Operand} {x : Operand} (hx : x ∈ l) (h : Alike (opTs l) S S') : evo Γ S x = evo Γ S' x :=
  evo_alike fun t ht => h.tm t (mem_opTs hx ht)
theorem evoL_alike {l : List Operand} (h : ∀ x ∈ l, evo Γ S x = evo Γ S' x) : evoL Γ S l = evoL Γ S' l := by
  rw [evoL_eq, evoL_eq]
  exact List.map_congr_left h
theorem buildI_alike {place : Nat → Option (Nat × Nat)} {K : List IV → Prop} : ∀ (parts : List (Nat × Operand)) (z : List IV), (∀ x ∈ parts.map (·.2), evo Γ S x = evo Γ S' x) → buildI Γ S place parts z K → buildI Γ S' place parts z K
  | [], z, _, h => h
  | (i, x) :: r, z, hx, h => by
    simp only [buildI, ev_eq] at h ⊢
    split at h
    · exact h.elim
    · rename_i off sz hp
      (try simp only [hp])
      rw [← hx x (by simp)]
      unfold cellsK at h ⊢
      split at h
      · rename_i c hc
        (try simp only [hc])
        split at h
        · rename_i hn
          (try simp only [hn])
          split at h
          · rename_i z' hz
            (try simp only [hz])
            exact buildI_alike r z' (fun y hy => hx y (by simp at hy ⊢; exact .inr hy)) h
          · exact h.elim
        · exact h.elim
      · exact h.elim
theorem loadI_alike {t : Ty} {p : IV} {K : IV → Prop} (hc : S.ce = S'.ce) (hu : S.up = S'.up) (h : loadI S t p K) : loadI S' t p K := by
  unfold loadI at h ⊢
  rw [hc, hu] at h
  exact h
theorem ival_alike {o : Oper} {K : IV → Prop} (h : Alike (opTs o.op.operands.toList) S S') (hv : ival Γ S o K) : ival Γ S' o K := by
  have he : ∀ x ∈ o.op.operands.toList, evo Γ S x = evo Γ S' x := fun x hx => evo_alikes hx h
  obtain ⟨dst, op, type, pos, after, guard⟩ := o
  cases op with
  | move x => simp only [ival, ev] at hv ⊢; rw [← he x (by simp [Op.operands])]; exact hv
  | assign x => simp only [ival, ev] at hv ⊢; rw [← he x (by simp [Op.operands])]; exact hv
  | pick c a b =>
    simp only [ival, ev] at hv ⊢
    rw [← he c (by simp [Op.operands]), ← he a (by simp [Op.operands]), ← he b (by simp [Op.operands])]; exact hv
  | build t parts =>
    have hp : ∀ x ∈ parts.toList.map (·.2), evo Γ S x = evo Γ S' x := fun x hx => he x (by simpa [Op.operands] using hx)
    simp only [ival] at hv ⊢
    split at hv
    · rename_i hk; (try simp only [hk]); exact buildI_alike _ _ hp hv
    · rename_i hk; (try simp only [hk]); exact buildI_alike _ _ hp hv
    · exact hv.elim
  | load t x =>
    simp only [ival] at hv ⊢
    unfold tyK at hv ⊢
    split at hv
    · rename_i hn; (try simp only [hn])
      rw [← he x (by simp [Op.operands])]
      exact loadI_alike h.ce h.up hv
    · exact hv.elim
  | nilCheck x => simp only [ival, ev] at hv ⊢; rw [← he x (by simp [Op.operands])]; exact hv
  | binOp op t x y e => simp only [ival] at hv ⊢; rw [← he x (by simp [Op.operands]), ← evoB_congr (he y (by simp [Op.operands]))]; exact hv
  | unOp op t x => simp only [ival] at hv ⊢; rw [← he x (by simp [Op.operands])]; exact hv
  | convert src d x => simp only [ival] at hv ⊢; rw [← he x (by simp [Op.operands])]; exact hv
  | fieldAddr s x i => simp only [ival] at hv ⊢; rw [← he x (by simp [Op.operands])]; exact hv
  | field s x i => simp only [ival] at hv ⊢; rw [← he x (by simp [Op.operands])]; exact hv
  | indexAddr s x i => simp only [ival] at hv ⊢; rw [← he x (by simp [Op.operands]), ← he i (by simp [Op.operands])]; exact hv
  | index s x i => simp only [ival] at hv ⊢; rw [← he x (by simp [Op.operands]), ← he i (by simp [Op.operands])]; exact hv
  | slice t x lo hi mx =>
    cases mx with
    | some m => simp [ival] at hv
    | none =>
      simp only [ival] at hv ⊢
      have h1 : lo.map (evo Γ S) = lo.map (evo Γ S') := by
        cases lo with
        | none => rfl
        | some y => (try simp only [Option.map_some]); rw [he y (by simp [Op.operands])]
      have h2 : hi.map (evo Γ S) = hi.map (evo Γ S') := by
        cases hi with
        | none => rfl
        | some y => (try simp only [Option.map_some]); rw [he y (by simp [Op.operands])]
      rw [← he x (by simp [Op.operands]), ← h1, ← h2]; exact hv
  | extract x i => simp only [ival] at hv ⊢; rw [← he x (by simp [Op.operands])]; exact hv
  | makeFunc fn first captured =>
    cases fn with
    | func f =>
      simp only [ival] at hv ⊢
      rw [← evoL_alike (S := S) (S' := S') (l := first.toList) (fun x hx => he x (by simp [Op.operands] at hx ⊢; exact .inl hx)),
        ← evoL_alike (S := S) (S' := S') (l := captured.toList) (fun x hx => he x (by simp [Op.operands] at hx ⊢; exact .inr hx))]
      exact hv
    | _ => simp [ival] at hv
  | lookup t x ix ok => simp only [ival] at hv ⊢; rw [← he x (by simp [Op.operands]), ← he ix (by simp [Op.operands])]; exact hv
  | _ => simp [ival] at hv
theorem pcall_alike {o : Oper} {c : Call} {K : IV → Prop} (h : Alike (opTs c.operands.toList) S S') (hv : pcall C Γ S o c K) : pcall C Γ S' o c K := by
  have he : ∀ x ∈ c.operands.toList, evo Γ S x = evo Γ S' x := fun x hx => evo_alikes hx h
  have ha : evoL Γ S c.args.toList = evoL Γ S' c.args.toList := evoL_alike fun x hx => he x (by simp [Call.operands] at hx ⊢; exact .inr hx)
  unfold pcall at hv ⊢
  rw [← ha]
  split at hv
  · rename_i f hf
    (try simp only [hf])
    rw [← he f (by simp [Call.operands, hf])]
    split at hv
    · rename_i g first captured hx
      (try simp only [hx])
      rw [fvL_eq] at hv ⊢
      obtain ⟨aa, r, r', h0, h1, h2, h3⟩ := hv
      rw [h.ce, h.up] at h1
      exact ⟨aa, r, r', h0, h1, h2, h3⟩
    · exact hv.elim
  · rename_i b hb
    (try simp only [hb]); exact hv
  · exact hv.elim
theorem pval_alike {o : Oper} {K : IV → Prop} (h : Alike (opTs o.op.operands.toList) S S') (hv : pval C Γ S o K) : pval C Γ S' o K := by
  unfold pval at hv ⊢
  split at hv
  · exact hv.elim
  · exact hv.elim
  · exact hv.elim
  · rename_i t len parts hop
    (try simp only [hop])
    have hp : ∀ x ∈ parts.toList.map (·.2), evo Γ S x = evo Γ S' x := fun x hx => evo_alikes (l := o.op.operands.toList) (by rw [hop]; simpa [Op.operands] using hx) h
    split at hv
    · rename_i e d hk hd
      (try simp only [hk, hd])
      split at hv
      · rename_i h1 h2
        (try simp only [h1, h2])
        exact buildI_alike _ _ hp hv
      · exact hv.elim
    · exact hv.elim
  · rename_i c hop
    (try simp only [hop])
    rw [hop] at h
    exact pcall_alike h hv
  · exact ival_alike h hv
theorem opTag_alike {d : Nat} : ∀ {l : List Operand}, (∀ t, t ∈ opTs l → look S.tm t = look S'.tm t) → opTag d S l = opTag d S' l
  | [], _ => rfl
  | .tmp t :: r, h => by
    (try simp only [opTag])
    rw [h t (by simp [opTs, opT]), opTag_alike (l := r) (fun u hu => h u (by simp [opTs, hu]))]
  | .const _ :: r, h | .global _ :: r, h | .func _ :: r, h => by
    (try simp only [opTag])
    exact opTag_alike (l := r) (fun u hu => h u (by simp [opTs, hu]))
theorem tagOK_alike {o : Oper} {v : IV} (h : ∀ t, t ∈ opTs o.op.operands.toList → look S.tm t = look S'.tm t) : ∀ (cr : List Nat), tagOK cr S o v = tagOK cr S' o v
  | [] => rfl
  | d :: r => by (try simp only [tagOK]); rw [opTag_alike h, tagOK_alike h r]
theorem chk_iff {b : Bool} {p : Prop} : chk b p ↔ b = true ∧ p := by cases b <;> simp [chk]
theorem part1_wit {ag : Bool} {off size : Nat} {xs : List IV} {K : IV → Prop} (h : part1 ag off size xs K) : ∃ v, K v ∧ ∀ K' : IV → Prop, K' v → part1 ag off size xs K' := by
  unfold part1 at h ⊢
  split at h
  · split at h
    · rename_i t ht; (try simp only [ht]); exact ⟨_, h, fun K' h => h⟩
    · exact h.elim
  · split at h
    · rename_i t ht; (try simp only [ht]); exact ⟨_, h, fun K' h => h⟩
    · exact h.elim
theorem buildI_wit {place : Nat → Option (Nat × Nat)} {K : List IV → Prop} : ∀ (parts : List (Nat × Operand)) (z : List IV), buildI Γ S place parts z K → ∃ v, K v ∧ ∀ K' : List IV → Prop, K' v → buildI Γ S place parts z K'
  | [], z, h => ⟨z, h, fun K' h => h⟩
  | (i, x) :: r, z, h => by
    simp only [buildI, ev_eq] at h ⊢
    split at h
    · exact h.elim
    · rename_i off sz hp
      unfold cellsK at h ⊢
      split at h
      · rename_i c hc
        split at h
        · rename_i hn
          split at h
          · rename_i z' hz
            obtain ⟨v, h1, h2⟩ := buildI_wit r z' h
            refine ⟨v, h1, fun K' hk => ?_⟩
            (try simp only [hc, hn, hz])
            exact h2 K' hk
          · exact h.elim
        · exact h.elim
      · exact h.elim
theorem bin_wit {op : BinOp} {t : Ty} {x y : IV} {K : IV → Prop} (h : bin op t x y K) : ∃ v, K v ∧ ∀ K' : IV → Prop, K' v → bin op t x y K' := by
  unfold bin at h ⊢
  split at h
  · split at h
    · rw [chk_iff] at h; exact ⟨_, h.2, fun K' hk => chk_iff.2 ⟨h.1, hk⟩⟩
    · rw [chk_iff] at h; exact ⟨_, h.2, fun K' hk => chk_iff.2 ⟨h.1, hk⟩⟩
    · split at h
      · exact h.elim
      · rename_i hd
        (try simp only [hd])
        split at h
        · exact ⟨_, h, fun K' h => h⟩
        · exact ⟨_, h, fun K' h => h⟩
        · exact ⟨_, h, fun K' h => h⟩
        · rw [chk_iff] at h; exact ⟨_, h.2, fun K' hk => chk_iff.2 ⟨h.1, hk⟩⟩
        · rw [chk_iff] at h; exact ⟨_, h.2, fun K' hk => chk_iff.2 ⟨h.1, hk⟩⟩
        · exact ⟨_, h, fun K' h => h⟩
        · exact ⟨_, h, fun K' h => h⟩
        · exact ⟨_, h, fun K' h => h⟩
        · exact ⟨_, h, fun K' h => h⟩
        · exact ⟨_, h, fun K' h => h⟩
        · exact ⟨_, h, fun K' h => h⟩
        · exact h.elim
  · split at h
    · rw [chk_iff] at h; exact ⟨_, h.2, fun K' hk => chk_iff.2 ⟨h.1, hk⟩⟩
    · exact ⟨_, h, fun K' h => h⟩
    · exact ⟨_, h, fun K' h => h⟩
    · exact h.elim
  · split at h
    · rename_i h1 h2; (try simp only [h1, h2]); exact ⟨_, h, fun K' h => h⟩
    · rename_i h1 h2; (try simp only [h1, h2]); exact ⟨_, h, fun K' h => h⟩
    · exact h.elim
  · split at h
    · exact h.elim
    · rename_i k ks hk
      (try simp only [hk])
      split at h
      · rename_i he; (try simp only [he]); exact ⟨_, h, fun K' h => h⟩
      · rename_i he; (try simp only [he]); exact ⟨_, h, fun K' h => h⟩
      · exact h.elim
  · split at h
    · rename_i hk; (try simp only [hk]); rw [chk_iff] at h; exact ⟨_, h.2, fun K' hk => chk_iff.2 ⟨h.1, hk⟩⟩
    · rename_i hk; (try simp only [hk]); rw [chk_iff] at h; exact ⟨_, h.2, fun K' hk => chk_iff.2 ⟨h.1, hk⟩⟩
    · exact h.elim
  · split at h
    · rename_i he; (try simp only [he]); rw [frcV_eq] at h; exact ⟨_, h, fun K' h => by rw [frcV_eq]; exact h⟩
    · exact h.elim
  · exact h.elim
theorem tyK_iff {t : Nat} {p : Prop} : tyK Γ t p ↔ Nat.blt 0 (Γ.T t).size = true ∧ p := by
  unfold tyK
  split
  · rename_i h; simp [h]
  · rename_i h; simp [h]
theorem nilB_wit {op : BinOp} {k : TK} {x : IV} {K : IV → Prop} (h : nilB op k x K) : ∃ v, K v ∧ ∀ K' : IV → Prop, K' v → nilB op k x K' := by
  unfold nilB at h ⊢
  split at h
  · exact ⟨_, h, fun K' h => h⟩
  · exact ⟨_, h, fun K' h => h⟩
  · exact ⟨_, h, fun K' h => h⟩
  · exact ⟨_, h, fun K' h => h⟩
  · exact h.elim
theorem selM_wit {s : ByteArray} {z : IV} {K : IV → Bool → Prop} : ∀ (ks : List ByteArray) (xs : List IV), selM s ks xs z K → ∃ v b, K v b ∧ ∀ K' : IV → Bool → Prop, K' v b → selM s ks xs z K'
  | [], xs, h => by simp only [selM] at h ⊢; exact ⟨_, _, h, fun K' h => h⟩
  | _ :: _, [], h => by simp only [selM] at h ⊢; exact ⟨_, _, h, fun K' h => h⟩
  | k :: ks, x :: xs, h => by
    simp only [selM] at h ⊢
    split at h
    · exact ⟨_, _, h, fun K' h => h⟩
    · exact selM_wit ks xs h
theorem lookK_wit {t : Nat} {m ix : IV} {K : IV → Prop} (h : lookK Γ t m ix K) : ∃ v, K v ∧ ∀ K' : IV → Prop, K' v → lookK Γ t m ix K' := by
  unfold lookK at h ⊢
  split at h
  · rename_i hk
    (try simp only [hk])
    split at h
    · rename_i hs
      (try simp only [hs])
      obtain ⟨h1, h⟩ := tyK_iff.1 h
      obtain ⟨h2, h⟩ := tyK_iff.1 h
      rw [fv_eq] at h
      obtain ⟨v, b, h3, h4⟩ := selM_wit _ _ h
      exact ⟨_, h3, fun K' hk' => tyK_iff.2 ⟨h1, tyK_iff.2 ⟨h2, by rw [fv_eq]; exact h4 _ hk'⟩⟩⟩
    · exact h.elim
  · exact h.elim
theorem addI_wit {p : IV} {n : Nat} {K : IV → Prop} (h : addI p n K) : ∃ v, K v ∧ ∀ K' : IV → Prop, K' v → addI p n K' := by
  unfold addI at h ⊢
  split at h
  · exact ⟨_, h, fun K' h => h⟩
  · exact ⟨_, h, fun K' h => h⟩
  · exact h.elim
theorem idx_wit {i : IV} {n : Nat} {K : Nat → Prop} (h : idx i n K) : ∃ v, K v ∧ ∀ K' : Nat → Prop, K' v → idx i n K' := by
  unfold idx at h ⊢
  split at h
  · rw [chk_iff, chk_iff] at h
    exact ⟨_, h.2.2, fun K' hk => by rw [chk_iff, chk_iff]; exact ⟨h.1, h.2.1, hk⟩⟩
  · exact h.elim
theorem loadI_wit {t : Ty} {p : IV} {K : IV → Prop} (h : loadI S t p K) : ∃ v, K v ∧ ∀ K' : IV → Prop, K' v → loadI S t p K' := by
  unfold loadI at h ⊢
  split at h
  · split at h
    · rename_i hc; (try simp only [hc]); exact part1_wit h
    · exact h.elim
  · split at h
    · rename_i hc; (try simp only [hc])
      obtain ⟨v, h1, h2⟩ := part1_wit h
      exact ⟨_, h1, fun K' hk => h2 _ hk⟩
    · exact h.elim
  · exact part1_wit h
  · exact h.elim
theorem sliceI_wit {t : Ty} {x : IV} {lo hi : Option IV} {K : IV → Prop} (h : sliceI Γ t x lo hi K) : ∃ v, K v ∧ ∀ K' : IV → Prop, K' v → sliceI Γ t x lo hi K' := by
  unfold sliceI at h ⊢
  split at h
  · split at h
    · rename_i hl hh
      simp only [chk_iff] at h
      (try simp only [hl, hh, chk_iff])
      exact ⟨_, h.2.2.2, fun K' hk => ⟨h.1, h.2.1, h.2.2.1, hk⟩⟩
    · exact h.elim
  · split at h
    · rename_i hl hh hn
      simp only [chk_iff] at h
      (try simp only [hl, hh, hn, chk_iff])
      exact ⟨_, h.2.2.2, fun K' hk => ⟨h.1, h.2.1, h.2.2.1, hk⟩⟩
    · exact h.elim
  · split at h
    case h_2 => exact h.elim
    split at h
    · rename_i hle
      (try simp only [hle])
      exact ⟨_, h, fun K' hk => hk⟩
    · rename_i hle
      (try simp only [hle])
      split at h
      · rename_i hq
        (try simp only [hq])
        exact ⟨_, h, fun K' hk => hk⟩
      · exact h.elim
  · exact h.elim
theorem minI_wit {x y : IV} {K : IV → Prop} (h : minI x y K) : ∃ v, K v ∧ ∀ K' : IV → Prop, K' v → minI x y K' := by
  unfold minI at h ⊢
  split at h
  · exact ⟨_, h, fun K' h => h⟩
  · exact h.elim
theorem maxI_wit {x y : IV} {K : IV → Prop} (h : maxI x y K) : ∃ v, K v ∧ ∀ K' : IV → Prop, K' v → maxI x y K' := by
  unfold maxI at h ⊢
  split at h
  · exact ⟨_, h, fun K' h => h⟩
  · exact h.elim
theorem byteK_wit {c : List IV} {K : IV → Prop} (h : byteK c K) : ∃ v, K v ∧ ∀ K' : IV → Prop, K' v → byteK c K' := by
  unfold byteK at h ⊢
  split at h
  · simp only [chk_iff] at h ⊢
    exact ⟨_, h.2.2, fun K' hk => ⟨h.1, h.2.1, hk⟩⟩
  · exact h.elim
theorem minL_wit : ∀ (r : List IV) (x : IV) {K : IV → Prop}, minL x r K → ∃ v, K v ∧ ∀ K' : IV → Prop, K' v → minL x r K'
  | [], x, K, h => ⟨x, h, fun K' h => h⟩
  | y :: r, x, K, h => by
    obtain ⟨v, h1, h2⟩ := minI_wit h
    obtain ⟨u, h3, h4⟩ := minL_wit r v h1
    exact ⟨u, h3, fun K' hk => h2 _ (h4 K' hk)⟩
theorem maxL_wit : ∀ (r : List IV) (x : IV) {K : IV → Prop}, maxL x r K → ∃ v, K v ∧ ∀ K' : IV → Prop, K' v → maxL x r K'
  | [], x, K, h => ⟨x, h, fun K' h => h⟩
  | y :: r, x, K, h => by
    obtain ⟨v, h1, h2⟩ := maxI_wit h
    obtain ⟨u, h3, h4⟩ := maxL_wit r v h1
    exact ⟨u, h3, fun K' hk => h2 _ (h4 K' hk)⟩
theorem ival_wit {o : Oper} {K : IV → Prop} (hv : ival Γ S o K) : ∃ v, K v ∧ ∀ K' : IV → Prop, K' v → ival Γ S o K' := by
  obtain ⟨dst, op, type, pos, after, guard⟩ := o
  cases op with
  | move x => simp only [ival, ev_eq] at hv ⊢; exact ⟨_, hv, fun K' h => h⟩
  | assign x => simp only [ival, ev_eq] at hv ⊢; exact ⟨_, hv, fun K' h => h⟩
  | pick c a b =>
    simp only [ival, ev_eq] at hv ⊢
    split at hv
    · rename_i b hb
      split at hv
      · exact ⟨_, hv, fun K' h => h⟩
      · exact ⟨_, hv, fun K' h => h⟩
    · exact hv.elim
  | build t parts =>
    simp only [ival] at hv ⊢
    split at hv
    · rename_i hk; obtain ⟨v, h1, h2⟩ := buildI_wit _ _ hv; exact ⟨_, h1, fun K' h => h2 _ h⟩
    · rename_i hk; obtain ⟨v, h1, h2⟩ := buildI_wit _ _ hv; exact ⟨_, h1, fun K' h => h2 _ h⟩
    · exact hv.elim
  | load t x =>
    simp only [ival, fv_eq] at hv ⊢
    unfold tyK at hv ⊢
    split at hv
    · exact loadI_wit hv
    · exact hv.elim
  | nilCheck x =>
    simp only [ival, ev_eq] at hv ⊢
    split at hv
    · exact ⟨_, hv, fun K' h => h⟩
    · exact ⟨_, hv, fun K' h => h⟩
    · exact ⟨_, hv, fun K' h => h⟩
    · exact hv.elim
  | binOp op t x y e =>
    simp only [ival] at hv ⊢
    split at hv
    · unfold tyK at hv ⊢
      split at hv
      · exact nilB_wit hv
      · exact hv.elim
    · exact bin_wit hv
  | lookup t x ix ok =>
    simp only [ival] at hv ⊢
    split at hv
    · exact lookK_wit hv
    · exact hv.elim
  | unOp op t x =>
    simp only [ival] at hv ⊢
    split at hv
    · exact ⟨_, hv, fun K' h => h⟩
    · exact ⟨_, hv, fun K' h => h⟩
    · exact hv.elim
  | convert src d x =>
    simp only [ival] at hv ⊢
    unfold tyK at hv ⊢
    split at hv
    · split at hv
      · rename_i hk hx
        split at hv
        · rename_i hz; (try simp only []); exact ⟨_, hv, fun K' h => h⟩
        · rename_i hz; (try simp only []); rw [frcN_eq] at hv; exact ⟨_, hv, fun K' h => by rw [frcN_eq]; exact h⟩
        · exact hv.elim
      · rename_i hk hx
        split at hv
        · rename_i he; (try simp only [he]); rw [frcV_eq] at hv; exact ⟨_, hv, fun K' h => by rw [frcV_eq]; exact h⟩
        · exact hv.elim
      · rename_i hk hx
        split at hv
        · split at hv
          · exact byteK_wit hv
          · exact hv.elim
        · exact hv.elim
      · exact hv.elim
    · exact hv.elim
  | fieldAddr s x i =>
    simp only [ival] at hv ⊢
    split at hv
    · split at hv
      · exact addI_wit hv
      · exact hv.elim
    · exact hv.elim
  | field s x i =>
    simp only [ival, fv_eq] at hv ⊢
    split at hv
    · split at hv
      · exact part1_wit hv
      · exact hv.elim
    · exact hv.elim
  | indexAddr s x i =>
    simp only [ival] at hv ⊢
    split at hv
    · obtain ⟨j, h1, h2⟩ := idx_wit hv
      obtain ⟨v, h3, h4⟩ := addI_wit h1
      exact ⟨v, h3, fun K' hk => h2 _ (h4 K' hk)⟩
    · obtain ⟨j, h1, h2⟩ := idx_wit hv
      split at h1
      · rename_i hn
        refine ⟨_, h1, fun K' hk => h2 _ ?_⟩
        (try simp only [hn]); exact hk
      · exact h1.elim
    · obtain ⟨j, h1, h2⟩ := idx_wit hv
      split at h1
      · rename_i hn
        refine ⟨_, h1, fun K' hk => h2 _ ?_⟩
        (try simp only [hn]); exact hk
      · exact h1.elim
    · exact hv.elim
  | index s x i =>
    simp only [ival, fv_eq] at hv ⊢
    split at hv
    · obtain ⟨j, h1, h2⟩ := idx_wit hv
      obtain ⟨v, h3, h4⟩ := part1_wit h1
      exact ⟨v, h3, fun K' hk => h2 _ (h4 K' hk)⟩
    · obtain ⟨j, h1, h2⟩ := idx_wit hv
      exact ⟨_, h1, fun K' hk => h2 _ hk⟩
    · exact hv.elim
  | slice t x lo hi mx =>
    cases mx with
    | some m => simp [ival] at hv
    | none => simp only [ival] at hv ⊢; exact sliceI_wit hv
  | extract x i =>
    simp only [ival, fv_eq] at hv ⊢
    split at hv
    · split at hv
      · exact ⟨_, hv, fun K' h => h⟩
      · exact hv.elim
    · exact hv.elim
  | makeFunc fn first captured =>
    cases fn with
    | func f => simp only [ival, fvL_eq] at hv ⊢; exact ⟨_, hv, fun K' h => h⟩
    | _ => simp [ival] at hv
  | _ => simp [ival] at hv
theorem pappend_wit {d e : Nat} {s x : IV} {K : IV → Prop} (h : pappend d e s x K) : ∃ v, K v ∧ ∀ K' : IV → Prop, K' v → pappend d e s x K' := by
  unfold pappend at h ⊢
  split at h
  · split at h
    · exact ⟨_, h, fun K' h => h⟩
    · exact ⟨_, h, fun K' h => h⟩
    · exact h.elim
  · split at h
    · exact h.elim
    · rename_i hn
      (try simp only [hn])
      split at h
      · rw [chk_iff] at h; exact ⟨_, h.2, fun K' hk => chk_iff.2 ⟨h.1, hk⟩⟩
      · exact h.elim
  · exact h.elim
theorem pcall_wit {o : Oper} {c : Call} {K : IV → Prop} (hv : pcall C Γ S o c K) : ∃ v, K v ∧ ∀ K' : IV → Prop, K' v → pcall C Γ S o c K' := by
  unfold pcall at hv ⊢
  split at hv
  · rename_i f hf
    split at hv
    · rename_i g first captured hx
      rw [fvL_eq] at hv
      obtain ⟨aa, r, r', h0, h1, h2, h3⟩ := hv
      rw [fv_eq] at h3
      refine ⟨r', h3, fun K' hk => ?_⟩
      rw [fvL_eq]
      exact ⟨aa, r, r', h0, h1, h2, by rw [fv_eq]; exact hk⟩
    · exact hv.elim
  · rename_i b hb
    simp only [fvL_eq] at hv ⊢
    split at hv
    · rename_i x hx
      split at hv
      · rename_i t ht
        (try simp only [ht])
        split at hv
        · rename_i hk; (try simp only [hk]); exact ⟨_, hv, fun K' h => h⟩
        · rename_i hk; (try simp only [hk]); exact ⟨_, hv, fun K' h => h⟩
        · rename_i hk; (try simp only [hk]); exact ⟨_, hv, fun K' h => h⟩
        · exact hv.elim
      · exact hv.elim
    · exact minL_wit _ _ hv
    · exact maxL_wit _ _ hv
    · rename_i hx; (try simp only [hx]); exact ⟨_, hv, fun K' h => h⟩
    · rename_i hx; (try simp only [hx]); exact ⟨_, hv, fun K' h => h⟩
    · rename_i hx
      split at hv
      · rename_i hk; (try simp only [hx, hk]); exact ⟨_, hv, fun K' h => h⟩
      · exact hv.elim
    · rename_i s x hx
      split at hv
      · rename_i d t t' hd ht
        (try simp only [hd, ht])
        split at hv
        · rename_i e h1 h2; (try simp only [h1, h2]); exact pappend_wit hv
        · exact hv.elim
      · exact hv.elim
    · exact hv.elim
  · exact hv.elim
theorem pval_wit {o : Oper} {K : IV → Prop} (hv : pval C Γ S o K) : ∃ v, K v ∧ ∀ K' : IV → Prop, K' v → pval C Γ S o K' := by
  unfold pval at hv ⊢
  split at hv
  · exact hv.elim
  · exact hv.elim
  · exact hv.elim
  · rename_i t len parts hop
    split at hv
    · rename_i e d hk hd
      (try simp only [hk, hd])
      split at hv
      · rename_i h1 h2
        (try simp only [h1, h2])
        obtain ⟨xs, h3, h4⟩ := buildI_wit _ _ hv
        split at h3
        · rename_i hn
          split at h3
          · refine ⟨_, h3, fun K' hk => h4 _ ?_⟩
            (try simp only [hn]); exact hk
          · split at h3
            · exact h3.elim
            rename_i hrw
            rw [fvL_eq] at h3
            refine ⟨_, h3, fun K' hk => h4 _ ?_⟩
            (try simp only [hn, hrw, fvL_eq]); exact hk
        · exact h3.elim
      · exact hv.elim
    · exact hv.elim
  · exact pcall_wit hv
  · exact ival_wit hv
theorem untag_none {d : Nat} {K : St → Prop} (h1 : tmTag d S.tm = false) (h2 : ceTag d S.ce = false) (h : K S) : untag d S K := by
  obtain ⟨tm, ce, up⟩ := S
  simp only at h1 h2
  (try simp only [untag, h1, h2])
  exact h
theorem isNil_no {y : Operand} {k : FloatKind} {v : Nat} (h : evoB Γ S y = .lit (.float k v)) : isNilI y = false := by
  cases hn : isNilI y with
  | false => rfl
  | true =>
    have hy : y = .const .nilIface := by
      unfold isNilI at hn
      split at hn
      · rfl
      · cases hn
    subst hy
    simp [evoB, evo, ofConst] at h
theorem pval_iop {o : Oper} {K : St → Prop} (hn : ∀ d, o.dst = some d → creates o = true → tmTag d S.tm = false ∧ ceTag d S.ce = false)
    (hv : pval C Γ S o fun v => putT Γ S o.dst v K) : iop C Γ S o K := by
  obtain ⟨dst, op, type, pos, after, guard⟩ := o
  cases op with
  | alloc t => simp [pval] at hv
  | box t x => simp [pval] at hv
  | store t x y => simp [pval] at hv
  | buildSlice t len parts =>
    simp only [pval] at hv
    (try simp only [iop])
    split at hv
    · rename_i e d hk
      simp only at hn
      obtain ⟨n1, n2⟩ := hn d rfl rfl
      split at hv
      · rename_i h1 h2
        (try simp only [hk, h1, h2])
        obtain ⟨xs, h3, h4⟩ := buildI_wit _ _ hv
        refine h4 _ ?_
        split at h3
        · rename_i hnp
          (try simp only [hnp])
          split at h3
          · exact h3
          · split at h3
            · exact h3.elim
            rename_i hrw
            (try simp only [hrw])
            rw [fvL_eq] at h3 ⊢
            exact untag_none n1 n2 h3
        · exact h3.elim
      · exact hv.elim
    · exact hv.elim
  | call c =>
    simp only [pval] at hv
    (try simp only [iop])
    unfold pcall at hv
    unfold calls
    have hun : ∀ {S2 : St} {K' : St → Prop}, S2.tm = S.tm → S2.ce = S.ce → K' S2 → untagO dst S2 K' := by
      intro S2 K' e1 e2 h
      cases dst with
      | none => exact h
      | some d =>
        obtain ⟨n1, n2⟩ := hn d rfl rfl
        exact untag_none (by rw [e1]; exact n1) (by rw [e2]; exact n2) h
    split at hv
    · rename_i f hf
      split at hv
      · rename_i g first captured hx
        (try simp only [hf, hx])
        rw [fvL_eq] at hv ⊢
        obtain ⟨aa, r, r', h0, h1, h2, h3⟩ := hv
        obtain ⟨tm, ce, up⟩ := S
        exact .mk aa r r' ce up h0 h1 h2 (hun rfl rfl h3)
      · exact hv.elim
    · rename_i b hb
      (try simp only [hb])
      rw [fvL_eq] at hv ⊢
      split at hv
      · rename_i x hx
        (try simp only [hx])
        split at hv
        · rename_i t ht
          (try simp only [ht])
          split at hv
          · rename_i hk; (try simp only [hk]); exact hv
          · rename_i hk; (try simp only [hk]); exact hv
          · rename_i hk; (try simp only [hk]); exact hv
          · exact hv.elim
        · exact hv.elim
      · rename_i x y hx; (try simp only [hx]); exact hv
      · rename_i x y hx; (try simp only [hx]); exact hv
      · rename_i hx; (try simp only [hx]); exact hv
      · rename_i hx; (try simp only [hx]); exact hv
      · rename_i hx; (try simp only [hx]); exact hv
      · rename_i s x hx
        (try simp only [hx])
        split at hv
        · rename_i d t t' hd ht
          simp only at hd; subst hd
          (try simp only [ht])
          obtain ⟨n1, n2⟩ := hn d rfl rfl
          split at hv
          · rename_i e h1 h2
            (try simp only [h1, h2])
            unfold pappend at hv
            unfold appendI
            split at hv
            · exact hv
            · rename_i e2 m g'
              split at hv
              · exact hv.elim
              · rename_i hn'
                (try simp only [hn'])
                split at hv
                · rw [chk_iff] at hv ⊢
                  exact ⟨hv.1, untag_none n1 n2 hv.2⟩
                · exact hv.elim
            · exact hv.elim
          · exact hv.elim
        · exact hv.elim
      · exact hv.elim
    · exact hv.elim
  | makeSlice t len cap =>
    simp only [pval, ival] at hv
  | slice t x lo hi mx =>
    simp only [pval] at hv
    simp only [iop]
    split
    · rename_i n e hk
      split
      · exact hv
      rename_i hnv
      simp only [ival] at hv
      unfold sliceI at hv
      rw [hk] at hv
      split at hv
      · rename_i h1 _; cases h1
      · rename_i h1 _; cases h1
      · rename_i h1 hx; exact (hnv _ _ _ _ _ hx).elim
      · exact hv.elim
    · exact hv
  | binOp op t x y t' =>
    simp only [pval] at hv
    simp only [iop]
    split
    · rename_i k hf
      obtain ⟨u, v, ex, ey, hop, hb⟩ := flN_spec hf
      simp only [ival] at hv
      rw [isNil_no ey, ex, ey] at hv
      have hv : (match flV op (.float k u) (.float k v) with | some r => frcV r fun r => putT Γ S dst r K | none => False) := hv
      rw [flV_none hop hb] at hv
      exact hv.elim
    · rename_i k n hf
      obtain ⟨u, v, ex, ey, hop, hb⟩ := flN_spec hf
      simp only [ival] at hv
      rw [isNil_no ey, ex, ey] at hv
      have hv : (match flV op (.float k u) (.float k v) with | some r => frcV r fun r => putT Γ S dst r K | none => False) := hv
      rw [flV_some hop hb] at hv
      exact hv
    · exact hv
  | _ => simp only [pval] at hv; (try simp only [iop]); exact hv
end
end Go.Proofs.YtfoenhiohhmnlaaGreatDoor.Ix

namespace Go.Proofs.YtfoenhiohhmnlaaGreatDoor.Ix
set_option linter.unusedVariables false
set_option linter.unusedSimpArgs false
theorem upTo_spec {f : Nat → Bool} : ∀ {n : Nat}, upTo n f = true → ∀ j, j < n → f j = true
  | 0, _, j, hj => by omega
  | n + 1, h, j, hj => by
    simp only [upTo, Bool.and_eq_true] at h
    rcases Nat.lt_or_ge j n with h' | h'
    · exact upTo_spec h.1 j h'
    · have : j = n := by omega
      subst this; exact h.2
theorem upTo_not {f : Nat → Bool} : ∀ {n : Nat}, upTo n f = false → ∃ j, j < n ∧ f j = false
  | 0, h => by simp [upTo] at h
  | n + 1, h => by
    simp only [upTo, Bool.and_eq_false_iff] at h
    rcases h with h | h
    · obtain ⟨j, h1, h2⟩ := upTo_not h; exact ⟨j, by omega, h2⟩
    · exact ⟨n, by omega, h⟩
def DC (ops : Array Oper) (ℓ : Nat → Bool) : Prop := ∀ (i : Nat) o, ops[i]? = some o → ℓ i = true → ∀ j, bindOn o j = true → ℓ j = true
theorem nthO_eq : ∀ (l : List Oper) (i : Nat), nthO l i = l[i]?
  | [], _ => by simp [nthO]
  | _ :: _, 0 => by simp [nthO]
  | _ :: r, n + 1 => by simp [nthO, nthO_eq r n]
theorem anyOn_spec : ∀ {ms : List Oper} {j : Nat}, anyOn ms j = true → ∃ m ∈ ms, bindOn m j = true
  | [], _, h => by simp [anyOn] at h
  | m :: r, j, h => by
    simp only [anyOn] at h
    split at h
    · rename_i hb; exact ⟨m, by simp, hb⟩
    · obtain ⟨m', h1, h2⟩ := anyOn_spec h; exact ⟨m', by simp [h1], h2⟩
theorem sufOK_spec {fl : Option (List Nat)} {ops : Array Oper} {p : Nat} {ℓ : Nat → Bool} (hdc : DC ops ℓ) : ∀ (i : Nat) (ms : List Oper), sufOK fl ops.toList p i ms = true → (∀ m ∈ ms, ∀ j, bindOn m j = true → ℓ j = true) → ∀ j, j < i → ℓ j = true ∨ floatB fl ops.toList p j = true
  | 0, _, _, _, j, hj => by omega
  | i + 1, ms, h, hm, j, hj => by
    simp only [sufOK] at h
    split at h
    · rename_i o ha ho
      obtain ⟨m, m1, m2⟩ := anyOn_spec ha
      have hi := hm m m1 i m2
      rw [nthO_eq] at ho
      by_cases e : j = i
      · rw [e]; exact .inl hi
      · refine sufOK_spec hdc i _ h (fun m' hm' => ?_) j (by omega)
        simp only [List.mem_cons] at hm'
        rcases hm' with rfl | hm'
        · exact hdc i m' (by simpa using ho) hi
        · exact hm m' hm'
    · simp only [Bool.and_eq_true] at h
      by_cases e : j = i
      · rw [e]; exact .inr h.1
      · exact sufOK_spec hdc i _ h.2 hm j (by omega)
theorem floatB_spec {fl : Option (List Nat)} {ops : Array Oper} {p i : Nat} {o : Oper} (ho : ops[i]? = some o) (h : floatB fl ops.toList p i = true) :
    i < p ∧ floats fl i o = true ∧ o.guard = none ∧ ∀ (j : Nat) y, ops[j]? = some y → j ≠ i → bindOn y i = true ∨ bindOn o j = true ∨ o.apart ops y = true := by
  simp only [floatB, Bool.and_eq_true, nthO_eq] at h
  obtain ⟨h1, h2⟩ := h
  have ho' : ops.toList[i]? = some o := by simpa using ho
  rw [ho'] at h2
  simp only [Bool.and_eq_true] at h2
  obtain ⟨⟨h3, h4⟩, h5⟩ := h2
  refine ⟨blt_lt h1, h3, by simpa using h4, fun j y hy hji => ?_⟩
  have hj : j < ops.toList.length := by simpa using (Array.getElem?_eq_some_iff.1 hy).1
  have := upTo_spec h5 j hj
  have hy' : ops.toList[j]? = some y := by simpa using hy
  simp only [hy', Bool.or_eq_true] at this
  rcases this with h | (h | h) | h
  · exact absurd ((beq_iff _ _).1 h) hji
  · exact .inl h
  · exact .inr (.inl h)
  · exact .inr (.inr (by simpa using h))
structure DOK (ops : Array Oper) (p : Nat) (fl : Option (List Nat)) : Prop where
  le : p ≤ ops.size
  acy : ∀ (i : Nat) o, ops[i]? = some o → ∀ e ∈ o.after, Region.binds .any e = true → e.on < i
  look : ∀ (i : Nat) o, ops[i]? = some o → i < p → ∀ t ∈ looks ops.toList o, ∀ j, j < p → dstOf ops.toList j = some t → j < i ∧ bindOn o j = true
  dst : ∀ (i j : Nat) d, i < p → j < p → dstOf ops.toList i = some d → dstOf ops.toList j = some d → i = j
  made : ∀ (i : Nat) o, ops[i]? = some o → i < p → ((∃ t, o.op = .alloc t) ∨ ∃ t x, o.op = .box t x) → (∃ d, o.dst = some d) ∧ o.guard = none
  st : ∀ (i : Nat) o t a x, ops[i]? = some o → i < p → o.op = .store t a x → ∃ d, a = .tmp d ∧ o.dst = none ∧ o.guard = none ∧
    ∃ (j : Nat) (o' : Oper), j < i ∧ ops[j]? = some o' ∧ o'.op = .alloc t ∧ o'.dst = some d ∧ o'.guard = none
  st1 : ∀ (i j : Nat) o o' t t' d x x', i < p → j < p → ops[i]? = some o → ops[j]? = some o' → o.op = .store t (.tmp d) x → o'.op = .store t' (.tmp d) x' → i = j
  suf : ∀ (i : Nat) o, ops[i]? = some o → p ≤ i → ∀ ℓ : Nat → Bool, DC ops ℓ → (∀ j, bindOn o j = true → ℓ j = true) → ∀ j, j < i → ℓ j = true ∨ floatB fl ops.toList p j = true
  ns : ∀ (i : Nat) o cs b, ops[i]? = some o → o.op ≠ .select cs b
  nd : ∀ (i : Nat) o, ops[i]? = some o → ∀ c, o.op ≠ .defer c
  mkm : ∀ (i : Nat) o t r, ops[i]? = some o → o.op = .makeMap t r → i < p ∧ r = none ∧ (∃ d, o.dst = some d) ∧ o.guard = none
  ins : ∀ (i : Nat) o t m ky x, ops[i]? = some o → o.op = .insert t m ky x → i < p ∧ ∃ d k, m = .tmp d ∧ ky = .const (.string k) ∧ o.dst = none ∧ o.guard = none ∧
    ∃ (j : Nat) (o' : Oper) (r : Option Operand), j < i ∧ ops[j]? = some o' ∧ o'.op = .makeMap t r ∧ o'.dst = some d ∧ o'.guard = none
  ins1 : ∀ (i j : Nat) o o' t t' d k x x', ops[i]? = some o → ops[j]? = some o' → o.op = .insert t (.tmp d) (.const (.string k)) x → o'.op = .insert t' (.tmp d) (.const (.string k)) x' → i = j
  lk : ∀ (i : Nat) o t m x ok, ops[i]? = some o → o.op = .lookup t m x ok → mapO ops.toList o = true → ok = true ∧ ∃ d, m = .tmp d ∧
    (∃ (j : Nat) (o' : Oper) (r : Option Operand), j < i ∧ ops[j]? = some o' ∧ o'.op = .makeMap t r ∧ o'.dst = some (rootD d ops.toList) ∧ o'.guard = none) ∧
    (∀ (s : Nat) os t' ky y, ops[s]? = some os → os.op = .insert t' (.tmp (rootD d ops.toList)) ky y → s < i ∧ bindOn2 ops.toList o s = true) ∧
    (rootD d ops.toList = d ∨ ∃ (q : Nat) (oq : Oper), q < p ∧ ops[q]? = some oq ∧ oq.op = .move (.tmp (rootD d ops.toList)) ∧ oq.dst = some d ∧ oq.guard = none)
theorem drawOKs_spec {fl : Option (List Nat)} {all : List Oper} {p : Nat} : ∀ (l : List Oper) (i : Nat), drawOKs fl all p i l = true → ∀ (j : Nat) o, l[j]? = some o →
    (o.after.toList.all fun e => !(Region.binds .any e) || Nat.blt e.on (i + j)) = true ∧ (i + j < p → frontOK all p (i + j) o = true) ∧ (p ≤ i + j → sufOK fl all p (i + j) [o] = true) ∧ noDefer o = true
  | [], _, _, j, o, hj => by simp at hj
  | y :: r, i, h, j, o, hj => by
    simp only [drawOKs, Bool.and_eq_true] at h
    cases j with
    | zero =>
      simp at hj; subst hj
      refine ⟨by simpa using h.1.1.1, fun hp => ?_, fun hp => ?_, h.1.2⟩
      · have := h.1.1.2
        rw [show Nat.blt i p = true from by simp [Nat.blt]; omega] at this
        simpa using this
      · have := h.1.1.2
        rw [show Nat.blt i p = false from by
          cases hb : Nat.blt i p with
          | false => rfl
          | true => have := blt_lt hb; omega] at this
        simpa using this
    | succ j =>
      have := drawOKs_spec r (i + 1) h.2 j o (by simpa using hj)
      rw [show i + 1 + j = i + (j + 1) from by omega] at this
      exact this
theorem frontOK_spec {all : List Oper} {p i : Nat} {o : Oper} (h : frontOK all p i o = true) :
    (∀ t ∈ looks all o, ∀ j, j < p → dstOf all j = some t → j < i ∧ bindOn o j = true) ∧
    (∀ d j, o.dst = some d → j < i → dstOf all j ≠ some d) ∧
    (((∃ t, o.op = .alloc t) ∨ ∃ t x, o.op = .box t x) → (∃ d, o.dst = some d) ∧ o.guard = none) ∧
    (∀ t a x, o.op = .store t a x → ∃ d, a = .tmp d ∧ o.dst = none ∧ o.guard = none ∧
      (∃ (j : Nat) (o' : Oper), j < i ∧ all[j]? = some o' ∧ o'.op = .alloc t ∧ o'.dst = some d ∧ o'.guard = none) ∧
      ∀ (j : Nat) o' t' x', j < i → all[j]? = some o' → o'.op ≠ .store t' (.tmp d) x') := by
  simp only [frontOK, Bool.and_eq_true] at h
  obtain ⟨⟨h1, h2⟩, h3⟩ := h
  refine ⟨fun t ht j hj hd => ?_, fun d j hd hj he => ?_, fun hm => ?_, fun t a x hop => ?_⟩
  · rw [List.all_eq_true] at h1
    have := upTo_spec (h1 t ht) j hj
    rw [hd] at this
    simp only [Bool.or_eq_true, Bool.and_eq_true] at this
    rcases this with h | h
    · have : Nat.beq t t = true := Nat.beq_refl t
      rw [this] at h; cases h
    · exact ⟨blt_lt h.1, h.2⟩
  · rw [hd] at h2
    have := upTo_spec h2 j hj
    rw [he] at this
    have h' : Nat.beq d d = true := Nat.beq_refl d
    simp only [h'] at this; cases this
  · rcases hm with ⟨t, ht⟩ | ⟨t, x, ht⟩
    · rw [ht] at h3
      simp only [Bool.and_eq_true] at h3
      exact ⟨Option.isSome_iff_exists.1 h3.1, by simpa using h3.2⟩
    · rw [ht] at h3
      simp only [Bool.and_eq_true] at h3
      exact ⟨Option.isSome_iff_exists.1 h3.1, by simpa using h3.2⟩
  · rw [hop] at h3
    cases a with
    | tmp d =>
      cases hd : o.dst with
      | some _ => rw [hd] at h3; cases h3
      | none =>
        cases hg : o.guard with
        | some _ => rw [hd, hg] at h3; cases h3
        | none =>
          rw [hd, hg] at h3
          simp only [Bool.and_eq_true] at h3
          obtain ⟨g1, g2⟩ := h3
          refine ⟨d, rfl, rfl, rfl, ?_, fun j o' t' x' hj ho' hs => ?_⟩
          · have g1' : upTo i (fun j => onO (fun o' => !(isAlloc t d o')) all[j]?) = false := by simpa using g1
            obtain ⟨j, hj, hf⟩ := upTo_not g1'
            cases ho : all[j]? with
            | none => rw [ho] at hf; cases hf
            | some o' =>
              rw [ho] at hf
              have hf : isAlloc t d o' = true := by simpa [onO] using hf
              unfold isAlloc at hf
              split at hf
              · rename_i t2 d2 e1 e2 e3
                simp only [Bool.and_eq_true] at hf
                have a1 := (beq_iff _ _).1 hf.1
                have a2 := (beq_iff _ _).1 hf.2
                subst a1 a2
                exact ⟨j, o', hj, ho, e1, e2, e3⟩
              · cases hf
          · have := upTo_spec g2 j hj
            rw [ho'] at this
            simp only [onO, storesTo, hs] at this
            have h' : Nat.beq d d = true := Nat.beq_refl d
            simp only [h'] at this; cases this
    | _ => cases h3
theorem isMk_spec {t d : Nat} {o : Option Oper} (h : isMk t d o = true) : ∃ o' r, o = some o' ∧ o'.op = .makeMap t r ∧ o'.dst = some d ∧ o'.guard = none := by
  unfold isMk at h
  split at h
  · rename_i o'
    split at h
    · rename_i t' r d' e1 e2 e3
      simp only [Bool.and_eq_true] at h
      have a1 := (beq_iff _ _).1 h.1
      have a2 := (beq_iff _ _).1 h.2
      subst a1 a2
      exact ⟨o', r, rfl, e1, e2, e3⟩
    · cases h
  · cases h
theorem eqB_refl : ∀ l, eqB l l = true
  | [] => rfl
  | x :: r => by simp [eqB, eqB_refl r]
theorem rootD_spec (d : Nat) : ∀ (l : List Oper), rootD d l = d ∨ ∃ (q : Nat) (oq : Oper), l[q]? = some oq ∧ oq.op = .move (.tmp (rootD d l)) ∧ oq.dst = some d ∧ oq.guard = none
  | [] => .inl rfl
  | o :: r => by
    have skip : rootD d (o :: r) = rootD d r → rootD d (o :: r) = d ∨ ∃ (q : Nat) (oq : Oper), (o :: r)[q]? = some oq ∧ oq.op = .move (.tmp (rootD d (o :: r))) ∧ oq.dst = some d ∧ oq.guard = none := fun e => by
      rw [e]
      rcases rootD_spec d r with h | ⟨q, oq, h1, h2⟩
      · exact .inl h
      · exact .inr ⟨q + 1, oq, by simpa using h1, h2⟩
    by_cases hx : ∃ d' e, o.op = .move (.tmp d') ∧ o.dst = some e ∧ o.guard = none ∧ Nat.beq e d = true
    · obtain ⟨d', e, h1, h2, h3, h4⟩ := hx
      have hr : rootD d (o :: r) = d' := by simp only [rootD, h1, h2, h3, h4]
      have := (beq_iff _ _).1 h4
      subst this
      rw [hr]
      exact .inr ⟨0, o, rfl, h1, h2, h3⟩
    · refine skip ?_
      simp only [rootD]
      split
      · rename_i d' e e1 e2 e3
        split
        · rename_i hb; exact absurd ⟨d', e, e1, e2, e3, hb⟩ hx
        · rfl
      · rfl
theorem bindOn2_spec {ops : Array Oper} {ℓ : Nat → Bool} (hdc : DC ops ℓ) {o : Oper} {s : Nat} (hs : s < ops.size) (h : bindOn2 ops.toList o s = true) (hl : ∀ j, bindOn o j = true → ℓ j = true) : ℓ s = true := by
  unfold bindOn2 at h
  rw [Bool.or_eq_true] at h
  rcases h with h | h
  · exact hl s h
  · have h' : (upTo ops.toList.length fun q => !(bindOn o q && onO (fun oq => bindOn oq s) (nthO ops.toList q))) = false := by simpa using h
    obtain ⟨q, hq, hf⟩ := upTo_not h'
    have hf' : (bindOn o q && onO (fun oq => bindOn oq s) (nthO ops.toList q)) = true := by simpa using hf
    rw [Bool.and_eq_true, nthO_eq] at hf'
    have hq' : q < ops.size := by simpa using hq
    have ho : ops.toList[q]? = some ops[q] := by simp [hq']
    rw [ho] at hf'
    exact hdc q ops[q] (by simp [hq']) (hl q hf'.1) s hf'.2
theorem movesTo_of {o : Oper} {d x : Nat} (h1 : o.op = .move (.tmp x)) (h2 : o.dst = some d) (h3 : o.guard = none) : movesTo d (some o) = true := by
  simp [movesTo, h1, h2, h3]
structure MOK (all : List Oper) (p : Nat) : Prop where
  mkm : ∀ (i : Nat) o t r, all[i]? = some o → o.op = .makeMap t r → i < p ∧ r = none ∧ (∃ d, o.dst = some d) ∧ o.guard = none
  ins : ∀ (i : Nat) o t m ky x, all[i]? = some o → o.op = .insert t m ky x → i < p ∧ ∃ d k, m = .tmp d ∧ ky = .const (.string k) ∧ o.dst = none ∧ o.guard = none ∧
    (∃ (j : Nat) (o' : Oper) (r : Option Operand), j < i ∧ all[j]? = some o' ∧ o'.op = .makeMap t r ∧ o'.dst = some d ∧ o'.guard = none) ∧
    ∀ (j : Nat) o' t' y, j < i → all[j]? = some o' → o'.op ≠ .insert t' (.tmp d) (.const (.string k)) y
  lk : ∀ (i : Nat) o t m x ok, all[i]? = some o → o.op = .lookup t m x ok → mapO all o = true → ok = true ∧ ∃ d, m = .tmp d ∧
    (∃ (j : Nat) (o' : Oper) (r : Option Operand), j < i ∧ all[j]? = some o' ∧ o'.op = .makeMap t r ∧ o'.dst = some (rootD d all) ∧ o'.guard = none) ∧
    (∀ (s : Nat) os t' ky y, all[s]? = some os → os.op = .insert t' (.tmp (rootD d all)) ky y → s < i ∧ bindOn2 all o s = true) ∧
    (rootD d all = d ∨ ∃ (q : Nat) (oq : Oper), q < p ∧ all[q]? = some oq ∧ oq.op = .move (.tmp (rootD d all)) ∧ oq.dst = some d ∧ oq.guard = none)
theorem mapsOK_spec {all : List Oper} {p : Nat} (h : mapsOK all p = true) : MOK all p := by
  have key : ∀ (i : Nat) o, all[i]? = some o → _ := fun i o ho => upTo_spec (by unfold mapsOK at h; exact h) i (List.getElem?_eq_some_iff.1 ho).1
  have hmk : ∀ (i t d : Nat), (!(upTo i fun j => !(isMk t d (nthO all j)))) = true → ∃ (j : Nat) (o' : Oper) (r : Option Operand), j < i ∧ all[j]? = some o' ∧ o'.op = .makeMap t r ∧ o'.dst = some d ∧ o'.guard = none := fun i t d h => by
    have h' : (upTo i fun j => !(isMk t d (nthO all j))) = false := by simpa using h
    obtain ⟨j, hj, hf⟩ := upTo_not h'
    obtain ⟨o', r, e, e1, e2, e3⟩ := isMk_spec (by simpa using hf)
    rw [nthO_eq] at e
    exact ⟨j, o', r, hj, e, e1, e2, e3⟩
  refine ⟨fun i o t r ho hop => ?_, fun i o t m ky x ho hop => ?_, fun i o t m x ok ho hop hmO => ?_⟩
  · have := key i o ho
    simp only [nthO_eq, ho, hop, Bool.and_eq_true] at this
    obtain ⟨⟨⟨h1, h2⟩, h3⟩, h4⟩ := this
    exact ⟨blt_lt h1, by simpa using h2, Option.isSome_iff_exists.1 h3, by simpa using h4⟩
  · have := key i o ho
    simp only [nthO_eq, ho, hop] at this
    split at this
    · rename_i e; cases e
    · rename_i t' d k x' e
      cases e
      simp only [Bool.and_eq_true] at this
      obtain ⟨⟨⟨⟨h1, h2⟩, h3⟩, h4⟩, h5⟩ := this
      refine ⟨blt_lt h1, d, k, rfl, rfl, by simpa using h2, by simpa using h3, hmk i t d (by simpa [nthO_eq] using h4), fun j o' t' y hj ho' hop' => ?_⟩
      have := upTo_spec h5 j hj
      simp only [ho', insKey, hop', sameB, eqB_refl, Nat.beq_refl] at this
      cases this
    · cases this
    · rename_i e; cases e
    · rename_i n1 n2 n3 n4
      exact absurd rfl (n3 t m ky x)
  · have := key i o ho
    simp only [nthO_eq, ho, hop] at this
    split at this
    · rename_i e; cases e
    · rename_i e; cases e
    · rename_i e; cases e
    · rename_i t' d x' ok' e
      cases e
      have hmd : madeIn all d = true := by simp only [mapO, hop] at hmO; exact hmO
      simp only [hmd, Bool.not_true, Bool.false_or, Bool.and_eq_true] at this
      obtain ⟨⟨⟨h1, h2⟩, h3⟩, h4⟩ := this
      refine ⟨h1, d, rfl, hmk i t _ (by simpa [nthO_eq] using h2), fun s os t' ky y hs hos => ?_, ?_⟩
      · have := upTo_spec h3 s (List.getElem?_eq_some_iff.1 hs).1
        simp only [hs, insTo, hos, Nat.beq_refl, Bool.not_true, Bool.false_or, Bool.and_eq_true] at this
        exact ⟨blt_lt this.1, this.2⟩
      · rcases rootD_spec d all with e | ⟨q, oq, e1, e2, e3, e4⟩
        · exact .inl e
        · have := upTo_spec h4 q (List.getElem?_eq_some_iff.1 e1).1
          simp only [e1, movesTo_of e2 e3 e4, Bool.not_true, Bool.false_or] at this
          exact .inr ⟨q, oq, blt_lt this, e1, e2, e3, e4⟩
    · rename_i n1 n2 n3 n4
      exfalso
      unfold mapO at hmO
      rw [hop] at hmO
      cases m with
      | tmp d => exact n4 _ _ _ _ rfl
      | _ => simp at hmO
theorem drawOK_spec {fl : Option (List Nat)} {ops : Array Oper} {p : Nat} (h : drawOK ops.toList p fl = true) : DOK ops p fl := by
  simp only [drawOK, Bool.and_eq_true] at h
  have hmo := mapsOK_spec h.2
  replace h := h.1
  have hsp := drawOKs_spec ops.toList 0 h.2
  have hle : p ≤ ops.size := by simpa using Nat.le_of_ble_eq_true h.1
  have hf : ∀ (i : Nat) o, ops[i]? = some o → i < p → frontOK ops.toList p i o = true := fun i o ho hi => by
    have := (hsp i o (by simpa using ho)).2.1; simpa using this (by omega)
  refine ⟨hle, fun i o ho e he hb => ?_, fun i o ho hi => (frontOK_spec (hf i o ho hi)).1, fun i j d hi hj h1 h2 => ?_, fun i o ho hi hm => (frontOK_spec (hf i o ho hi)).2.2.1 hm, fun i o t a x ho hi hop => ?_,
    fun i j o o' t t' d x x' hi hj ho ho' h1 h2 => ?_, fun i o ho hi ℓ hdc hl j hj => ?_, fun i o cs b ho e => ?_, fun i o ho c e => ?_,
    fun i o t r ho hop => hmo.mkm i o t r (by simpa using ho) hop, fun i o t m ky x ho hop => ?_, fun i j o o' t t' d k x x' ho ho' h1 h2 => ?_, fun i o t m x ok ho hop hmO => ?_⟩
  · have := (hsp i o (by simpa using ho)).1
    rw [List.all_eq_true] at this
    have := this e (by simpa using he)
    rw [hb] at this
    have := blt_lt (by simpa using this : Nat.blt e.on (0 + i) = true)
    omega
  · rcases Nat.lt_trichotomy i j with hlt | he | hlt
    · have hjs : j < ops.size := by omega
      have := (frontOK_spec (hf j ops[j] (by simp [hjs]) hj)).2.1 d i (by rw [dstOf_eq] at h2; simpa [hjs] using h2) hlt
      exact absurd h1 this
    · exact he
    · have his : i < ops.size := by omega
      have := (frontOK_spec (hf i ops[i] (by simp [his]) hi)).2.1 d j (by rw [dstOf_eq] at h1; simpa [his] using h1) hlt
      exact absurd h2 this
  · obtain ⟨d, e1, e2, e3, ⟨j, o', e4, e5, e6⟩, _⟩ := (frontOK_spec (hf i o ho hi)).2.2.2 t a x hop
    exact ⟨d, e1, e2, e3, j, o', e4, by simpa using e5, e6⟩
  · rcases Nat.lt_trichotomy i j with hlt | he | hlt
    · obtain ⟨d', e1, _, _, _, e5⟩ := (frontOK_spec (hf j o' ho' hj)).2.2.2 t' _ x' h2
      cases e1
      exact absurd h1 (e5 i o t x hlt (by simpa using ho))
    · exact he
    · obtain ⟨d', e1, _, _, _, e5⟩ := (frontOK_spec (hf i o ho hi)).2.2.2 t _ x h1
      cases e1
      exact absurd h2 (e5 j o' t' x' hlt (by simpa using ho'))
  · have := (hsp i o (by simpa using ho)).2.2.1 (by omega)
    exact sufOK_spec hdc _ _ this (fun m hm => by simp at hm; subst hm; exact hl) j (by omega)
  · have := (hsp i o (by simpa using ho)).2.2.2
    simp [noDefer, e] at this
  · have := (hsp i o (by simpa using ho)).2.2.2
    simp [noDefer, e] at this
  · obtain ⟨h1, d, k, h2, h3, h4, h5, ⟨j, o', r, h6, h7, h8⟩, _⟩ := hmo.ins i o t m ky x (by simpa using ho) hop
    exact ⟨h1, d, k, h2, h3, h4, h5, j, o', r, h6, by simpa using h7, h8⟩
  · rcases Nat.lt_trichotomy i j with hlt | he | hlt
    · obtain ⟨_, d', k', e1, e2, _, _, _, e3⟩ := hmo.ins j o' t' _ _ x' (by simpa using ho') h2
      cases e1; cases e2
      exact absurd h1 (e3 i o t x hlt (by simpa using ho))
    · exact he
    · obtain ⟨_, d', k', e1, e2, _, _, _, e3⟩ := hmo.ins i o t _ _ x (by simpa using ho) h1
      cases e1; cases e2
      exact absurd h2 (e3 j o' t' x' hlt (by simpa using ho'))
  · obtain ⟨h1, d, h2, ⟨j, o', r, h6, h7, h8⟩, h9, h10⟩ := hmo.lk i o t m x ok (by simpa using ho) hop hmO
    refine ⟨h1, d, h2, ⟨j, o', r, h6, by simpa using h7, h8⟩, fun s os t' ky y hs hos => h9 s os t' ky y (by simpa using hs) hos, ?_⟩
    rcases h10 with e | ⟨q, oq, e0, e1, e2⟩
    · exact .inl e
    · exact .inr ⟨q, oq, e0, by simpa using e1, e2⟩
def tmL (S0 : Tms) (dst : Nat → Option Nat) (val : Nat → IV) (ℓ : Nat → Bool) : Nat → Tms
  | 0 => S0
  | k + 1 => match ℓ k, dst k with
    | true, some d => (d, val k) :: tmL S0 dst val ℓ k
    | _, _ => tmL S0 dst val ℓ k
section
variable {S0 : Tms} {dst : Nat → Option Nat} {val : Nat → IV} {ℓ : Nat → Bool}
theorem look_tmL_none {d : Nat} : ∀ {k : Nat}, (∀ i, i < k → ℓ i = true → dst i ≠ some d) → look (tmL S0 dst val ℓ k) d = look S0 d
  | 0, _ => rfl
  | k + 1, h => by
    have ih := look_tmL_none (d := d) (k := k) fun i hi => h i (by omega)
    simp only [tmL]
    split
    · rename_i d' h1 h2
      rw [look_cons, if_neg]
      · exact ih
      · intro e; subst e; exact h k (by omega) h1 h2
    · exact ih
theorem look_tmL_some {d i : Nat} : ∀ {k : Nat}, (∀ j, j < k → dst j = some d → j = i) → i < k → ℓ i = true → dst i = some d → look (tmL S0 dst val ℓ k) d = val i
  | k + 1, hinj, hi, hl, hd => by
    simp only [tmL]
    by_cases hik : i = k
    · subst hik
      rw [hl, hd]
      simp only
      rw [look_cons, if_pos rfl]
    · have ih := look_tmL_some (d := d) (i := i) (k := k) (fun j hj => hinj j (by omega)) (by omega) hl hd
      split
      · rename_i d' h1 h2
        rw [look_cons, if_neg]
        · exact ih
        · intro e; subst e; exact hik (hinj k (by omega) h2).symm
      · exact ih
theorem tmL_congr {val' : Nat → IV} : ∀ {k : Nat}, (∀ j, j < k → val' j = val j) → tmL S0 dst val' ℓ k = tmL S0 dst val ℓ k
  | 0, _ => rfl
  | k + 1, h => by simp only [tmL]; rw [tmL_congr (k := k) fun j hj => h j (by omega), h k (by omega)]
end
section
variable {sp : Nat → Bool} {C : Con} {Γ : Env} {all : List Oper} {cr : List Nat}
def lex (S0 : St) (all : List Oper) (val : Nat → IV) (i : Nat) : St := ⟨tmL S0.tm (dstOf all) val (fun _ => true) i, S0.ce, S0.up⟩
def MapT (Γ : Env) (t : Nat) : Prop := ∃ kt e, (Γ.T t).k = .map kt e ∧ (Γ.T kt).k = .str
structure InsOf (Γ : Env) (S : St) (d : Nat) (all : List Oper) (l : List (ByteArray × Bool)) : Prop where
  got : ∀ k b, (k, b) ∈ l → ∃ (s : Nat) (os : Oper) (t : Nat) (x : Operand), all[s]? = some os ∧ os.op = .insert t (.tmp d) (.const (.string k)) x ∧ evo Γ S x = .bool b
  has : ∀ (s : Nat) os t k x, all[s]? = some os → os.op = .insert t (.tmp d) (.const (.string k)) x → ∃ b, (k, b) ∈ l ∧ evo Γ S x = .bool b
theorem insK_spec {Γ : Env} {S : St} {d : Nat} : ∀ {l : List Oper} {K : List (ByteArray × Bool) → Prop}, insK Γ S d l K → ∃ r, InsOf Γ S d l r ∧ K r
  | [], K, h => ⟨[], ⟨fun k b h => (by cases h), fun s os t k x h => (by simp at h)⟩, h⟩
  | o :: l, K, h => by
    have skip : ∀ {K}, insK Γ S d l K → (∀ t k x, o.op ≠ .insert t (.tmp d) (.const (.string k)) x) → ∃ r, InsOf Γ S d (o :: l) r ∧ K r := fun h hno => by
      obtain ⟨r, h1, h2⟩ := insK_spec h
      refine ⟨r, ⟨fun k b hm => ?_, fun s os t k x hs hop => ?_⟩, h2⟩
      · obtain ⟨s, os, t, x, e1, e2⟩ := h1.got k b hm
        exact ⟨s + 1, os, t, x, by simpa using e1, e2⟩
      · cases s with
        | zero => simp at hs; subst hs; exact absurd hop (hno t k x)
        | succ s => exact h1.has s os t k x (by simpa using hs) hop
    unfold insK at h
    split at h
    · rename_i t d' k x hop
      split at h
      · rename_i hb
        have := (beq_iff _ _).1 hb
        subst this
        split at h
        · rename_i b hx
          obtain ⟨r, h1, h2⟩ := insK_spec h
          refine ⟨(k, b) :: r, ⟨fun k' b' hm => ?_, fun s os t' k' x' hs hop' => ?_⟩, h2⟩
          · rcases List.mem_cons.1 hm with e | hm
            · cases e; exact ⟨0, o, t, x, rfl, hop, hx⟩
            · obtain ⟨s, os, t', x', e1, e2⟩ := h1.got k' b' hm
              exact ⟨s + 1, os, t', x', by simpa using e1, e2⟩
          · cases s with
            | zero =>
              simp at hs; subst hs
              rw [hop] at hop'; cases hop'
              exact ⟨b, by simp, hx⟩
            | succ s =>
              obtain ⟨b', e1, e2⟩ := h1.has s os t' k' x' (by simpa using hs) hop'
              exact ⟨b', by simp [e1], e2⟩
        · exact h.elim
      · rename_i hb
        exact skip h fun t' k' x' e => by
          rw [hop] at e; cases e
          rw [Nat.beq_refl] at hb; cases hb
    · rename_i hno
      exact skip h fun t k x e => hno t d k x e
theorem mapK_spec {Γ : Env} {t : Nat} {p : Prop} (h : mapK Γ t p) : MapT Γ t ∧ p := by
  unfold mapK at h
  split at h
  · rename_i kt e hk
    split at h
    · rename_i hs; exact ⟨⟨kt, e, hk, hs⟩, h⟩
    · exact h.elim
  · exact h.elim
def MapF (Γ : Env) (S : St) (all : List Oper) (o : Oper) (v : IV) : Prop :=
  (∀ t r, o.op = .makeMap t r → v = .dead) ∧ (∀ t m ky x, o.op = .insert t m ky x → MapT Γ t ∧ ∃ b, evo Γ S x = .bool b) ∧
  ∀ t m x ok, o.op = .lookup t m x ok → mapO all o = true → ∃ d, m = .tmp d ∧ MapT Γ t ∧ ∃ s l, evo Γ S x = .str s ∧ InsOf Γ S (rootD d all) all l ∧ v = .tup [.bool (selS s l), .bool (hasS s l)]
theorem MapF.no {Γ : Env} {S : St} {all : List Oper} {o : Oper} {v : IV} (h : mapO all o = false) : MapF Γ S all o v :=
  ⟨fun t r e => by simp [mapO, e] at h, fun t m ky x e => by simp [mapO, e] at h, fun t m x ok e h' => by rw [h] at h'; cases h'⟩
structure Fact (sp : Nat → Bool) (C : Con) (Γ : Env) (all : List Oper) (cr : List Nat) (S0 : St) (val : Nat → IV) (act : Nat → Bool) (i : Nat) (o : Oper) : Prop where
  guard : match o.guard with
    | none => act i = true
    | some (j, want) => ∃ t, dstOf all j = some t ∧ ((∃ b, look (lex S0 all val i).tm t = .bool b ∧ act i = (want == b)) ∨ (look (lex S0 all val i).tm t = .tup [] ∧ act i = false))
  nt : ∀ d, o.dst = some d → d < Γ.nt
  off : act i = false → val i = .tup []
  alloc : act i = true → ∀ t, o.op = .alloc t → 0 < (Γ.T t).size ∧ val i = .dead
  box : act i = true → ∀ t x, o.op = .box t x → (∃ c, cellsI (evo Γ (lex S0 all val i) x) = some c) ∧ val i = .dead
  store : act i = true → ∀ t a x, o.op = .store t a x → 0 < (Γ.T t).size ∧ ∃ c, cellsI (evo Γ (lex S0 all val i) x) = some c ∧ c.length = (Γ.T t).size
  other : act i = true → (∀ t, o.op ≠ .alloc t) → (∀ t x, o.op ≠ .box t x) → (∀ t a x, o.op ≠ .store t a x) → mapO all o = false →
    (sp i = false → ∀ K : IV → Prop, K (val i) → pval C Γ (lex S0 all val i) o K) ∧ tagOK cr (lex S0 all val i) o (val i) = true
  maps : act i = true → MapF Γ (lex S0 all val i) all o (val i)
def putS (S : St) (d : Option Nat) (v : IV) : St := match d with
  | some t => ⟨(t, v) :: S.tm, S.ce, S.up⟩
  | none => S
theorem putT_spec {S : St} {d : Option Nat} {v : IV} {K : St → Prop} (h : putT Γ S d v K) : (∀ t, d = some t → t < Γ.nt) ∧ K (putS S d v) := by
  obtain ⟨tm, ce, up⟩ := S
  cases d with
  | none => exact ⟨nofun, h⟩
  | some t =>
    simp only [putT] at h
    split at h
    · rename_i hn; exact ⟨fun t' e => by cases e; exact blt_lt hn, h⟩
    · exact h.elim
structure Is (S0 : St) (all : List Oper) (val : Nat → IV) (i : Nat) (S : St) : Prop where
  tm : ∀ t, look S.tm t = look (lex S0 all val i).tm t
  ce : S.ce = S0.ce
  up : S.up = S0.up
theorem Is.alike {S0 S : St} {val : Nat → IV} {i : Nat} (h : Is S0 all val i S) (ts : List Nat) : Alike ts S (lex S0 all val i) := ⟨fun t _ => h.tm t, h.ce, h.up⟩
theorem evo_is {S0 S : St} {val : Nat → IV} {i : Nat} (h : Is S0 all val i S) (x : Operand) : evo Γ S x = evo Γ (lex S0 all val i) x := by
  cases x <;> simp [evo]
  exact h.tm _
theorem Is.put {S0 S : St} {val : Nat → IV} {i : Nat} {o : Oper} (h : Is S0 all val i S) (ho : all[i]? = some o) :
    Is S0 all val (i + 1) (putS S o.dst (val i)) := by
  have hd : dstOf all i = o.dst := by rw [dstOf_eq, ho]; rfl
  cases hdo : o.dst with
  | none =>
    refine ⟨fun t => ?_, h.ce, h.up⟩
    simp only [putS, lex, tmL, hd, hdo]
    exact h.tm t
  | some d =>
    refine ⟨fun t => ?_, h.ce, h.up⟩
    simp only [putS, lex, tmL, hd, hdo]
    rw [look_cons, look_cons]
    split
    · rfl
    · exact h.tm t
theorem Is.congr {S0 S : St} {val val' : Nat → IV} {i : Nat} (h : Is S0 all val i S) (hv : ∀ j, j < i → val' j = val j) : Is S0 all val' i S := by
  refine ⟨fun t => ?_, h.ce, h.up⟩
  rw [h.tm t]; simp only [lex]; rw [tmL_congr hv]
theorem Fact.congr {S0 : St} {val val' : Nat → IV} {act act' : Nat → Bool} {i : Nat} {o : Oper} (h : Fact sp C Γ all cr S0 val act i o) (hv : ∀ j, j ≤ i → val' j = val j) (ha : act' i = act i) : Fact sp C Γ all cr S0 val' act' i o := by
  have hl : lex S0 all val' i = lex S0 all val i := by simp only [lex]; rw [tmL_congr fun j hj => hv j (by omega)]
  refine ⟨?_, h.nt, ?_, ?_, ?_, ?_, ?_, ?_⟩
  · rw [hl, ha]; exact h.guard
  · rw [ha, hv i (Nat.le_refl _)]; exact h.off
  · rw [ha, hv i (Nat.le_refl _)]; exact h.alloc
  · rw [ha, hv i (Nat.le_refl _), hl]; exact h.box
  · rw [ha, hl]; exact h.store
  · rw [ha, hv i (Nat.le_refl _), hl]; exact h.other
  · rw [ha, hv i (Nat.le_refl _), hl]; exact h.maps
def setF {α : Type} (f : Nat → α) (i : Nat) (v : α) : Nat → α := fun j => if j = i then v else f j
theorem setF_self {α : Type} (f : Nat → α) (i : Nat) (v : α) : setF f i v i = v := by simp [setF]
theorem setF_lt {α : Type} (f : Nat → α) (i : Nat) (v : α) {j : Nat} (h : j < i) : setF f i v j = f j := by simp [setF]; omega
theorem pstep_spec {S0 S : St} {val : Nat → IV} {act : Nat → Bool} {i : Nat} {o : Oper} {K : St → Prop} (h : pstep C Γ all cr S o K) (hs : Is S0 all val i S) (ho : all[i]? = some o)
    (hg : match o.guard with
      | none => True
      | some (j, want) => ∃ t, dstOf all j = some t ∧ ((∃ b, look (lex S0 all val i).tm t = .bool b ∧ true = (want == b)) ∨ (look (lex S0 all val i).tm t = .tup [] ∧ true = false)))
    (hst : ∀ t a x, o.op = .store t a x → o.dst = none) (hin : ∀ t m ky x, o.op = .insert t m ky x → o.dst = none) :
    ∃ v S', Fact sp C Γ all cr S0 (setF val i v) (setF act i true) i o ∧ Is S0 all (setF val i v) (i + 1) S' ∧ K S' := by
  have hlex : ∀ v, lex S0 all (setF val i v) i = lex S0 all val i := fun v => by simp only [lex]; rw [tmL_congr fun j hj => setF_lt val i v hj]
  have his : ∀ v, Is S0 all (setF val i v) i S := fun v => hs.congr fun j hj => setF_lt val i v hj
  have hg' : ∀ v, match o.guard with
    | none => setF act i true i = true
    | some (j, want) => ∃ t, dstOf all j = some t ∧ ((∃ b, look (lex S0 all (setF val i v) i).tm t = .bool b ∧ setF act i true i = (want == b)) ∨ (look (lex S0 all (setF val i v) i).tm t = .tup [] ∧ setF act i true i = false)) := fun v => by
    rw [hlex, setF_self]
    split
    · rfl
    · rename_i j want e; rw [e] at hg; exact hg
  have fin : ∀ v, K (putS S o.dst v) → (∀ d, o.dst = some d → d < Γ.nt) →
      (∀ t, o.op = .alloc t → 0 < (Γ.T t).size ∧ v = .dead) → (∀ t x, o.op = .box t x → (∃ c, cellsI (evo Γ (lex S0 all val i) x) = some c) ∧ v = .dead) →
      (∀ t a x, o.op = .store t a x → 0 < (Γ.T t).size ∧ ∃ c, cellsI (evo Γ (lex S0 all val i) x) = some c ∧ c.length = (Γ.T t).size) →
      ((∀ t, o.op ≠ .alloc t) → (∀ t x, o.op ≠ .box t x) → (∀ t a x, o.op ≠ .store t a x) → mapO all o = false → (∀ K : IV → Prop, K v → pval C Γ (lex S0 all val i) o K) ∧ tagOK cr (lex S0 all val i) o v = true) →
      MapF Γ (lex S0 all val i) all o v →
      ∃ v S', Fact sp C Γ all cr S0 (setF val i v) (setF act i true) i o ∧ Is S0 all (setF val i v) (i + 1) S' ∧ K S' := fun v hk hn h1 h2 h3 h4 h5 => by
    refine ⟨v, _, ⟨hg' v, hn, fun e => (by rw [setF_self] at e; cases e), fun _ t e => ?_, fun _ t x e => ?_, fun _ t a x e => ?_, fun _ e1 e2 e3 e4 => ?_, fun _ => ?_⟩, (his v).put ho, ?_⟩
    · rw [setF_self]; exact h1 t e
    · rw [setF_self, hlex]; exact h2 t x e
    · rw [hlex]; exact h3 t a x e
    · rw [setF_self, hlex]; exact ⟨fun _ => (h4 e1 e2 e3 e4).1, (h4 e1 e2 e3 e4).2⟩
    · rw [setF_self, hlex]; exact h5
    · rw [setF_self]; exact hk
  unfold pstep at h
  split at h
  · rename_i t r hop
    obtain ⟨hn, hk⟩ := putT_spec h
    exact fin .dead hk hn (fun t' e => by rw [hop] at e; cases e) (fun t' x e => by rw [hop] at e; cases e) (fun t' a x e => by rw [hop] at e; cases e) (fun _ _ _ e => by simp [mapO, hop] at e)
      ⟨fun _ _ _ => rfl, fun t m ky x e => (by rw [hop] at e; cases e), fun t m x ok e _ => (by rw [hop] at e; cases e)⟩
  · rename_i t m ky x hop
    obtain ⟨hT, h⟩ := mapK_spec h
    split at h
    · rename_i b hb
      have hd := hin t m ky x hop
      refine fin .dead (by rw [hd]; exact h) (fun d e => by rw [hd] at e; cases e) (fun t' e => by rw [hop] at e; cases e) (fun t' x e => by rw [hop] at e; cases e) (fun t' a x e => by rw [hop] at e; cases e) (fun _ _ _ e => by simp [mapO, hop] at e)
        ⟨fun t r e => rfl, fun t' m' ky' x' e => (by rw [hop] at e; cases e; exact ⟨hT, b, by rw [← evo_is hs]; exact hb⟩), fun t m x ok e _ => (by rw [hop] at e; cases e)⟩
    · exact h.elim
  · rename_i t d x ok hop
    split at h
    case h_2 =>
      rename_i hmd
      have hno : mapO all o = false := by simp only [mapO, hop]; exact hmd
      obtain ⟨v, h1, h2⟩ := pval_wit h
      split at h1
      · rename_i ht
        obtain ⟨hn, hk⟩ := putT_spec h1
        refine fin v hk hn (fun t' e => by rw [hop] at e; cases e) (fun t' x e => by rw [hop] at e; cases e) (fun t' a x e => by rw [hop] at e; cases e) (fun _ _ _ _ => ⟨fun K' hk' => pval_alike (hs.alike _) (h2 K' hk'), ?_⟩) (.no hno)
        rw [← tagOK_alike fun t _ => hs.tm t]; exact ht
      · exact h1.elim
    rename_i hmd
    obtain ⟨hT, h⟩ := mapK_spec h
    split at h
    · rename_i s hb
      obtain ⟨l, hl, h⟩ := insK_spec h
      obtain ⟨hn, hk⟩ := putT_spec h
      refine fin _ hk hn (fun t' e => by rw [hop] at e; cases e) (fun t' x e => by rw [hop] at e; cases e) (fun t' a x e => by rw [hop] at e; cases e) (fun _ _ _ e => by simp only [mapO, hop] at e; rw [hmd] at e; cases e)
        ⟨fun t r e => (by rw [hop] at e; cases e), fun t' m' ky' x' e => (by rw [hop] at e; cases e), fun t' m' x' ok' e _ => (by
          rw [hop] at e; cases e
          refine ⟨d, rfl, hT, s, l, by rw [← evo_is hs]; exact hb, ⟨fun k b hm => ?_, fun s os t k x h1 h2 => ?_⟩, rfl⟩
          · obtain ⟨s', os, t, x, e1, e2, e3⟩ := hl.got k b hm
            exact ⟨s', os, t, x, e1, e2, by rw [← evo_is hs]; exact e3⟩
          · obtain ⟨b, e1, e2⟩ := hl.has s os t k x h1 h2
            exact ⟨b, e1, by rw [← evo_is hs]; exact e2⟩)⟩
    · exact h.elim
  · rename_i t hop
    obtain ⟨h0, h⟩ := tyK_spec h
    obtain ⟨hn, hk⟩ := putT_spec h
    exact fin .dead hk hn (fun t' e => (by rw [hop] at e; cases e; exact ⟨h0, rfl⟩)) (fun t' x e => by rw [hop] at e; cases e) (fun t' a x e => by rw [hop] at e; cases e) (fun e => absurd hop (e t)) (.no (by simp [mapO, hop]))
  · rename_i t x hop
    rw [ev_eq] at h
    split at h
    · rename_i c hc
      obtain ⟨hn, hk⟩ := putT_spec h
      exact fin .dead hk hn (fun t' e => by rw [hop] at e; cases e) (fun t' x' e => (by rw [hop] at e; cases e; exact ⟨⟨c, by rw [← evo_is hs]; exact hc⟩, rfl⟩)) (fun t' a x e => by rw [hop] at e; cases e) (fun _ e => absurd hop (e t x)) (.no (by simp [mapO, hop]))
    · exact h.elim
  · rename_i t a x hop
    obtain ⟨h0, h⟩ := tyK_spec h
    rw [ev_eq] at h
    obtain ⟨c, hc, hl, hk⟩ := cellsK_spec h
    have hd := hst t a x hop
    refine fin .dead (by rw [hd]; exact hk) (fun d e => by rw [hd] at e; cases e) (fun t' e => by rw [hop] at e; cases e) (fun t' x' e => by rw [hop] at e; cases e)
      (fun t' a' x' e => (by rw [hop] at e; cases e; exact ⟨h0, c, by rw [← evo_is hs]; exact hc, hl⟩)) (fun _ _ e => absurd hop (e t a x)) (.no (by simp [mapO, hop]))
  · rename_i m1 m2 m3 n1 n2 n3
    have hno : mapO all o = false := by
      unfold mapO
      split
      · rename_i t r e; exact absurd e (m1 t r)
      · rename_i t m k x e; exact absurd e (m2 t m k x)
      · rename_i t m x k e; exact absurd e (m3 t m x k)
      · rfl
    obtain ⟨v, h1, h2⟩ := pval_wit h
    split at h1
    · rename_i ht
      obtain ⟨hn, hk⟩ := putT_spec h1
      refine fin v hk hn (fun t e => (n1 t e).elim) (fun t x e => (n2 t x e).elim) (fun t a x e => (n3 t a x e).elim) (fun _ _ _ _ => ⟨fun K' hk' => pval_alike (hs.alike _) (h2 K' hk'), ?_⟩) (.no hno)
      rw [← tagOK_alike fun t _ => hs.tm t]; exact ht
    · exact h1.elim
theorem pres_spec {S0 : St} {K : St → Prop} (hst : ∀ (i : Nat) o t a x, all[i]? = some o → o ∈ all → o.op = .store t a x → True) {p : Nat}
    (hstd : ∀ (i : Nat) o t a x, i < p → all[i]? = some o → o.op = .store t a x → o.dst = none) (hind : ∀ (i : Nat) o t m ky x, all[i]? = some o → o.op = .insert t m ky x → o.dst = none) :
    ∀ (rest : List Oper) (i : Nat) (val : Nat → IV) (act : Nat → Bool) (S : St), i + rest.length = p → (∀ j, j < rest.length → rest[j]? = all[i + j]?) → Is S0 all val i S →
      (∀ (j : Nat) o, j < i → all[j]? = some o → Fact sp C Γ all cr S0 val act j o) → pres C Γ all cr rest K S →
      ∃ val' act' S', (∀ (j : Nat) o, j < p → all[j]? = some o → Fact sp C Γ all cr S0 val' act' j o) ∧ Is S0 all val' p S' ∧ K S' ∧ ∀ j, j < i → val' j = val j
  | [], i, val, act, S, hp, hr, hs, hf, h => by
    simp at hp; subst hp
    exact ⟨val, act, S, hf, hs, h, fun _ _ => rfl⟩
  | o :: rest, i, val, act, S, hp, hr, hs, hf, h => by
    have ho : all[i]? = some o := by have := hr 0 (by simp); simpa using this.symm
    have hp' : i + 1 + rest.length = p := by simp at hp; omega
    have hr' : ∀ j, j < rest.length → rest[j]? = all[i + 1 + j]? := fun j hj => by
      have := hr (j + 1) (by simp; omega)
      simp at this; rw [this]; congr 1; omega
    have next : ∀ v b (S' : St), Fact sp C Γ all cr S0 (setF val i v) (setF act i b) i o → Is S0 all (setF val i v) (i + 1) S' → pres C Γ all cr rest K S' →
        ∃ val' act' S', (∀ (j : Nat) o, j < p → all[j]? = some o → Fact sp C Γ all cr S0 val' act' j o) ∧ Is S0 all val' p S' ∧ K S' ∧ ∀ j, j < i → val' j = val j := fun v b S' hF hS' hk =>
      (fun ⟨v', a', S2, g1, g2, g3, g4⟩ => ⟨v', a', S2, g1, g2, g3, fun j hj => (g4 j (by omega)).trans (setF_lt val i v hj)⟩) (pres_spec hst hstd hind rest (i + 1) (setF val i v) (setF act i b) S' hp' hr' hS' (fun j o' hj ho' => by
        rcases Nat.lt_or_ge j i with hlt | hge
        · exact (hf j o' hlt ho').congr (fun k hk => setF_lt val i v (by omega)) (setF_lt act i b hlt)
        · have : j = i := by omega
          subst this; rw [ho] at ho'; cases ho'; exact hF) hk)
    have hlex : ∀ v, lex S0 all (setF val i v) i = lex S0 all val i := fun v => by simp only [lex]; rw [tmL_congr fun j hj => setF_lt val i v hj]
    simp only [pres] at h
    have hst' : ∀ t a x, o.op = .store t a x → o.dst = none := fun t a x e => hstd i o t a x (by simp at hp; omega) ho e
    have hin' : ∀ t m ky x, o.op = .insert t m ky x → o.dst = none := fun t m ky x e => hind i o t m ky x ho e
    split at h
    · rename_i hg
      obtain ⟨v, S', h1, h2, h3⟩ := pstep_spec (act := act) h hs ho (by rw [hg]; trivial) hst' hin'
      exact next v true S' h1 h2 h3
    · rename_i j want hg
      split at h
      · exact h.elim
      · rename_i t hd
        split at h
        · rename_i b hb
          have hb' : look (lex S0 all val i).tm t = .bool b := by rw [← hs.tm]; exact hb
          have h := brk_spec h
          obtain ⟨_, h⟩ := putT_spec h
          simp only [putS] at h ⊢
          have hs2 : Is S0 all val i ⟨(t, .bool b) :: S.tm, S.ce, S.up⟩ := by
            refine ⟨fun t' => ?_, hs.ce, hs.up⟩
            simp only [look_cons]
            split
            · rename_i e; subst e; exact hb'.symm
            · exact hs.tm t'
          have live : pstep C Γ all cr ⟨(t, .bool b) :: S.tm, S.ce, S.up⟩ o (pres C Γ all cr rest K) → want = b → ∃ val' act' S', (∀ (j : Nat) o, j < p → all[j]? = some o → Fact sp C Γ all cr S0 val' act' j o) ∧ Is S0 all val' p S' ∧ K S' ∧ ∀ j, j < i → val' j = val j := fun h e => by
            obtain ⟨v, S', h1, h2, h3⟩ := pstep_spec (act := act) h hs2 ho (by rw [hg]; exact ⟨t, hd, .inl ⟨b, hb', by simp [e]⟩⟩) hst' hin'
            exact next v true S' h1 h2 h3
          have dead : putT Γ ⟨(t, .bool b) :: S.tm, S.ce, S.up⟩ o.dst (.tup []) (pres C Γ all cr rest K) → want ≠ b → ∃ val' act' S', (∀ (j : Nat) o, j < p → all[j]? = some o → Fact sp C Γ all cr S0 val' act' j o) ∧ Is S0 all val' p S' ∧ K S' ∧ ∀ j, j < i → val' j = val j := fun h e => by
            obtain ⟨hn, hk⟩ := putT_spec h
            have hfalse : ∀ {q : Prop}, setF act i false i = true → q := fun h => by rw [setF_self] at h; cases h
            refine next (.tup []) false _ ⟨?_, hn, fun _ => setF_self val i (.tup []), fun h => hfalse h, fun h => hfalse h, fun h => hfalse h, fun h => hfalse h, fun h => hfalse h⟩ ((hs2.congr fun j hj => setF_lt val i (.tup []) hj).put ho) ?_
            · rw [hg]; simp only; rw [hlex, setF_self]
              exact ⟨t, hd, .inl ⟨b, hb', by cases want <;> cases b <;> simp at e ⊢⟩⟩
            · rw [setF_self]; exact hk
          cases want <;> cases b <;> simp only at h
          · exact live h rfl
          · exact dead h nofun
          · exact dead h nofun
          · exact live h rfl
        · rename_i hb
          have hb' : look (lex S0 all val i).tm t = .tup [] := by rw [← hs.tm]; exact hb
          obtain ⟨hn, hk⟩ := putT_spec h
          have hfalse : ∀ {q : Prop}, setF act i false i = true → q := fun h => by rw [setF_self] at h; cases h
          refine next (.tup []) false _ ⟨?_, hn, fun _ => setF_self val i (.tup []), fun h => hfalse h, fun h => hfalse h, fun h => hfalse h, fun h => hfalse h, fun h => hfalse h⟩ ((hs.congr fun j hj => setF_lt val i (.tup []) hj).put ho) ?_
          · rw [hg]; simp only; rw [hlex, setF_self]
            exact ⟨t, hd, .inr ⟨hb', rfl⟩⟩
          · rw [setF_self]; exact hk
        · exact h.elim
end
end Go.Proofs.YtfoenhiohhmnlaaGreatDoor.Ix

namespace Go.Proofs.YtfoenhiohhmnlaaGreatDoor.Ix
set_option linter.unusedVariables false
set_option linter.unusedSimpArgs false
mutual
theorem hasTag_drop (d e : Nat) : ∀ (v : IV), hasTag d v = false ∨ d = e → hasTag d (dropTag e v) = false
  | .lst none _ _ _, _ => rfl
  | .lst (some u) e' n f, h => by
    simp only [dropTag]
    split
    · rfl
    · rename_i hu
      rcases h with h | h
      · exact h
      · subst h; simpa [hasTag] using hu
  | .agg xs, h => by simp only [dropTag, hasTag]; exact hasTagL_drop d e xs (by simpa [hasTag] using h)
  | .tup xs, h => by simp only [dropTag, hasTag]; exact hasTagL_drop d e xs (by simpa [hasTag] using h)
  | .mp _ xs, h => by simp only [dropTag, hasTag]; exact hasTagL_drop d e xs (by simpa [hasTag] using h)
  | .fn f a c, h => by
    simp only [dropTag, hasTag, Bool.or_eq_false_iff]
    exact ⟨hasTagL_drop d e a (by rcases h with h | h; · simp [hasTag] at h; exact .inl h.1
                                  · exact .inr h), hasTagL_drop d e c (by rcases h with h | h; · simp [hasTag] at h; exact .inl h.2
                                                                          · exact .inr h)⟩
  | .int _ _, _ | .bool _, _ | .str _, _ | .lit _, _ | .nilS, _ | .ptr _ _ _, _ | .vptr _ _ _ _ _, _ | .row _ _ _ _ _, _ | .ifc, _ | .dead, _ => rfl
  | .raw u _ _, h => by
    simp only [dropTag]
    split
    · rfl
    · rename_i hu
      rcases h with h | h
      · exact h
      · subst h; simpa [hasTag] using hu
theorem hasTagL_drop (d e : Nat) : ∀ (l : List IV), hasTagL d l = false ∨ d = e → hasTagL d (dropTagL e l) = false
  | [], _ => rfl
  | x :: r, h => by
    simp only [dropTagL, hasTagL, Bool.or_eq_false_iff]
    exact ⟨hasTag_drop d e x (by rcases h with h | h; · simp [hasTagL] at h; exact .inl h.1
                                 · exact .inr h), hasTagL_drop d e r (by rcases h with h | h; · simp [hasTagL] at h; exact .inl h.2
                                                                         · exact .inr h)⟩
end
theorem tmTag_drop (d e : Nat) : ∀ (l : Tms), tmTag d l = false ∨ d = e → tmTag d (tmDrop e l) = false
  | [], _ => rfl
  | (i, v) :: r, h => by
    simp only [tmDrop, tmTag, Bool.or_eq_false_iff]
    exact ⟨hasTag_drop d e v (by rcases h with h | h; · simp [tmTag] at h; exact .inl h.1
                                 · exact .inr h), tmTag_drop d e r (by rcases h with h | h; · simp [tmTag] at h; exact .inl h.2
                                                                       · exact .inr h)⟩
theorem ceTag_drop (d e : Nat) : ∀ (l : Ces), ceTag d l = false ∨ d = e → ceTag d (ceDrop e l) = false
  | [], _ => rfl
  | (i, v) :: r, h => by
    simp only [ceDrop, ceTag, Bool.or_eq_false_iff]
    exact ⟨hasTagL_drop d e v (by rcases h with h | h; · simp [ceTag] at h; exact .inl h.1
                                  · exact .inr h), ceTag_drop d e r (by rcases h with h | h; · simp [ceTag] at h; exact .inl h.2
                                                                        · exact .inr h)⟩
def noTags (ds : List Nat) (S : St) : Prop := ∀ d ∈ ds, tmTag d S.tm = false ∧ ceTag d S.ce = false
section
variable {Γ : Env} {S : St} {a : Act} {w : World} {I : Imm} {X : Nat → Prop} {β : Beta} {σ : Nat → Sig} {K : St → Prop}
theorem untag_keeps {t : Nat} (h : untag t S K) : ∃ S', K S' ∧ (∀ d, (tmTag d S.tm = false ∨ d = t) → tmTag d S'.tm = false) ∧ (∀ d, (ceTag d S.ce = false ∨ d = t) → ceTag d S'.ce = false) ∧ untag t S (fun S2 => S2 = S') := by
  obtain ⟨tm, ce, up⟩ := S
  simp only [untag] at h ⊢
  split at h
  · rename_i hh
    exact ⟨_, h, fun d hd => tmTag_drop d t tm hd, fun d hd => ceTag_drop d t ce hd, rfl⟩
  · rename_i hn
    simp at hn
    exact ⟨_, h, fun d hd => by rcases hd with hd | rfl; · exact hd
                                · exact hn.1, fun d hd => by rcases hd with hd | rfl; · exact hd
                                                             · exact hn.2, rfl⟩
theorem untagL_sound : ∀ (ds ds0 : List Nat) (S : St) (σ : Nat → Sig), untagL ds K S → noTags ds0 S → Rel Γ S a w I X β σ → ∃ S' σ', K S' ∧ Rel Γ S' a w I X β σ' ∧ (∀ l, σ' (l + 1) = σ (l + 1)) ∧ noTags (ds ++ ds0) S'
  | [], ds0, S, σ, h, hn, r => ⟨S, σ, h, r, fun _ => rfl, hn⟩
  | d :: ds, ds0, S, σ, h, hn, r => by
    simp only [untagL] at h
    obtain ⟨S', hk, k1, k2, k3⟩ := untag_keeps h
    obtain ⟨S2, e, r', _, _⟩ := untag_sound k3 r
    subst e
    obtain ⟨S3, σ3, h1, h2, h3, h4⟩ := untagL_sound ds (d :: ds0) S2 _ hk (fun e he => by
      rcases List.mem_cons.1 he with rfl | he
      · exact ⟨k1 _ (.inr rfl), k2 _ (.inr rfl)⟩
      · exact ⟨k1 _ (.inl (hn e he).1), k2 _ (.inl (hn e he).2)⟩) r'
    exact ⟨S3, σ3, h1, h2, h3, fun e he => h4 e (by simp at he ⊢; rcases he with rfl | he | he <;> simp [*])⟩
theorem Rel.congr {S' : St} (r : Rel Γ S a w I X β σ) (h : ∀ t, look S'.tm t = look S.tm t) (hc : S'.ce = S.ce) (hu : S'.up = S.up) : Rel Γ S' a w I X β σ :=
  ⟨fun i => by rw [h]; exact r.tm i, r.df, r.nt, by rw [hc, hu]; exact r.mem, r.own⟩
theorem Rel.sub {Y : Nat → Prop} (r : Rel Γ S a w I Y β σ) (h : ∀ b, X b → Y b) : Rel Γ S a w I X β σ :=
  ⟨r.tm, r.df.to (fun _ _ h _ => h) (fun _ _ h hx => h (‹∀ b, X b → Y b› _ hx)), r.nt, ⟨fun l d c hc => by obtain ⟨b, arr, el, h1, h2, h3, h4, h5, h6, h7⟩ := r.mem.cell l d c hc; exact ⟨b, arr, el, h1, h2, h3, h4, h5, h6, fun hx => h7 (h b hx)⟩,
    r.mem.inj, r.mem.keys, r.mem.im, r.mem.glo, fun b hb => r.mem.xb b (h b hb), r.mem.gz⟩,
   ⟨fun t g hg => by obtain ⟨cur, k1, k2, k3, k4, k5, k6, k7⟩ := r.own.row t g hg; exact ⟨cur, k1, k2, k3, k4, k5, fun hx => k6 (h _ hx), k7⟩, r.own.inj⟩⟩
theorem hideAux {Y : Nat → Prop} (r : Rel Γ S a w I X β σ) (o : Obj) (h : ∀ b, Y b → X b ∨ b = w.heap.size) {D : Nat} (hs : D ≠ w.heap.size) (hx : ¬ X D) : ¬ Y D := by
  intro hy
  rcases h D hy with h | h
  · exact hx h
  · exact hs h
theorem Rel.hide {Y : Nat → Prop} (r : Rel Γ S a w I X β σ) (o : Obj) (h : ∀ b, Y b → X b ∨ b = w.heap.size) : Rel Γ S a (w.alloc o) I Y β σ := by
  have r' := r.alloc o
  refine ⟨r'.tm, (r.df.to (w' := w.alloc o) (Y := Y) (fun k o' hk _ => by rw [heap_alloc_old w o k (heap_lt hk)]; exact hk) (fun D hD hx => hideAux r o h (by have := heap_lt hD; omega) hx)), r'.nt, ⟨fun l d c hc => ?_, r'.mem.inj, r'.mem.keys, r'.mem.im, r'.mem.glo, fun b hb => ?_, r'.mem.gz⟩, ⟨fun t g hg => ?_, r'.own.inj⟩⟩
  · obtain ⟨b, arr, el, h1, h2, h3, h4, h5, h6, h7⟩ := r.mem.cell l d c hc
    refine ⟨b, arr, el, h1, by rw [heap_alloc_old w o b (heap_lt h2)]; exact h2, h3, h4, h5, h6, fun hy => ?_⟩
    rcases h b hy with hx | hx
    · exact h7 hx
    · have := heap_lt h2; omega
  · rcases h b hb with hx | hx
    · have := r.mem.xb b hx; simp; omega
    · simp; omega
  · obtain ⟨cur, k1, k2, k3, k4, k5, k6, k7⟩ := r.own.row t g hg
    refine ⟨cur, by rw [heap_alloc_old w o _ (heap_lt k1)]; exact k1, k2, k3, k4, k5, fun hy => ?_, k7⟩
    rcases h _ hy with hx | hx
    · exact k6 hx
    · have := heap_lt k1; omega
theorem Rel.lays {b : Nat} (r : Rel Γ S a w I X β σ) (hX : X b) (hI : ∀ j, I ⟨b, j, none⟩ = none) (hI' : ∀ x v, I x = some v → x.block = b → False) (arr : Array Value) : Rel Γ S a (w.setRow b arr) I X β σ := by
  refine ⟨r.tm, r.df.to (setRow_fix w b arr) (fun _ _ h => h), r.nt, ⟨fun l d c hc => ?_, r.mem.inj, r.mem.keys, fun x v hx => ?_, r.mem.glo, fun b hb => by simpa using r.mem.xb b hb, r.mem.gz.one r.mem.glo b hI (fun k hk => setRow_other w b k arr hk)⟩, ⟨fun t g hg => ?_, r.own.inj⟩⟩
  · obtain ⟨b', arr', el, h1, h2, h3, h4, h5, h6, h7⟩ := r.mem.cell l d c hc
    refine ⟨b', arr', el, h1, ?_, h3, h4, h5, h6, h7⟩
    rw [setRow_other w b b' arr (fun e => h7 (e ▸ hX))]; exact h2
  · have hb : x.block ≠ b := fun e => hI' x v hx e
    have := r.mem.im x v hx
    rw [← this]
    exact hcell_of_block (setRow_other w b x.block arr hb)
  · obtain ⟨cur, k1, k2, k3, k4, k5, k6, k7⟩ := r.own.row t g hg
    refine ⟨cur, ?_, k2, k3, k4, k5, k6, k7⟩
    rw [setRow_other w b g.b arr (fun e => k6 (e ▸ hX))]; exact k1
theorem adopt0_sound {d b el : Nat} {c : List IV} {vs : Array Value} {Y : Nat → Prop} (h : newC0 Γ S d c K) (r : Rel Γ S a w I Y β σ) (hY : Y b) (hXY : ∀ b, X b → Y b) (hX : ¬ X b)
    (hh : w.heap[b]? = some (.cells vs el (0, 0))) (hI : ∀ j, I ⟨b, j, none⟩ = none) (ha : a.tmps.getD d undef = .pointer (some ⟨b, 0, none⟩)) (hc : CV I β (σ 0) c vs) :
    ∃ S' β', K S' ∧ Rel Γ S' a w I X β' σ ∧ Above β β' σ σ := by
  have r0 := r.sub hXY
  obtain ⟨tm, ce, up⟩ := S
  simp only [newC0] at h
  split at h
  · exact h.elim
  rename_i hk
  split at h
  case h_2 => exact h.elim
  rename_i hd
  have hno := hasKey_spec ce d hk
  have hb0 : β 0 d = none := by
    cases hb : β 0 d with
    | none => rfl
    | some b => obtain ⟨c, hc⟩ := r.mem.keys 0 d b hb; simp [upC, hno] at hc
  let β' : Beta := fun l d' => if l = 0 ∧ d' = d then some b else β l d'
  have hle : ∀ l d' b, β l d' = some b → β' l d' = some b := by
    intro l d' b hb
    show (if l = 0 ∧ d' = d then _ else _) = _
    rw [if_neg]; exact hb
    rintro ⟨rfl, rfl⟩; rw [hb0] at hb; cases hb
  have hnew : ∀ l d' b', β l d' = some b' → b' ≠ b := by
    intro l d' b' hb e
    obtain ⟨c, hc⟩ := r.mem.keys l d' b' hb
    obtain ⟨b'', arr, el, h1, h2, _, _, _, _, h7⟩ := r.mem.cell l d' c hc
    rw [hb] at h1; cases h1
    exact h7 (e ▸ hY)
  refine ⟨_, β', h, ⟨fun i => ?_, r0.df, r.nt, ⟨fun l d' c' hc' => ?_, fun l d' l' d'' b hb hb' => ?_, fun l d' b hb => ?_, r0.mem.im, r0.mem.glo, r0.mem.xb, r0.mem.gz⟩, ⟨fun t g hg => ?_, r.own.inj⟩⟩, ⟨fun l => ?_, fun _ => rfl⟩⟩
  · simp only [look_cons]
    split
    · rename_i e; subst e
      rw [ha]
      exact .ptr 0 d 0 _ (by show (if _ then _ else _) = _; simp)
    · exact (r.tm i).mono (fun _ _ h => h) hle (fun _ _ h => h)
  · by_cases hld : l = 0 ∧ d' = d
    · obtain ⟨rfl, rfl⟩ := hld
      simp [upC, lookC_cons] at hc'; subst hc'
      refine ⟨b, vs, el, by show (if _ then _ else _) = _; simp, hh, hc.1.symm, hc.2.1, fun j x hx => ?_, hI, hX⟩
      have := (hc.2.2 j x hx).mono (fun _ _ h => h) hle (fun _ _ h => h)
      simpa using this
    · have hc'' : lookC (upC (ce :: up) l) d' = some c' := by
        cases l with
        | zero => simp only [upC, lookC_cons] at hc' ⊢; rw [if_neg (fun e => hld ⟨rfl, e.symm⟩)] at hc'; exact hc'
        | succ l => exact hc'
      obtain ⟨b, arr, el', h1, h2, h3, h4, h5, h6⟩ := r0.mem.cell l d' c' hc''
      exact ⟨b, arr, el', hle _ _ _ h1, h2, h3, h4, fun j x hx => (h5 j x hx).mono (fun _ _ h => h) (fun l' d0 b0 h => hle _ _ _ h) (fun _ _ h => h), h6⟩
  · have hb : (if l = 0 ∧ d' = d then some _ else β l d') = some b := hb
    have hb' : (if l' = 0 ∧ d'' = d then some _ else β l' d'') = some b := hb'
    split at hb <;> split at hb'
    · rename_i h1 h2; exact ⟨by omega, by omega⟩
    · cases hb; exact absurd rfl (hnew _ _ _ hb')
    · cases hb'; exact absurd rfl (hnew _ _ _ hb)
    · exact r.mem.inj _ _ _ _ _ hb hb'
  · have hb : (if l = 0 ∧ d' = d then some _ else β l d') = some b := hb
    split at hb
    · rename_i h; obtain ⟨rfl, rfl⟩ := h; exact ⟨c, by simp [upC, lookC_cons]⟩
    · obtain ⟨c', hc'⟩ := r.mem.keys l d' b hb
      cases l with
      | zero => simp only [upC] at hc' ⊢; rw [lookC_cons]; split <;> exact ⟨_, by first | rfl | exact hc'⟩
      | succ l => exact ⟨c', hc'⟩
  · obtain ⟨cur, h1, h2, h3, h4, h5, h6, h7⟩ := r.own.row t g hg
    refine ⟨cur, h1, h2, h3, h4, h5, fun hx => h6 (hXY _ hx), fun l d' hb => ?_⟩
    have hb : (if l = 0 ∧ d' = d then some b else β l d') = some g.b := hb
    split at hb
    · cases hb; exact h6 hY
    · exact h7 l d' hb
  · funext d'
    show (if l + 1 = 0 ∧ d' = d then _ else _) = _
    rw [if_neg (by omega)]
theorem adopt_sound {d b el : Nat} {c : List IV} {vs : Array Value} {Y : Nat → Prop} (h : newC Γ S d c K) (r : Rel Γ S a w I Y β σ) (hY : Y b) (hXY : ∀ b, X b → Y b) (hX : ¬ X b)
    (hh : w.heap[b]? = some (.cells vs el (0, 0))) (hI : ∀ j, I ⟨b, j, none⟩ = none) (ha : a.tmps.getD d undef = .pointer (some ⟨b, 0, none⟩)) (hc : CV I β (σ 0) c vs) :
    ∃ S' β', K S' ∧ Rel Γ S' a w I X β' σ ∧ Above β β' σ σ := by
  obtain ⟨tm, ce, up⟩ := S
  simp only [newC] at h
  split at h
  · rw [fps_eq, fcs_eq] at h
    obtain ⟨S', β', h1, h2, h3⟩ := adopt0_sound h (forget_rel d r) hY hXY hX hh hI ha (hc.kill d)
    exact ⟨S', β', h1, h2, (unB_above β d σ).trans h3⟩
  · exact adopt0_sound h r hY hXY hX hh hI ha hc
theorem Oper.wp_put {P : Program} {o : Oper} {a : Act} {w : World} {K : Act → World → Prop} {Q : Exit → Act → World → Prop} (h : o.wp P a w K Q) :
    o.wp P a w (fun a' w' => K a' w' ∧ ∀ t, o.dst ≠ some t → a'.tmps.getD t undef = a.tmps.getD t undef) Q := by
  have hp : ∀ (a : Act) v t, o.dst ≠ some t → (a.put o.dst v).tmps.getD t undef = a.tmps.getD t undef := by
    intro a v t ht
    cases hd : o.dst with
    | none => rfl
    | some d =>
      have hne : d ≠ t := fun e => ht (by rw [hd, e])
      simp only [Act.put, Array.getD_eq_getD_getElem?]
      rw [Array.getElem?_setIfInBounds_ne hne]
  unfold Oper.wp at *
  generalize (execOp a.eval o).run P w = r at *
  cases r with
  | ok n w' =>
    cases n <;> simp only [Oper.upon] at h ⊢
    case value u => exact ⟨h, hp _ _⟩
    case skip => exact ⟨h, hp _ _⟩
    case defer d => exact ⟨h, hp _ _⟩
    case enter f args =>
      refine Calls.mono h fun e w'' he => ?_
      cases e with
      | returned u => exact ⟨he, hp _ _⟩
      | panicked c => exact he
      | outgrown => exact he
    case row row args => exact Rows.mono h fun u w'' he => ⟨he, hp _ _⟩
  | halt x w' =>
    cases x <;> simp only [Oper.upon] at h ⊢
    case panic u => exact h
end
end Go.Proofs.YtfoenhiohhmnlaaGreatDoor.Ix

namespace Go.Proofs.YtfoenhiohhmnlaaGreatDoor.Ix
set_option linter.unusedVariables false
set_option linter.unusedSimpArgs false
def Mk (o : Oper) : Prop := (∃ t, o.op = .alloc t) ∨ ∃ t x, o.op = .box t x
def MkM (o : Oper) : Prop := ∃ t r, o.op = .makeMap t r
def MkAt (ops : Array Oper) (i : Nat) : Prop := ∃ o, ops[i]? = some o ∧ (Mk o ∨ MkM o)
def Hid (ops : Array Oper) (p : Nat) (ℓ : Nat → Bool) (bl : Nat → Nat) (b : Nat) : Prop := ∃ i, i < p ∧ ℓ i = true ∧ MkAt ops i ∧ bl i = b
structure Cont (Γ : Env) (ops : Array Oper) (p : Nat) (ℓ : Nat → Bool) (o : Oper) (d : Nat) (arr : Array Value) (a : Act) : Prop where
  fresh : ∀ t, o.op = .alloc t → (∀ (s : Nat) os t' x, s < p → ops[s]? = some os → ℓ s = true → os.op ≠ .store t' (.tmp d) x) → arr.size = (Γ.T t).size ∧ ∀ I β s, CV I β s (Γ.T t).zero arr
  laid : ∀ t, o.op = .alloc t → ∀ (s : Nat) os t' x, s < p → ops[s]? = some os → ℓ s = true → os.op = .store t' (.tmp d) x → arr = (a.eval x).cells
  box : ∀ t x, o.op = .box t x → arr = (a.eval x).cells
structure MCont (ops : Array Oper) (ℓ : Nat → Bool) (d : Nat) (es : Array MapEntry) (a : Act) : Prop where
  got : ∀ e ∈ es.toList, ∃ (s : Nat) (os : Oper) (t : Nat) (k : ByteArray) (x : Operand), ops[s]? = some os ∧ ℓ s = true ∧ os.op = .insert t (.tmp d) (.const (.string k)) x ∧ e.key = .string k ∧ e.val = a.eval x
  has : ∀ (s : Nat) os t k x, ops[s]? = some os → ℓ s = true → os.op = .insert t (.tmp d) (.const (.string k)) x → ∃ e ∈ es.toList, e.key = .string k
def some' (S0 : St) (ops : Array Oper) (val : Nat → IV) (p : Nat) (ℓ : Nat → Bool) : St := ⟨tmL S0.tm (dstOf ops.toList) val ℓ p, S0.ce, S0.up⟩
structure Inv (Γ : Env) (ops : Array Oper) (p : Nat) (S0 : St) (val : Nat → IV) (w0 : World) (I0 : Imm) (X : Nat → Prop) (β0 : Beta) (σ0 : Nat → Sig) (ℓ : Nat → Bool) (a : Act) (w : World)
    (I : Imm) (β : Beta) (σ : Nat → Sig) (bl : Nat → Nat) : Prop where
  rel : Rel Γ (some' S0 ops val p ℓ) a w I (fun b => X b ∨ Hid ops p ℓ bl b) β σ
  ext : Ext I0 X w0 I w
  abv : Above β0 β σ0 σ
  x0 : ∀ b, X b → b < w0.heap.size
  blk : ∀ (i : Nat) o d, i < p → ops[i]? = some o → Mk o → o.dst = some d → ℓ i = true → w0.heap.size ≤ bl i ∧ a.tmps.getD d undef = .pointer (some ⟨bl i, 0, none⟩) ∧ (∀ x v, I x = some v → x.block = bl i → False) ∧
    ∃ arr el, w.heap[bl i]? = some (.cells arr el (0, 0)) ∧ Cont Γ ops p ℓ o d arr a
  inj : ∀ i j, i < p → j < p → MkAt ops i → MkAt ops j → ℓ i = true → ℓ j = true → bl i = bl j → i = j
  mblk : ∀ (i : Nat) o d, i < p → ops[i]? = some o → MkM o → o.dst = some d → ℓ i = true → w0.heap.size ≤ bl i ∧ a.tmps.getD d undef = .map (some (bl i)) ∧ (∀ x v, I x = some v → x.block = bl i → False) ∧
    (∃ es clock, w.heap[bl i]? = some (.map es clock) ∧ MCont ops ℓ d es a) ∧
    ∀ (q : Nat) oq e, q < p → ops[q]? = some oq → oq.op = .move (.tmp d) → oq.guard = none → oq.dst = some e → ℓ q = true → a.tmps.getD e undef = .map (some (bl i))
section
variable {sp : Nat → Bool} {C : Con} {Γ : Env} {fl : Option (List Nat)} {ops : Array Oper} {p : Nat} {S0 : St} {val : Nat → IV} {act : Nat → Bool} {w0 : World} {I0 : Imm} {X : Nat → Prop} {β0 : Beta} {σ0 : Nat → Sig} {ℓ : Nat → Bool} {a : Act} {w : World}
  {I : Imm} {β : Beta} {σ : Nat → Sig} {bl : Nat → Nat} {cr : List Nat}
theorem dst_of {i : Nat} {o : Oper} (ho : ops[i]? = some o) : dstOf ops.toList i = o.dst := by
  rw [dstOf_eq]; simp [ho]
theorem look_agree (k : DOK ops p fl) (hdc : DC ops ℓ) {i : Nat} {o : Oper} (ho : ops[i]? = some o) (hi : i < p) (hl : ∀ j, bindOn o j = true → ℓ j = true) {t : Nat} (ht : t ∈ looks ops.toList o) :
    look (some' S0 ops val p ℓ).tm t = look (lex S0 ops.toList val i).tm t := by
  simp only [some', lex]
  by_cases h : ∃ j, j < p ∧ dstOf ops.toList j = some t
  · obtain ⟨j, hj, hd⟩ := h
    obtain ⟨h1, h2⟩ := k.look i o ho hi t ht j hj hd
    rw [look_tmL_some (i := j) (fun j' hj' hd' => k.dst j' j t hj' hj hd' hd) hj (hl j h2) hd,
      look_tmL_some (i := j) (fun j' hj' hd' => k.dst j' j t (by omega) hj hd' hd) h1 rfl hd]
  · rw [look_tmL_none (fun j hj _ hd => h ⟨j, hj, hd⟩), look_tmL_none (fun j hj _ hd => h ⟨j, by omega, hd⟩)]
theorem look_upd (k : DOK ops p fl) {i : Nat} {o : Oper} (ho : ops[i]? = some o) (hi : i < p) (hn : ℓ i = false) (t : Nat) :
    look (some' S0 ops val p (setF ℓ i true)).tm t = look (putS (some' S0 ops val p ℓ) o.dst (val i)).tm t := by
  have hd := dst_of ho
  have hne : ∀ t, o.dst ≠ some t → look (some' S0 ops val p (setF ℓ i true)).tm t = look (some' S0 ops val p ℓ).tm t := by
    intro t hne
    simp only [some']
    by_cases h : ∃ j, j < p ∧ ℓ j = true ∧ dstOf ops.toList j = some t
    · obtain ⟨j, hj, hlj, hdj⟩ := h
      rw [look_tmL_some (i := j) (fun j' hj' hd' => k.dst j' j t hj' hj hd' hdj) hj hlj hdj,
        look_tmL_some (i := j) (fun j' hj' hd' => k.dst j' j t hj' hj hd' hdj) hj (by unfold setF; split <;> simp [hlj]) hdj]
    · rw [look_tmL_none (fun j hj hl hd' => h ⟨j, hj, hl, hd'⟩), look_tmL_none (fun j hj hl hd' => ?_)]
      unfold setF at hl
      split at hl
      · rename_i e; subst e; rw [hd] at hd'; exact hne hd'
      · exact h ⟨j, hj, hl, hd'⟩
  cases hdo : o.dst with
  | none => simp only [putS]; exact hne t (by rw [hdo]; nofun)
  | some d =>
    simp only [putS, look_cons]
    split
    · rename_i e; subst e
      simp only [some']
      rw [hdo] at hd
      exact look_tmL_some (i := i) (fun j' hj' hd' => k.dst j' i d hj' hi hd' hd) hi (setF_self _ _ _) hd
    · rename_i hne'
      exact hne t (by rw [hdo]; intro e; cases e; exact hne' rfl)
theorem tag_listed (k : DOK ops p fl) (hf : ∀ (j : Nat) o, j < p → ops[j]? = some o → Fact sp C Γ ops.toList cr S0 val act j o) (hn : noTags cr S0) (hdc : DC ops ℓ)
    {i d : Nat} (hi : i < p) (hdi : dstOf ops.toList i = some d) (hcr : d ∈ cr) : ∀ (n j : Nat), j < n → j < p → ℓ j = true → (∃ d', dstOf ops.toList j = some d') → hasTag d (val j) = true → ℓ i = true
  | n + 1, j, hjn, hj, hl, ⟨d', hd'⟩, ht => by
    have hjs : j < ops.size := by have := k.le; omega
    have ho : ops[j]? = some ops[j] := by simp [hjs]
    generalize ops[j] = o at ho
    have F := hf j o hj ho
    have hdo := dst_of ho
    cases hact : act j with
    | false => rw [F.off hact] at ht; cases ht
    | true =>
      by_cases h1 : ∃ t, o.op = .alloc t
      · obtain ⟨t, h1⟩ := h1; rw [(F.alloc hact t h1).2] at ht; cases ht
      · by_cases h2 : ∃ t x, o.op = .box t x
        · obtain ⟨t, x, h2⟩ := h2; rw [(F.box hact t x h2).2] at ht; cases ht
        · by_cases h3 : ∃ t a x, o.op = .store t a x
          · obtain ⟨t, a, x, h3⟩ := h3
            obtain ⟨_, _, e, _⟩ := k.st j o t a x ho hj h3
            rw [hdo, e] at hd'; cases hd'
          · by_cases h4 : mapO ops.toList o = true
            · have h40 := h4
              obtain ⟨q1, q2, q3⟩ := F.maps hact
              unfold mapO at h4
              split at h4
              · rename_i t r e; rw [q1 t r e] at ht; cases ht
              · rename_i t m ky x e
                obtain ⟨_, _, _, _, _, e4, _⟩ := k.ins j o t m ky x ho e
                rw [hdo, e4] at hd'; cases hd'
              · rename_i t dd x ok e
                obtain ⟨_, _, _, _, _, _, _, e4⟩ := q3 _ _ _ _ e h40
                rw [e4] at ht; cases ht
              · cases h4
            have h4 : mapO ops.toList o = false := by simpa using h4
            obtain ⟨_, hto⟩ := F.other hact (fun t e => h1 ⟨t, e⟩) (fun t x e => h2 ⟨t, x, e⟩) (fun t a x e => h3 ⟨t, a, x, e⟩) h4
            have hmem : ∀ (cr : List Nat), d ∈ cr → tagOK cr (lex S0 ops.toList val j) o (val j) = true →
                o.dst = some d ∨ opTag d (lex S0 ops.toList val j) o.op.operands.toList = true := by
              intro cr
              induction cr with
              | nil => intro h; cases h
              | cons e r ih =>
                intro hm hok
                simp only [tagOK, Bool.and_eq_true, Bool.or_eq_true] at hok
                rcases List.mem_cons.1 hm with rfl | hm
                · rcases hok.1 with (h | h) | h
                  · left
                    split at h
                    · rename_i d2 hd2; rw [(beq_iff _ _).1 h, hd2]
                    · cases h
                  · rw [ht] at h; cases h
                  · exact .inr h
                · exact ih hm hok.2
            rcases hmem cr hcr hto with he | hop
            · have := k.dst i j d hi hj hdi (by rw [hdo, he])
              subst this; exact hl
            · have hex : ∀ (l : List Operand), opTag d (lex S0 ops.toList val j) l = true → ∃ t, t ∈ opTs l ∧ hasTag d (look (lex S0 ops.toList val j).tm t) = true := by
                intro l
                induction l with
                | nil => intro h; cases h
                | cons x r ih =>
                  intro h
                  cases x <;> simp only [opTag, Bool.or_eq_true] at h
                  case tmp t =>
                    rcases h with h | h
                    · exact ⟨t, by simp [opTs, opT], h⟩
                    · obtain ⟨t', h1, h2⟩ := ih h; exact ⟨t', by simp [opTs, h1], h2⟩
                  all_goals (obtain ⟨t', h1, h2⟩ := ih h; exact ⟨t', by simp [opTs, h1], h2⟩)
              obtain ⟨t, ht1, ht2⟩ := hex _ hop
              have htl : t ∈ looks ops.toList o := by simp only [looks, List.mem_append]; exact .inl ht1
              by_cases h : ∃ e, e < p ∧ dstOf ops.toList e = some t
              · obtain ⟨e, he, hde⟩ := h
                obtain ⟨g1, g2⟩ := k.look j o ho hj t htl e he hde
                simp only [lex] at ht2
                rw [look_tmL_some (i := e) (fun j' hj' hd' => k.dst j' e t (by omega) he hd' hde) g1 rfl hde] at ht2
                exact tag_listed k hf hn hdc hi hdi hcr n e (by omega) he (hdc j o ho hl e g2) ⟨t, hde⟩ ht2
              · simp only [lex] at ht2
                rw [look_tmL_none (fun j' hj' _ hd' => h ⟨j', by omega, hd'⟩)] at ht2
                rw [tmTag_spec d S0.tm (hn d hcr).1 t] at ht2; cases ht2
theorem tmTag_tmL {d : Nat} (h0 : tmTag d S0.tm = false) : ∀ {n : Nat}, (∀ j, j < n → ℓ j = true → (∃ d', dstOf ops.toList j = some d') → hasTag d (val j) = false) → tmTag d (tmL S0.tm (dstOf ops.toList) val ℓ n) = false
  | 0, _ => h0
  | n + 1, h => by
    have ih := tmTag_tmL h0 (n := n) fun j hj => h j (by omega)
    simp only [tmL]
    split
    · rename_i d' h1 h2
      simp only [tmTag, Bool.or_eq_false_iff]
      exact ⟨h n (by omega) h1 ⟨d', h2⟩, ih⟩
    · exact ih
theorem creators_mem {l : List Oper} {o : Oper} {d : Nat} (hm : o ∈ l) (hc : creates o = true) (hd : o.dst = some d) : d ∈ creators l := by
  induction l with
  | nil => cases hm
  | cons y r ih =>
    unfold creators
    rcases List.mem_cons.1 hm with rfl | hm
    · rw [hc, hd]; simp
    · have := ih hm
      split
      · exact List.mem_cons_of_mem _ this
      · exact this
theorem DC.upd (hdc : DC ops ℓ) {i : Nat} {o : Oper} (ho : ops[i]? = some o) (hl : ∀ j, bindOn o j = true → ℓ j = true) : DC ops (setF ℓ i true) := by
  intro j oj hoj hlj k hk
  unfold setF at hlj ⊢
  split at hlj
  · rename_i e; subst e
    rw [ho] at hoj; cases hoj
    have := hl k hk
    split <;> simp [this]
  · have := hdc j oj hoj hlj k hk
    split <;> simp [this]
theorem looked (k : DOK ops p fl) (hdc : DC ops ℓ) {s i : Nat} {os o : Oper} (hos : ops[s]? = some os) (hs : s < p) (hls : ℓ s = true) (ho : ops[i]? = some o) (hi : i < p) (hn : ℓ i = false) {t : Nat} (ht : t ∈ looks ops.toList os) : o.dst ≠ some t := by
  intro e
  obtain ⟨_, h2⟩ := k.look s os hos hs t ht i hi (by rw [dst_of ho, e])
  have := hdc s os hos hls i h2
  rw [hn] at this; cases this
theorem eval_same {a' : Act} {x : Operand} (h : ∀ t, t ∈ opT x → a'.tmps.getD t undef = a.tmps.getD t undef) : a'.eval x = a.eval x := by
  cases x with
  | tmp t => exact h t (by simp [opT])
  | _ => rfl
theorem store_looks {os : Oper} {t : Nat} {y x : Operand} (h : os.op = .store t y x) {u : Nat} (hu : u ∈ opT x) (all : List Oper) : u ∈ looks all os := by
  simp only [looks, h, List.mem_append]
  exact .inl (mem_opTs (x := x) (by simp [Op.operands]) hu)
theorem box_looks {os : Oper} {t : Nat} {x : Operand} (h : os.op = .box t x) {u : Nat} (hu : u ∈ opT x) (all : List Oper) : u ∈ looks all os := by
  simp only [looks, h, List.mem_append]
  exact .inl (mem_opTs (x := x) (by simp [Op.operands]) hu)
theorem ins_looks {os : Oper} {t : Nat} {m ky x : Operand} (h : os.op = .insert t m ky x) {u : Nat} (hu : u ∈ opT x) (all : List Oper) : u ∈ looks all os := by
  simp only [looks, h, List.mem_append]
  exact .inl (mem_opTs (x := x) (by simp [Op.operands]) hu)
theorem MCont.keep (k : DOK ops p fl) (hdc : DC ops ℓ) {i : Nat} {o : Oper} {d : Nat} {es : Array MapEntry} {a' : Act} (ho : ops[i]? = some o) (hi : i < p) (hn : ℓ i = false)
    (hns : ∀ t k x, o.op ≠ .insert t (.tmp d) k x) (ha : ∀ t, o.dst ≠ some t → a'.tmps.getD t undef = a.tmps.getD t undef) (c : MCont ops ℓ d es a) : MCont ops (setF ℓ i true) d es a' := by
  refine ⟨fun e he => ?_, fun s os t ky x hs hl hop => ?_⟩
  · obtain ⟨s, os, t, ky, x, h1, h2, h3, h4, h5⟩ := c.got e he
    refine ⟨s, os, t, ky, x, h1, by unfold setF; split <;> simp [h2], h3, h4, ?_⟩
    rw [h5, eval_same fun u hu => ha u (looked k hdc h1 (k.ins s os t _ _ x h1 h3).1 h2 ho hi hn (ins_looks h3 hu _))]
  · unfold setF at hl
    split at hl
    · rename_i e'; subst e'; rw [ho] at hs; cases hs; exact absurd hop (hns t _ x)
    · exact c.has s os t ky x hs hl hop
theorem Cont.keep (k : DOK ops p fl) (hdc : DC ops ℓ) {j i : Nat} {oj o : Oper} {d : Nat} {arr : Array Value} {a' : Act} (hoj : ops[j]? = some oj) (hj : j < p) (hlj : ℓ j = true) (ho : ops[i]? = some o) (hi : i < p) (hn : ℓ i = false)
    (hns : ∀ t x, o.op ≠ .store t (.tmp d) x) (ha : ∀ t, o.dst ≠ some t → a'.tmps.getD t undef = a.tmps.getD t undef) (c : Cont Γ ops p ℓ oj d arr a) : Cont Γ ops p (setF ℓ i true) oj d arr a' := by
  refine ⟨fun t e h => c.fresh t e fun s os t' x hs hos hl => h s os t' x hs hos (by unfold setF; split <;> simp [hl]), fun t e s os t' x hs hos hl hop => ?_, fun t x e => ?_⟩
  · unfold setF at hl
    split at hl
    · rename_i e'; subst e'; rw [ho] at hos; cases hos; exact absurd hop (hns t' x)
    · rw [c.laid t e s os t' x hs hos hl hop]
      rw [eval_same fun u hu => ha u (looked k hdc hos hs hl ho hi hn (store_looks hop hu _))]
  · rw [c.box t x e]
    rw [eval_same fun u hu => ha u (looked k hdc hoj hj hlj ho hi hn (box_looks e hu _))]
theorem dst_keep (k : DOK ops p fl) {i j : Nat} {o oj : Oper} {d : Nat} (ho : ops[i]? = some o) (hi : i < p) (hn : ℓ i = false) (hoj : ops[j]? = some oj) (hj : j < p) (hlj : ℓ j = true) (hd : oj.dst = some d) : o.dst ≠ some d := by
  intro e
  have := k.dst i j d hi hj (by rw [dst_of ho, e]) (by rw [dst_of hoj, hd])
  subst this; rw [hn] at hlj; cases hlj
theorem Inv.quiet (k : DOK ops p fl) (hdc : DC ops ℓ) {i : Nat} {o : Oper} (ho : ops[i]? = some o) (hi : i < p) (hn : ℓ i = false) (hmk : ¬ Mk o) (hmm : ¬ MkM o) (hns : ∀ t y x, o.op ≠ .store t y x) (hni : ∀ t m k x, o.op ≠ .insert t m k x)
    {a' : Act} (hmv : ∀ x e, o.op = .move (.tmp x) → o.guard = none → o.dst = some e → a'.tmps.getD e undef = a.tmps.getD x undef)
    (v : Inv Γ ops p S0 val w0 I0 X β0 σ0 ℓ a w I β σ bl) {w' : World} {I' : Imm} {β' : Beta} {σ' : Nat → Sig}
    (hr : Rel Γ (putS (some' S0 ops val p ℓ) o.dst (val i)) a' w' I' (fun b => X b ∨ Hid ops p ℓ bl b) β' σ') (he : Ext I (fun b => X b ∨ Hid ops p ℓ bl b) w I' w') (hab : Above β β' σ σ')
    (ha : ∀ t, o.dst ≠ some t → a'.tmps.getD t undef = a.tmps.getD t undef) : Inv Γ ops p S0 val w0 I0 X β0 σ0 (setF ℓ i true) a' w' I' β' σ' bl := by
  have hmi : ¬ MkAt ops i := fun ⟨o', h1, h2⟩ => by rw [ho] at h1; cases h1; exact h2.elim hmk hmm
  have hup : ∀ j, MkAt ops j → setF ℓ i true j = true → ℓ j = true := fun j hm h => by
    unfold setF at h
    split at h
    · rename_i e; subst e; exact absurd hm hmi
    · exact h
  refine ⟨(hr.congr (look_upd k ho hi hn) (by cases o.dst <;> rfl) (by cases o.dst <;> rfl)).sub fun b hb => ?_, v.ext.trans (he.sub fun b hb => .inl hb), v.abv.trans hab, v.x0, fun j oj d hj hoj hm hd hl => ?_, fun i' j' hi' hj' hm hm' hl hl' => v.inj i' j' hi' hj' hm hm' (hup _ hm hl) (hup _ hm' hl'), fun j oj d hj hoj hm hd hl => ?_⟩
  · rcases hb with hb | ⟨j, h1, h2, h3, h4⟩
    · exact .inl hb
    · exact .inr ⟨j, h1, hup j h3 h2, h3, h4⟩
  · have hlj := hup j ⟨oj, hoj, .inl hm⟩ hl
    obtain ⟨h1, h2, h3, arr, el, h4, h5⟩ := v.blk j oj d hj hoj hm hd hlj
    have hhid : X (bl j) ∨ Hid ops p ℓ bl (bl j) := .inr ⟨j, hj, hlj, ⟨oj, hoj, .inl hm⟩, rfl⟩
    refine ⟨h1, by rw [ha d (dst_keep k ho hi hn hoj hj hlj hd)]; exact h2, fun x u hx hb => ?_, arr, el, by rw [he.keep _ hhid]; exact h4, h5.keep k hdc hoj hj hlj ho hi hn (fun t x => hns t _ x) ha⟩
    have : I' x = I x := he.new x (by rw [hb]; exact hhid)
    rw [this] at hx
    exact h3 x u hx hb
  · have hlj := hup j ⟨oj, hoj, .inr hm⟩ hl
    obtain ⟨h1, h2, h3, ⟨es, clock, h4, h5⟩, h6⟩ := v.mblk j oj d hj hoj hm hd hlj
    have hhid : X (bl j) ∨ Hid ops p ℓ bl (bl j) := .inr ⟨j, hj, hlj, ⟨oj, hoj, .inr hm⟩, rfl⟩
    refine ⟨h1, by rw [ha d (dst_keep k ho hi hn hoj hj hlj hd)]; exact h2, fun x u hx hb => ?_, ⟨es, clock, by rw [he.keep _ hhid]; exact h4, h5.keep k hdc ho hi hn (fun t k x => hni t _ k x) ha⟩, fun q oq e hq hoq g1 g2 g3 g4 => ?_⟩
    · have : I' x = I x := he.new x (by rw [hb]; exact hhid)
      rw [this] at hx
      exact h3 x u hx hb
    · by_cases hqi : q = i
      · subst hqi
        rw [ho] at hoq; cases hoq
        rw [hmv d e g1 g2 g3]; exact h2
      · have hlq : ℓ q = true := by
          unfold setF at g4
          rw [if_neg hqi] at g4; exact g4
        rw [ha e (dst_keep k ho hi hn hoq hq hlq g3)]
        exact h6 q oq e hq hoq g1 g2 g3 hlq
theorem Inv.makes (k : DOK ops p fl) (hdc : DC ops ℓ) {i : Nat} {o : Oper} {d : Nat} (ho : ops[i]? = some o) (hi : i < p) (hn : ℓ i = false) (hl : ∀ j, bindOn o j = true → ℓ j = true) (hmk : Mk o) (hd : o.dst = some d) (hnt : d < Γ.nt) (hv : val i = .dead)
    (v : Inv Γ ops p S0 val w0 I0 X β0 σ0 ℓ a w I β σ bl) {arr : Array Value} {el : Nat}
    (hc : (∀ t, o.op = .alloc t → arr.size = (Γ.T t).size ∧ ∀ I β s, CV I β s (Γ.T t).zero arr) ∧ ∀ t x, o.op = .box t x → arr = (a.eval x).cells) :
    ∃ bl', Inv Γ ops p S0 val w0 I0 X β0 σ0 (setF ℓ i true) (a.put (some d) (.pointer (some ⟨w.heap.size, 0, none⟩))) (w.alloc (.cells arr el)) I β σ bl' := by
  have hmi : MkAt ops i := ⟨o, ho, .inl hmk⟩
  have hlt : ∀ j, j < p → MkAt ops j → ℓ j = true → bl j < w.heap.size := fun j hj hm hl => v.rel.mem.xb (bl j) (.inr ⟨j, hj, hl, hm, rfl⟩)
  have hput : ∀ t, o.dst ≠ some t → (a.put (some d) (.pointer (some ⟨w.heap.size, 0, none⟩))).tmps.getD t undef = a.tmps.getD t undef := fun t ht => by
    have hne : d ≠ t := fun e => ht (by rw [hd, e])
    simp only [Act.put, Array.getD_eq_getD_getElem?]
    rw [Array.getElem?_setIfInBounds_ne hne]
  have hcases : ∀ j, setF ℓ i true j = true → j = i ∨ (j ≠ i ∧ ℓ j = true) := fun j h => by
    unfold setF at h
    split at h
    · rename_i e; exact .inl e
    · rename_i e; exact .inr ⟨e, h⟩
  refine ⟨setF bl i w.heap.size, ?_, v.ext.trans (.alloc I X w _ fun b hb => v.rel.mem.xb b (.inl hb)), v.abv, v.x0, fun j oj dj hj hoj hm hdj hlj => ?_, fun i' j' hi' hj' hm hm' hl1 hl2 hb => ?_, fun j oj dj hj hoj hm hdj hlj => ?_⟩
  · have r1 := v.rel.hide (.cells arr el) (Y := fun b => X b ∨ Hid ops p (setF ℓ i true) (setF bl i w.heap.size) b) (fun b hb => by
      rcases hb with hb | ⟨j, h1, h2, h3, h4⟩
      · exact .inl (.inl hb)
      · rcases hcases j h2 with e | ⟨e, h2⟩
        · subst e; right; rw [← h4, setF_self]
        · left; right; exact ⟨j, h1, h2, h3, by rw [← h4]; simp [setF, e]⟩)
    have r2 := r1.put (iv := .dead) (v := .pointer (some ⟨w.heap.size, 0, none⟩)) hnt (.data (.dead _))
    refine r2.congr (fun t => ?_) rfl rfl
    rw [look_upd k ho hi hn t, hd, hv]; rfl
  · rcases hcases j hlj with e | ⟨e, hlj'⟩
    · subst e
      rw [ho] at hoj; cases hoj
      rw [hd] at hdj; cases hdj
      rw [setF_self]
      have hdn : d < a.tmps.size := by have := v.rel.nt; omega
      refine ⟨v.ext.size, by simp [Act.put, hdn], fun x u hx hb => ?_, arr, el, heap_alloc_new w _, ⟨fun t e _ => hc.1 t e, fun t e s os t' x hs hos hls hop => ?_, fun t x e => ?_⟩⟩
      · have := hcell_lt (v.rel.mem.im x u hx)
        omega
      · -- nothing was stored in it before
        rcases hcases s hls with es | ⟨es, hls⟩
        · subst es; rw [ho] at hos; cases hos; rw [e] at hop; cases hop
        · have hmem : d ∈ looks ops.toList os := by
            simp only [looks, hop, List.mem_append]
            exact .inl (mem_opTs (x := .tmp d) (by simp [Op.operands]) (by simp [opT]))
          obtain ⟨_, h2⟩ := k.look s os hos hs d hmem j hj (by rw [dst_of ho, hd])
          have := hdc s os hos hls j h2
          rw [hn] at this; cases this
      · rw [hc.2 t x e]
        refine congrArg Value.cells (eval_same (a := a) fun u hu => hput u fun e' => ?_).symm
        obtain ⟨h1, _⟩ := k.look j o ho hi u (box_looks e hu _) j hj (by rw [dst_of ho, e'])
        omega
    · obtain ⟨h1, h2, h3, arr', el', h4, h5⟩ := v.blk j oj dj hj hoj hm hdj hlj'
      have hb : setF bl i w.heap.size j = bl j := by simp [setF, e]
      rw [hb]
      refine ⟨h1, by rw [hput dj (dst_keep k ho hi hn hoj hj hlj' hdj)]; exact h2, h3, arr', el', by rw [heap_alloc_old w _ _ (heap_lt h4)]; exact h4, h5.keep k hdc hoj hj hlj' ho hi hn (fun t x e => ?_) hput⟩
      rcases hmk with ⟨t', hm⟩ | ⟨t', x', hm⟩ <;> rw [hm] at e <;> cases e
  · rcases hcases i' hl1 with e | ⟨e, hl3⟩ <;> rcases hcases j' hl2 with e' | ⟨e', hl4⟩
    · rw [e, e']
    · subst e
      rw [setF_self, show setF bl i' w.heap.size j' = bl j' from by simp [setF, e']] at hb
      have := hlt j' hj' hm' hl4; omega
    · subst e'
      rw [setF_self, show setF bl j' w.heap.size i' = bl i' from by simp [setF, e]] at hb
      have := hlt i' hi' hm hl3; omega
    · rw [show setF bl i w.heap.size i' = bl i' from by simp [setF, e], show setF bl i w.heap.size j' = bl j' from by simp [setF, e']] at hb
      exact v.inj i' j' hi' hj' hm hm' hl3 hl4 hb
  · rcases hcases j hlj with e | ⟨e, hlj'⟩
    · subst e
      rw [ho] at hoj; cases hoj
      obtain ⟨t', r', hm⟩ := hm
      rcases hmk with ⟨t2, e2⟩ | ⟨t2, x2, e2⟩ <;> rw [hm] at e2 <;> cases e2
    · obtain ⟨h1, h2, h3, ⟨es, clock, h4, h5⟩, h6⟩ := v.mblk j oj dj hj hoj hm hdj hlj'
      have hb : setF bl i w.heap.size j = bl j := by simp [setF, e]
      rw [hb]
      refine ⟨h1, by rw [hput dj (dst_keep k ho hi hn hoj hj hlj' hdj)]; exact h2, h3, ⟨es, clock, by rw [heap_alloc_old w _ _ (heap_lt h4)]; exact h4, h5.keep k hdc ho hi hn (fun t ky x e => ?_) hput⟩, fun q oq e hq hoq g1 g2 g3 g4 => ?_⟩
      · rcases hmk with ⟨t', hm⟩ | ⟨t', x', hm⟩ <;> rw [hm] at e <;> cases e
      · rcases hcases q g4 with hqi | ⟨_, hlq⟩
        · subst hqi
          rw [ho] at hoq; cases hoq
          rcases hmk with ⟨t', hm⟩ | ⟨t', x', hm⟩ <;> rw [hm] at g1 <;> cases g1
        · rw [hput e (dst_keep k ho hi hn hoq hq hlq g3)]
          exact h6 q oq e hq hoq g1 g2 g3 hlq
theorem Inv.makesM (k : DOK ops p fl) (hdc : DC ops ℓ) {i : Nat} {o : Oper} {d : Nat} (ho : ops[i]? = some o) (hi : i < p) (hn : ℓ i = false) (hl : ∀ j, bindOn o j = true → ℓ j = true) {t : Nat} {r : Option Operand} (hop : o.op = .makeMap t r) (hd : o.dst = some d) (hnt : d < Γ.nt) (hv : val i = .dead)
    (v : Inv Γ ops p S0 val w0 I0 X β0 σ0 ℓ a w I β σ bl) :
    ∃ bl', Inv Γ ops p S0 val w0 I0 X β0 σ0 (setF ℓ i true) (a.put (some d) (.map (some w.heap.size))) (w.alloc (.map #[] 0)) I β σ bl' := by
  have hmi : MkAt ops i := ⟨o, ho, .inr ⟨t, r, hop⟩⟩
  have hlt : ∀ j, j < p → MkAt ops j → ℓ j = true → bl j < w.heap.size := fun j hj hm hl => v.rel.mem.xb (bl j) (.inr ⟨j, hj, hl, hm, rfl⟩)
  have hput : ∀ t, o.dst ≠ some t → (a.put (some d) (.map (some w.heap.size))).tmps.getD t undef = a.tmps.getD t undef := fun t ht => by
    have hne : d ≠ t := fun e => ht (by rw [hd, e])
    simp only [Act.put, Array.getD_eq_getD_getElem?]
    rw [Array.getElem?_setIfInBounds_ne hne]
  have hcases : ∀ j, setF ℓ i true j = true → j = i ∨ (j ≠ i ∧ ℓ j = true) := fun j h => by
    unfold setF at h
    split at h
    · rename_i e; exact .inl e
    · rename_i e; exact .inr ⟨e, h⟩
  refine ⟨setF bl i w.heap.size, ?_, v.ext.trans (.alloc I X w _ fun b hb => v.rel.mem.xb b (.inl hb)), v.abv, v.x0, fun j oj dj hj hoj hm hdj hlj => ?_, fun i' j' hi' hj' hm hm' hl1 hl2 hb => ?_, fun j oj dj hj hoj hm hdj hlj => ?_⟩
  · have r1 := v.rel.hide (.map #[] 0) (Y := fun b => X b ∨ Hid ops p (setF ℓ i true) (setF bl i w.heap.size) b) (fun b hb => by
      rcases hb with hb | ⟨j, h1, h2, h3, h4⟩
      · exact .inl (.inl hb)
      · rcases hcases j h2 with e | ⟨e, h2⟩
        · subst e; right; rw [← h4, setF_self]
        · left; right; exact ⟨j, h1, h2, h3, by rw [← h4]; simp [setF, e]⟩)
    have r2 := r1.put (iv := .dead) (v := .map (some w.heap.size)) hnt (.data (.dead _))
    refine r2.congr (fun t => ?_) rfl rfl
    rw [look_upd k ho hi hn t, hd, hv]; rfl
  · rcases hcases j hlj with e | ⟨e, hlj'⟩
    · subst e
      rw [ho] at hoj; cases hoj
      rcases hm with ⟨t2, e2⟩ | ⟨t2, x2, e2⟩ <;> rw [hop] at e2 <;> cases e2
    · obtain ⟨h1, h2, h3, arr', el', h4, h5⟩ := v.blk j oj dj hj hoj hm hdj hlj'
      have hb : setF bl i w.heap.size j = bl j := by simp [setF, e]
      rw [hb]
      refine ⟨h1, by rw [hput dj (dst_keep k ho hi hn hoj hj hlj' hdj)]; exact h2, h3, arr', el', by rw [heap_alloc_old w _ _ (heap_lt h4)]; exact h4, h5.keep k hdc hoj hj hlj' ho hi hn (fun t x e => ?_) hput⟩
      rw [hop] at e; cases e
  · rcases hcases i' hl1 with e | ⟨e, hl3⟩ <;> rcases hcases j' hl2 with e' | ⟨e', hl4⟩
    · rw [e, e']
    · subst e
      rw [setF_self, show setF bl i' w.heap.size j' = bl j' from by simp [setF, e']] at hb
      have := hlt j' hj' hm' hl4; omega
    · subst e'
      rw [setF_self, show setF bl j' w.heap.size i' = bl i' from by simp [setF, e]] at hb
      have := hlt i' hi' hm hl3; omega
    · rw [show setF bl i w.heap.size i' = bl i' from by simp [setF, e], show setF bl i w.heap.size j' = bl j' from by simp [setF, e']] at hb
      exact v.inj i' j' hi' hj' hm hm' hl3 hl4 hb
  · rcases hcases j hlj with e | ⟨e, hlj'⟩
    · subst e
      rw [ho] at hoj; cases hoj
      rw [hd] at hdj; cases hdj
      rw [setF_self]
      have hdn : d < a.tmps.size := by have := v.rel.nt; omega
      refine ⟨v.ext.size, by simp [Act.put, hdn], fun x u hx hb => ?_, ⟨#[], 0, heap_alloc_new w _, ⟨fun e he => (by simp at he), fun s os t' ky x hos hls hop' => ?_⟩⟩, fun q oq e hq hoq g1 g2 g3 g4 => ?_⟩
      · have := hcell_lt (v.rel.mem.im x u hx)
        omega
      · rcases hcases s hls with es | ⟨es, hls⟩
        · subst es; rw [ho] at hos; cases hos; rw [hop] at hop'; cases hop'
        · have hmem : d ∈ looks ops.toList os := by
            simp only [looks, hop', List.mem_append]
            exact .inl (mem_opTs (x := .tmp d) (by simp [Op.operands]) (by simp [opT]))
          obtain ⟨_, h2⟩ := k.look s os hos (k.ins s os _ _ _ _ hos hop').1 d hmem j hj (by rw [dst_of ho, hd])
          have := hdc s os hos hls j h2
          rw [hn] at this; cases this
      · rcases hcases q g4 with hqi | ⟨_, hlq⟩
        · subst hqi
          rw [ho] at hoq; cases hoq
          rw [hop] at g1; cases g1
        · have hmem : d ∈ looks ops.toList oq := by
            simp only [looks, g1, List.mem_append]
            exact .inl (mem_opTs (x := .tmp d) (by simp [Op.operands]) (by simp [opT]))
          obtain ⟨_, h2⟩ := k.look q oq hoq hq d hmem j hj (by rw [dst_of ho, hd])
          have := hdc q oq hoq hlq j h2
          rw [hn] at this; cases this
    · obtain ⟨h1, h2, h3, ⟨es, clock, h4, h5⟩, h6⟩ := v.mblk j oj dj hj hoj hm hdj hlj'
      have hb : setF bl i w.heap.size j = bl j := by simp [setF, e]
      rw [hb]
      refine ⟨h1, by rw [hput dj (dst_keep k ho hi hn hoj hj hlj' hdj)]; exact h2, h3, ⟨es, clock, by rw [heap_alloc_old w _ _ (heap_lt h4)]; exact h4, h5.keep k hdc ho hi hn (fun t ky x e => ?_) hput⟩, fun q oq e hq hoq g1 g2 g3 g4 => ?_⟩
      · rw [hop] at e; cases e
      · rcases hcases q g4 with hqi | ⟨_, hlq⟩
        · subst hqi
          rw [ho] at hoq; cases hoq
          rw [hop] at g1; cases g1
        · rw [hput e (dst_keep k ho hi hn hoq hq hlq g3)]
          exact h6 q oq e hq hoq g1 g2 g3 hlq
end
end Go.Proofs.YtfoenhiohhmnlaaGreatDoor.Ix
