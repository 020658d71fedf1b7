/-
  Ix26: a range over a function, the statement; all code.
-/
import Derived.Test.YtllmejkmogepjaaDoorX25
namespace Go.Proofs.YtllmejkmogepjaaDoor.Ix
set_option linter.unusedVariables false
set_option linter.unusedSimpArgs false

section
variable {C : Con} {Γ : Env} {S : St} {a : Act} {w : World} {I : Imm} {X : Nat → Prop} {β : Beta} {σ : Nat → Sig} {K : St → Prop}

theorem all_lt {l : List Nat} {n : Nat} (h : l.all (fun t => Nat.blt t n) = true) : ∀ p ∈ l, p < n := fun p hp => by
  rw [List.all_eq_true] at h; exact blt_lt (h p hp)

theorem Rel.dropT (r : Rel Γ S a w I X β σ) (wr : List Nat) : Rel Γ ⟨dropW wr S.tm, S.ce, S.up⟩ a w I X β σ := by
  refine ⟨fun i => ?_, r.df, r.nt, r.mem, r.own⟩
  simp only [look_drop]
  split
  · exact .data (.dead _)
  · exact r.tm i

theorem range_sound (wr : Nat → Bool) (hm : Γ.P.follows .mixedOrders = true) (hT : TOK Γ.P Γ.T) (hC : HC C Γ) (hV : ∀ g c n xs, Γ.vis g c n xs → Vis Γ.P Γ.gl g c n xs) (n : Nat)
    (f : Operand) (ps : Array Tmp) (assign body : Code) (Q : Ex → St → Prop) (S : St) (a : Act) (w : World) (I : Imm) (X : Nat → Prop) (β : Beta) (σ : Nat → Sig) (hwr : ∀ d ∈ wrs (.rangeFunc f ps assign body), wr d = true)
    (h : iwp C Γ (.rangeFunc f ps assign body) Q S) (hr : Rel Γ S a w I X β σ) : (Code.rangeFunc f ps assign body).wpIn (Fw none) n Γ.P (QRG Γ (Wn wr) Q I X w β σ a) a w := by
  obtain ⟨g, c, nn, xs, hf, hp, hv, hok, hlen, Inv, ix, a0, h0, i0, hw, hrd, hd⟩ := h
  simp only [Bool.and_eq_true] at hok
  obtain ⟨⟨hn1, hn2⟩, hps⟩ := hok
  have hps := all_lt hps
  obtain ⟨⟨fn, code, hfn, hbody, hname⟩, hvis⟩ := hV _ _ _ _ hv
  have hvf := evo_V hr f
  rw [hf] at hvf
  obtain ⟨us0, us, hval, hl1, hl2, _, hV2⟩ := hvf.fn_inv
  have hus0 : us0 = #[] := Array.eq_empty_of_size_eq_zero (by rw [← hl1]; rfl)
  subst hus0
  refine wpIn_rangeFunc fun fnid _ => ?_
  let rec0 : LoopState → Option Code → Loop := fun st pe => { state := st, pending := pe, fn := fnid, tmps := a.tmps, params := ps, assign, body, defers := w.heap.size }
  let D := w.heap.size
  let l := w.heap.size + 1
  let W1 := (w.alloc (.deferred (some []))).alloc (.loop (rec0 .ready none))
  have hL1 : W1.heap[l]? = some (.loop (rec0 .ready none)) := by
    have := World.alloc_heap_new (w.alloc (.deferred (some []))) (.loop (rec0 .ready none)); rwa [World.size_alloc] at this
  have hK1 : W1.heap[D]? = some (.deferred (some [])) := by
    exact (heap_alloc_old _ _ (by simp [D])).trans (World.alloc_heap_new w _)
  have hX := hr.mem.xb
  have he1 : Ext I X w I W1 := (Ext.alloc I X w _ hX).trans (Ext.alloc I X _ _ fun b hb => by have := hX b hb; simp; omega)
  have hr1 : Rel Γ S a W1 I X β σ := (hr.alloc _).alloc _
  obtain ⟨β1, r1, ab1⟩ := hr1.le h0
  -- what is carried between the rounds
  let J : Nat → World → Imm → (Nat → Prop) → Prop := fun k w' I' X' =>
    (k ≤ nn ∧ ∃ x β' σ', ix x = k ∧ JB Γ a w I X β σ l D (rec0 .ready none) (Inv x) w' I' X' β' σ') ∨
    (nn < k ∧ ∃ S' c β' σ', ((c = .ret ∧ Q .ret S') ∨ ∃ id, c = .exit id ∧ Q (.exit id) S') ∧ JB Γ a w I X β σ l D (rec0 .done (some c)) S' w' I' X' β' σ')
  refine ⟨l, [{ target := .collected D, args := #[] }], W1, { target := .fn (.func g) us, args := #[yv l] }, W1, g, #[yv l] ++ us, W1, run_enterLoop_outer _ _ _ _ _, ?_, fun _ _ => trivial, ?_, fun e => (by cases e), ?_⟩
  · simp only [resolve, hval]
    simp [go_sem]; rfl
  · simp only [invoke, callFunc, run_program, Sem.run_bind, hfn, hname, hbody, Option.isNone, Result.andThen_ok]
    rfl
  · have hdone : Calls Γ.P g (#[yv l] ++ us) W1 fun e w' => ∃ v I' X' L, e = .returned v ∧ nn ≤ L ∧ J L w' I' X' ∧ Base Γ.gl w' I' X' := by
      have hX1 : ∀ b, mine X β1 σ b → b < W1.heap.size := r1.mine_lt
      refine hvis l us J W1 I (mine X β1 σ) ⟨r1.mem.im, r1.mem.glo, hX1⟩ (by rw [noOwnL_eq, List.length_map]; exact hl2) (fun j x hx => ?_) ?_ ?_ (.inl ⟨Nat.zero_le _, a0, β1, σ, i0, r1, fun _ h => h, he1, ab1, hL1, hK1⟩)
      · rw [noOwnL_eq] at hx
        obtain ⟨y, hy, rfl⟩ := map_get hx
        exact (hV2 j y hy).data' (noPtrL_get hp j y hy)
      · rintro k w1 I1 X1 w2 I2 (⟨hk, x, β', σ', hx, j⟩ | ⟨hk, S', c, β', σ', hc, j⟩) he hb
        · exact .inl ⟨hk, x, β', σ', hx, j.later he hb⟩
        · exact .inr ⟨hk, S', c, β', σ', hc, j.later he hb⟩
      · -- one round
        intro k w1 I1 X1 Y vs hk hJ hb hY hlx hDx
        rcases hJ with ⟨_, x, β', σ', hix, j⟩ | ⟨hk', _⟩
        rotate_left
        · omega
        have hYX : ∀ b, Y b → ¬ mine X β' σ' b := fun b hy hm => (hY b hy).1 (j.mine b hm)
        have hYl : ∀ b, Y b → b ≠ l := fun b hy e => by
          obtain ⟨_, o, ho, hf⟩ := hY b hy
          rw [e, j.loop] at ho; cases ho; cases hf
        have hvs : vs.size = ps.size := by rw [← hlx, hlen k hk]; simp
        have hy := run_yield (P := Γ.P) (args := vs) j.loop hvs
        refine ⟨fnid, _, assign, body, hy, ?_⟩
        let tm0 := (ps.zip vs).foldl (fun t (p, v) => t.setIfInBounds p v) a.tmps
        have htm0 : tm0 = (ps.toList.zip vs.toList).foldl (fun t (p, v) => t.setIfInBounds p v) a.tmps := by
          show (ps.zip vs).foldl _ _ = _
          rw [← Array.foldl_toList, Array.toList_zip]
        obtain ⟨t1, t2, t3⟩ := roundT_rel (β0 := β') (s := σ' 0) (I := I1) ps.toList (xs k) vs.toList (Inv x).tm a.tmps (hlen k hk) (by simpa using hvs) (fun p hp => by have := hps p hp; have := hr.nt; omega)
          j.rel.tm (fun q y hq => by have := hDx q y hq; exact .data (by simpa [Array.getD_eq_getD_getElem?, List.getD_eq_getElem?_getD] using this))
        rw [← htm0] at t1 t2 t3
        have rr : Rel Γ ⟨roundT ps.toList (xs k) (Inv x).tm, (Inv x).ce, (Inv x).up⟩ { tmps := tm0, defers := [] } w1 I1 (fun b => X b ∨ Y b) β' σ' := by
          refine ⟨t1, ⟨.nil _ _, fun d e => (by rw [hC.2.2] at e; cases e)⟩, by show Γ.nt ≤ tm0.size; rw [t2]; exact j.rel.nt, ⟨fun l' d c hc => ?_, j.rel.mem.inj, j.rel.mem.keys, j.rel.mem.im, j.rel.mem.glo, fun b hb' => ?_⟩, ⟨fun t g hg => ?_, j.rel.own.inj⟩⟩
          · obtain ⟨b, arr, el, g1, g2, g3, g4, g5, g6, g7⟩ := j.rel.mem.cell l' d c hc
            exact ⟨b, arr, el, g1, g2, g3, g4, g5, g6, fun hx => hx.elim g7 fun hy => hYX b hy (.inr (.inl ⟨l', d, g1⟩))⟩
          · rcases hb' with hb' | hb'
            · exact j.rel.mem.xb b hb'
            · obtain ⟨_, o, ho, _⟩ := hY b hb'; exact heap_lt ho
          · obtain ⟨cur, k1, k2, k3, k4, k5, k6, k7⟩ := j.rel.own.row t g hg
            exact ⟨cur, k1, k2, k3, k4, k5, fun hx => hx.elim k6 fun hy => hYX g.b hy (.inr (.inr ⟨t, g, hg, rfl⟩)), k7⟩
        refine roundIn_of_wpIn (F := Fw none) trivial ?_
        have hwa : ∀ d ∈ wrs assign, isIn (ps.toList ++ (wrs assign ++ wrs body)) d = true := fun d hd => isIn_iff.2 (by simp [hd])
        have hwb : ∀ d ∈ wrs body, isIn (ps.toList ++ (wrs assign ++ wrs body)) d = true := fun d hd => isIn_iff.2 (by simp [hd])
        refine wpIn_mono (iwp_sound_r hm hT hC (some l) 0 assign _ _ { tmps := tm0, defers := [] } w1 I1 (fun b => X b ∨ Y b) β' σ' (isIn (ps.toList ++ (wrs assign ++ wrs body))) hn1 hwa (hix ▸ hrd x (by omega)) rr) ?_
        intro e a2 w2 hq
        cases e with
        | exit id => obtain ⟨S', I', X', β2, σ2, k1, _⟩ := hq; exact k1.elim
        | ret => obtain ⟨S', I', X', β2, σ2, k1, _⟩ := hq; exact k1.elim
        | goto l => exact hq.elim
        | panic c => exact hq.elim
        | outgrown => exact hq.elim
        | normal =>
          obtain ⟨S2, I2, X2, β2, σ2, k1, k2, _, ⟨k3, k3'⟩, k4, k5⟩ := hq
          have hl2 : w2.heap[l]? = some (.loop (rec0 .ready none)) := k3.fix _ _ j.loop rfl
          refine ⟨_, run_beginRound hl2 rfl, ?_⟩
          have hl3 : (w2.putObj l (.loop { rec0 .ready none with state := .busy })).heap[l]? = some (.loop { rec0 .ready none with state := .busy }) := World.putObj_heap_same (heap_lt hl2)
          have k2' := (k2.sub k3').putLoop hl2 { rec0 .ready none with state := .busy }
          refine wpIn_mono (iwp_sound_r hm hT hC (some l) 0 body _ _ a2 _ I2 (fun b => X b ∨ Y b) β2 σ2 (isIn (ps.toList ++ (wrs assign ++ wrs body))) hn2 hwb k1 k2') ?_
          -- a round's end
          have fin : ∀ (jump : Option Code) (S3 S4 : St) (a3 : Act) (w3 : World) (I3 : Imm) (X3 : Nat → Prop) (β3 β4 : Beta) (σ3 : Nat → Sig), Rel Γ S4 a3 w3 I3 X3 β4 σ3 → (∀ b, (X b ∨ Y b) → X3 b) → Above β3 β4 σ3 σ3 → Ext I2 (fun b => X b ∨ Y b) (w2.putObj l (.loop { rec0 .ready none with state := .busy })) I3 w3 → Above β2 β3 σ2 σ3 →
              Same (Wn (isIn (ps.toList ++ (wrs assign ++ wrs body)))) a2 a3 → (∀ i, isIn (ps.toList ++ (wrs assign ++ wrs body)) i = true → look S4.tm i = .dead) →
              ∃ v w4, (Instr.endRound l jump).run Γ.P w3 = .ok v w4 ∧ ∃ I4 X4, v = .bool jump.isNone ∧ Kept I1 Y w1 I4 w4 ∧ Base Γ.gl w4 I4 X4 ∧ (∀ b, Y b → ¬ X4 b) ∧
                JB Γ a w I X β σ l D (rec0 (if jump.isNone then .ready else .done) jump) S4 w4 I4 X4 β4 σ3 := by
            intro jump S3 S4 a3 w3 I3 X3 β3 β4 σ3 q1 q2 q3 q4 q5 q6 q7
            have hl4 := q4.fix _ _ hl3 rfl
            have hd4 : w3.heap[D]? = some (.deferred (some [])) := q4.fix _ _ (by rw [World.putObj_heap_other (show D ≠ l by show w.heap.size ≠ w.heap.size + 1; omega)]; exact k3.fix _ _ j.dfr rfl) rfl
            have q1' := (q1.sub q2).putLoop hl4 (rec0 (if jump.isNone then .ready else .done) jump)
            have hext : Ext I X w I3 (w3.putObj l (.loop (rec0 (if jump.isNone then .ready else .done) jump))) := by
              have e1 : Ext I X w I2 (w2.putObj l (.loop { rec0 .ready none with state := .busy })) := (j.ext.trans (k3.sub fun b h => .inl h)).put (by show w.heap.size ≤ w.heap.size + 1; omega) hX _
              exact (e1.trans (q4.sub fun b h => .inl h)).put (by show w.heap.size ≤ w.heap.size + 1; omega) hX _
            refine ⟨_, _, run_endRound jump hl4, I3, mine X β4 σ3, rfl, ?_, ⟨q1'.mem.im, q1'.mem.glo, (q1'.sub fun b h => .inl h : Rel Γ S4 a3 _ I3 X β4 σ3).mine_lt⟩, q1'.mine_not (fun b hy hx => hYX b hy (.inl hx)), ?_⟩
            · have hs1 := k3.size
              have hs2 := q4.size
              refine ⟨by simp at hs2 ⊢; omega, fun b hb => ?_, fun x v hx => q4.imm _ _ (k3.imm _ _ hx), fun x hx => (q4.new x (.inr hx)).trans (k3.new x (.inr hx)), fun q cc hq => ?_⟩
              · rw [World.putObj_heap_other (hYl b hb), q4.keep b (.inr hb), World.putObj_heap_other (hYl b hb), k3.keep b (.inr hb)]
              · have hne : q ≠ l := fun e => by rw [e, j.loop] at hq; cases hq
                rw [World.putObj_heap_other hne]
                exact q4.fix _ _ (by rw [World.putObj_heap_other hne]; exact k3.fix _ _ hq rfl) rfl
            · refine ⟨⟨fun i => ?_, ?_, j.rel.nt, (q1'.sub fun b h => .inl h : Rel Γ S4 a3 _ I3 X β4 σ3).mem, (q1'.sub fun b h => .inl h : Rel Γ S4 a3 _ I3 X β4 σ3).own⟩, fun _ h => h, hext, ((j.abv.trans k4).trans q5).trans q3, World.putObj_heap_same (heap_lt hl4), by rw [World.putObj_heap_other (show D ≠ l by show w.heap.size ≠ w.heap.size + 1; omega)]; exact hd4⟩
              · by_cases hi : isIn (ps.toList ++ (wrs assign ++ wrs body)) i = true
                · rw [q7 i hi]; exact .data (.dead _)
                · have hi' : isIn (ps.toList ++ (wrs assign ++ wrs body)) i = false := by simpa using hi
                  have e1 := q6 i hi'
                  have e2 := k5 i hi'
                  have e3 := t3 i (fun hm => hi (isIn_iff.2 (by simp [hm])))
                  have := q1'.tm i
                  rw [e1, e2] at this
                  simp only at this
                  rw [e3] at this; exact this
              · obtain ⟨Ds, m1, m2, m3⟩ := hr.df.m
                exact ⟨⟨Ds, m1, m2, fun E hE => ⟨hext.fix E _ (m3 E hE).1 rfl, (m3 E hE).2⟩⟩, hr.df.e⟩
          intro e a3 w3 hq3
          cases e with
          | goto l => exact hq3.elim
          | panic c => exact hq3.elim
          | outgrown => exact hq3.elim
          | normal =>
            obtain ⟨S3, I3, X3, β3, σ3, ⟨x', hx', hle⟩, g2, _, ⟨g3, g3'⟩, g4, g5⟩ := hq3
            obtain ⟨β4, r4, ab4⟩ := g2.le hle
            obtain ⟨v, w4, f1, I4, X4, f2, f3, f4, f5, f6⟩ := fin none S3 (Inv x') a3 w3 I3 X3 β3 β4 σ3 r4 g3' ab4 g3 g4 g5 (fun i hi => look_ok (hw x') hi)
            exact ⟨v, w4, f1, I4, X4, true, by rw [f2]; rfl, f3, f4, f5, .inl ⟨hk, x', β4, σ3, by rw [hx', hix]; rfl, f6⟩⟩
          | ret =>
            obtain ⟨S3, I3, X3, β3, σ3, hq, g2, _, ⟨g3, g3'⟩, g4, g5⟩ := hq3
            have r4 : Rel Γ ⟨dropW (ps.toList ++ (wrs assign ++ wrs body)) S3.tm, S3.ce, S3.up⟩ a3 w3 I3 X3 β3 σ3 := g2.dropT _
            obtain ⟨v, w4, f1, I4, X4, f2, f3, f4, f5, f6⟩ := fin (some .ret) S3 _ a3 w3 I3 X3 β3 β3 σ3 r4 g3' (.refl _ _) g3 g4 g5 (fun i hi => by simp only [look_drop, hi, if_true])
            exact ⟨v, w4, f1, I4, X4, false, by rw [f2]; rfl, f3, f4, f5, .inr ⟨by simp; omega, _, .ret, β3, σ3, .inl ⟨rfl, hq⟩, f6⟩⟩
          | exit id =>
            obtain ⟨S3, I3, X3, β3, σ3, hq, g2, _, ⟨g3, g3'⟩, g4, g5⟩ := hq3
            have r4 : Rel Γ ⟨dropW (ps.toList ++ (wrs assign ++ wrs body)) S3.tm, S3.ce, S3.up⟩ a3 w3 I3 X3 β3 σ3 := g2.dropT _
            obtain ⟨v, w4, f1, I4, X4, f2, f3, f4, f5, f6⟩ := fin (some (.exit id)) S3 _ a3 w3 I3 X3 β3 β3 σ3 r4 g3' (.refl _ _) g3 g4 g5 (fun i hi => by simp only [look_drop, hi, if_true])
            exact ⟨v, w4, f1, I4, X4, false, by rw [f2]; rfl, f3, f4, f5, .inr ⟨by simp; omega, _, .exit id, β3, σ3, .inr ⟨id, rfl, hq⟩, f6⟩⟩
    refine (callsIn_of (n := n - 1) (r := none) hdone).mono ?_
    rintro e w' ⟨v, I', X', L, rfl, hL, hJ, hb⟩
    have after : ∀ (st : LoopState) (pe : Option Code) (S' : St) (β' : Beta) (σ' : Nat → Sig), st ≠ .busy → JB Γ a w I X β σ l D (rec0 st pe) S' w' I' X' β' σ' → ∀ K : St → Prop, K S' →
        ∃ w4, (Instr.endLoop l).run Γ.P w' = .ok pe w4 ∧ AftG Γ (Wn wr) K I X w β σ a { a with defers := [{ target := .collected D, args := #[] }] ++ a.defers } w4 := by
      intro st pe S' β' σ' hst j K hk
      have hrun := run_endLoop (P := Γ.P) j.loop hst
      have hne : D ≠ l := by show w.heap.size ≠ w.heap.size + 1; omega
      have r2 := j.rel.putLoop j.loop { rec0 st pe with state := .exhausted }
      have he2 : Ext I X w I' (w'.putObj l (.loop { rec0 st pe with state := .exhausted })) := j.ext.put (by show w.heap.size ≤ w.heap.size + 1; omega) hX _
      refine ⟨_, hrun, S', I', X, β', σ', hk, ⟨r2.tm, ?_, r2.nt, r2.mem, r2.own⟩, trivial, ⟨he2, fun _ h => h⟩, j.abv, fun _ _ => rfl⟩
      obtain ⟨Ds, m1, m2, m3⟩ := hr.df.m
      refine ⟨⟨D :: Ds, by simp [m1], List.nodup_cons.2 ⟨fun hD => ?_, m2⟩, fun E hE => ?_⟩, fun d e => (by rw [hC.2.2] at e; cases e)⟩
      · have := heap_lt (m3 D hD).1
        exact Nat.lt_irrefl _ this
      · rcases List.mem_cons.1 hE with rfl | hE
        · exact ⟨by rw [World.putObj_heap_other hne]; exact j.dfr, fun hx => Nat.lt_irrefl _ (hX _ hx)⟩
        · exact ⟨he2.fix E _ (m3 E hE).1 rfl, (m3 E hE).2⟩
    rcases hJ with ⟨hk, x, β', σ', hix, j⟩ | ⟨hk, S', c, β', σ', hc, j⟩
    · obtain ⟨w4, h1, h2⟩ := after .ready none (Inv x) β' σ' (by nofun) j (Q .normal) (hd x (by omega))
      exact ⟨none, w4, h1, h2⟩
    · rcases hc with ⟨rfl, hq⟩ | ⟨id, rfl, hq⟩
      · obtain ⟨w4, h1, h2⟩ := after .done _ S' β' σ' (by nofun) j (Q .ret) hq
        exact ⟨some .ret, w4, h1, wpIn_ret h2⟩
      · obtain ⟨w4, h1, h2⟩ := after .done _ S' β' σ' (by nofun) j (Q (.exit id)) hq
        exact ⟨some (.exit id), w4, h1, wpIn_exit h2⟩

/-- All code, in the frame of an activation. -/
theorem iwp_sound (hm : Γ.P.follows .mixedOrders = true) (hT : TOK Γ.P Γ.T) (hC : HC C Γ) (hV : ∀ g c n xs, Γ.vis g c n xs → Vis Γ.P Γ.gl g c n xs) (n : Nat) (c : Code) (Q : Ex → St → Prop) (S : St) (a : Act) (w : World) (I : Imm) (X : Nat → Prop) (β : Beta) (σ : Nat → Sig)
    (h : iwp C Γ c Q S) (hr : Rel Γ S a w I X β σ) : c.wpIn (Fw none) n Γ.P (QRG Γ (Wn fun _ => true) Q I X w β σ a) a w :=
  iwp_soundG (W := Wn fun _ => true) false false (opOK_n _ hT hC none n) (fun _ => draw_n _ hm hT hC none n)
    (fun _ f ps assign body Q S a w I X β σ hw h hr _ => range_sound _ hm hT hC hV n f ps assign body Q S a w I X β σ hw h hr) c Q S a w I X β σ (fun e => by cases e) (fun e => by cases e) (fun _ _ => rfl) h hr trivial

end
end Go.Proofs.YtllmejkmogepjaaDoor.Ix
