/-
  Ix27: iterators: a function's word to the loops over it, out of the evaluator's word on its body.
-/
import Derived.Test.YtllmejkmogepjaaDoorX15
namespace Go.Proofs.YtllmejkmogepjaaDoor.Ix
set_option linter.unusedVariables false
set_option linter.unusedSimpArgs false

section
variable {C : Con} {Γ : Env} {S : St} {a : Act} {w : World} {I : Imm} {X : Nat → Prop} {β : Beta} {σ : Nat → Sig} {K : St → Prop}

mutual
theorem noOwn_idem : ∀ (x : IV), noOwn (noOwn x) = noOwn x
  | .agg xs => by simp only [noOwn, noOwnL_idem xs]
  | .tup xs => by simp only [noOwn, noOwnL_idem xs]
  | .fn f a c => by simp only [noOwn, noOwnL_idem a, noOwnL_idem c]
  | .lst _ _ _ _ | .int _ _ | .bool _ | .str _ | .lit _ | .nilS | .ptr _ _ _ | .vptr _ _ _ _ _ | .raw _ _ _ | .dead => rfl
theorem noOwnL_idem : ∀ (l : List IV), noOwnL (noOwnL l) = noOwnL l
  | [] => rfl
  | x :: r => by simp only [noOwnL, noOwn_idem x, noOwnL_idem r]
end

theorem putT_len {d : Option Nat} {v : IV} {n : Nat} (hn : S.up.length = n) (h : putT Γ S d v K) : putT Γ S d v fun S' => K S' ∧ S'.up.length = n := by
  obtain ⟨tm, ce, up⟩ := S
  cases d with
  | none => exact ⟨h, hn⟩
  | some t =>
    simp only [putT] at h ⊢
    split
    · rename_i hb; rw [hb] at h; exact ⟨h, hn⟩
    · rename_i hb; rw [hb] at h; exact h.elim

theorem newC_len {d : Nat} {c : List IV} {n : Nat} (hn : S.up.length = n) (h : newC Γ S d c K) : newC Γ S d c fun S' => K S' ∧ S'.up.length = n := by
  obtain ⟨tm, ce, up⟩ := S
  simp only [newC] at h ⊢
  split at h
  · exact h.elim
  · split at h
    · exact ⟨h, hn⟩
    · exact h.elim

theorem untag_len {t n : Nat} {K K' : St → Prop} (hn : S.up.length = n) (hk : ∀ S', S'.up.length = n → K S' → K' S') (h : untag t S K) : untag t S K' := by
  obtain ⟨tm, ce, up⟩ := S
  simp only [untag] at h ⊢
  split at h
  · exact hk _ hn h
  · exact hk _ hn h

theorem untagO_len {d : Option Nat} {n : Nat} {K K' : St → Prop} (hn : S.up.length = n) (hk : ∀ S', S'.up.length = n → K S' → K' S') (h : untagO d S K) : untagO d S K' := by
  cases d with
  | none => exact hk _ hn h
  | some t => exact untag_len hn hk h

theorem putUp_len : ∀ (l : Nat) (up : List Ces) (d : Nat) (c : List IV), (putUp up l d c).length = up.length
  | _, [], _, _ => rfl
  | 0, _ :: _, _, _ => rfl
  | l + 1, c :: r, d, x => by simp [putUp, putUp_len l r d x]

theorem cellsK_mono {v : IV} {n : Nat} {K K' : List IV → Prop} (hk : ∀ c, K c → K' c) (h : cellsK v n K) : cellsK v n K' := by
  unfold cellsK at h ⊢
  split at h
  · split at h
    · exact hk _ h
    · exact h.elim
  · exact h.elim

theorem storeI_len {m n : Nat} {p v : IV} (hn : S.up.length = n) (h : storeI S m p v K) : storeI S m p v fun S' => K S' ∧ S'.up.length = n := by
  obtain ⟨tm, ce, up⟩ := S
  cases p with
  | ptr l d off =>
    cases l with
    | zero =>
      simp only [storeI] at h ⊢
      split at h
      · refine cellsK_mono (fun c hc => ?_) h
        split at hc
        · exact ⟨hc, hn⟩
        · exact hc.elim
      · exact h.elim
    | succ l =>
      simp only [storeI] at h ⊢
      split at h
      · refine cellsK_mono (fun c hc => ?_) h
        split at hc
        · exact ⟨hc, by simpa [putUp_len] using hn⟩
        · exact hc.elim
      · exact h.elim
  | _ => simp [storeI] at h

theorem appendI_len {d e n : Nat} {s x : IV} (hn : S.up.length = n) (h : appendI Γ S d e s x K) : appendI Γ S d e s x fun S' => K S' ∧ S'.up.length = n := by
  unfold appendI at h ⊢
  split at h
  · split at h
    · exact putT_len hn h
    · exact putT_len hn h
    · exact h.elim
  · split at h
    · exact h.elim
    · rename_i hb
      (try simp only [hb])
      split at h
      · rw [chk_iff] at h ⊢
        exact ⟨h.1, untag_len hn (fun S' hs => putT_len hs) h.2⟩
      · split at h
        · exact h.elim
        · rename_i hb2
          (try simp only [hb2])
          rw [chk_iff] at h ⊢
          exact ⟨h.1, untag_len hn (fun S' hs => untag_len hs fun S2 hs2 => putT_len hs2) h.2⟩
      · exact h.elim
  · exact h.elim

/-- The levels above stay as many, but at a round. -/
theorem copyI_len {o : Option Nat} {t e m n : Nat} {x : IV} (hn : S.up.length = n) (h : copyI Γ S o t e m x K) : copyI Γ S o t e m x fun S' => K S' ∧ S'.up.length = n := by
  obtain ⟨tm, ce, up⟩ := S
  unfold copyI at h ⊢
  split at h
  case h_2 => exact h.elim
  rename_i tm' ce' up' o2 e2 m2 g heq
  cases heq
  split at h
  case h_2 => exact h.elim
  rename_i he2
  (try simp only [he2])
  rw [fps_eq, fcs_eq] at h ⊢
  obtain ⟨h1, h2⟩ := chk_spec h
  rw [h1]
  exact putT_len (S := ⟨settleT t e m g tm, settleC t e m g ce, up⟩) hn h2

theorem makeI_len {d e n : Nat} {len : Operand} {l c : IV} (hn : S.up.length = n) (h : makeI Γ S d e len l c K) : makeI Γ S d e len l c fun S' => K S' ∧ S'.up.length = n := by
  unfold makeI at h ⊢
  split at h
  · obtain ⟨h1, h⟩ := chk_spec h
    obtain ⟨h2, h⟩ := chk_spec h
    rw [h1, h2]
    simp only [chk]
    split at h
    · exact untag_len hn (fun S' hs => putT_len hs) h
    · obtain ⟨h3, h⟩ := chk_spec h
      (try rw [h3])
      (try simp only [chk])
      exact untag_len hn (fun S' hs => putT_len hs) h
  · exact h.elim

theorem iop_len {n : Nat} (hC : ∀ g up args r up', C g up args r up' → up'.length = up.length) (hn : S.up.length = n) (o : Oper) (hy : ∀ c x v, o.op = .call c → c.callee = .value x → evo Γ S x = .lit v → False)
    (h : iop C Γ S o K) : iop C Γ S o fun S' => K S' ∧ S'.up.length = n := by
  obtain ⟨dst, op, type, pos, after, guard⟩ := o
  have pure : ival Γ S ⟨dst, op, type, pos, after, guard⟩ (fun v => putT Γ S dst v K) → ival Γ S ⟨dst, op, type, pos, after, guard⟩ fun v => putT Γ S dst v fun S' => K S' ∧ S'.up.length = n := fun h => by
    obtain ⟨v, h1, h2⟩ := ival_wit h
    exact h2 _ (putT_len hn h1)
  cases op with
  | alloc t =>
    simp only [iop] at h ⊢
    split at h
    · unfold tyK at h ⊢
      split at h
      · rw [fvL_eq] at h ⊢; exact newC_len hn h
      · exact h.elim
    · exact h.elim
  | box t x =>
    simp only [iop, ev_eq] at h ⊢
    split at h
    · split at h
      · rename_i hc; (try simp only [hc]); exact newC_len hn h
      · exact h.elim
    · exact h.elim
  | buildSlice t len parts =>
    simp only [iop] at h ⊢
    split at h
    · rename_i e d hk
      (try simp only [hk])
      split at h
      · rename_i h1 h2
        (try simp only [h1, h2])
        obtain ⟨xs, h3, h4⟩ := buildI_wit _ _ h
        refine h4 _ ?_
        split at h3
        · rename_i hnp
          (try simp only [hnp])
          split at h3
          · exact putT_len hn h3
          · rw [fvL_eq] at h3 ⊢
            exact untag_len hn (fun S' hs => putT_len hs) h3
        · exact h3.elim
      · exact h.elim
    · exact h.elim
  | store t x y =>
    simp only [iop, ev_eq] at h ⊢
    split at h
    · unfold tyK at h ⊢
      split at h
      · exact storeI_len hn h
      · exact h.elim
    · exact h.elim
  | call c =>
    simp only [iop] at h ⊢
    unfold calls at h ⊢
    split at h
    · rename_i f hf
      split at h
      · rename_i g first captured hx
        (try simp only [hf])
        (try simp only [hx])
        rw [fvL_eq] at h ⊢
        obtain ⟨as, r, r', ce, up, h0, h1, h2, h3⟩ := h
        have hl : up.length = n := by have := hC _ _ _ _ _ h1; simp at this; omega
        exact ⟨as, r, r', ce, up, h0, h1, h2, untagO_len (S := ⟨S.tm, ce, up⟩) hl (fun S' hs hk => by rw [fv_eq] at hk ⊢; exact putT_len hs hk) h3⟩
      · rename_i v hx
        exact (hy c f v rfl hf hx).elim
      · exact h.elim
    · rename_i b hb
      (try simp only [hb])
      rw [fvL_eq] at h ⊢
      split at h
      · split at h
        · rename_i ht
          (try simp only [ht])
          split at h
          · rename_i hk; (try simp only [hk]); exact putT_len hn h
          · rename_i hk; (try simp only [hk]); exact putT_len hn h
          · rename_i hk; (try simp only [hk]); exact putT_len hn h
          · exact h.elim
        · exact h.elim
      · obtain ⟨v, h1, h2⟩ := minI_wit (K := fun v => putT Γ S dst v K) h
        exact h2 _ (putT_len hn h1)
      · obtain ⟨v, h1, h2⟩ := maxI_wit (K := fun v => putT Γ S dst v K) h
        exact h2 _ (putT_len hn h1)
      · split at h
        · rename_i ht
          (try simp only [ht])
          split at h
          · rename_i hk
            (try simp only [hk])
            split at h
            · rename_i he; (try simp only [he]); exact copyI_len hn h
            · exact h.elim
          · exact h.elim
        · exact h.elim
      · split at h
        · rename_i hd ht
          (try simp only at hd); subst hd
          (try simp only [ht])
          split at h
          · rename_i h1 h2; (try simp only [h1, h2]); exact appendI_len hn h
          · exact h.elim
        · exact h.elim
      · exact h.elim
    · exact h.elim
  | makeSlice t len cap =>
    simp only [iop] at h ⊢
    split at h
    · rename_i e d hk
      (try simp only [hk])
      split at h
      · rename_i hp
        (try simp only [hp])
        exact makeI_len hn h
      · exact h.elim
    · exact h.elim
  | slice t x lo hi mx =>
    simp only [iop] at h ⊢
    split at h
    · rename_i m e hk
      (try simp only [hk])
      obtain ⟨tm, ce, up⟩ := S
      unfold sliceA at h ⊢
      split at h
      case h_2 => exact h.elim
      rename_i tm' ce' up' c heq hx
      cases heq
      (try simp only [hx])
      split at h
      case h_2 => exact h.elim
      rename_i xs hxs
      (try simp only [hxs])
      split at h
      case h_2 => exact h.elim
      rename_i hok
      (try simp only [hok])
      rw [fvL_eq, fps_eq, fcs_eq] at h ⊢
      exact putT_len (S := ⟨killT c tm, killC c ce, up⟩) hn h
    · exact pure h
  | _ => exact pure h

/-- The way of an iterator: the caller's word, by the rounds that have been. -/
def Wy (gl : Nat → IV) (J : Nat → World → Imm → (Nat → Prop) → Prop) : Way where
  wr := fun _ => true
  T := fun L w I X => J L w I X
  E := fun _ _ _ _ _ _ => True
  refl := fun _ _ _ => trivial
  trans := fun _ _ => trivial

theorem upC_rep (m l : Nat) : upC (List.replicate m []) l = [] := by
  induction m generalizing l with
  | zero => rfl
  | succ m ih => cases l with
    | zero => rfl
    | succ l => exact ih l

theorem rounds_rep (n : Nat) (b : Bool) (m : Nat) : rounds n b (List.replicate m []) = List.replicate (bif b then m + 1 else n + 1 + m) [] := by
  cases b
  · simp [rounds, List.replicate_append_replicate]
  · simp [rounds, List.replicate_succ]

theorem opOK_y {n : Nat} {xs : Nat → List IV} {l : Nat} (hT : TOK Γ.P Γ.T) (hC : ∀ g up args r up', C g up args r up' → Comp Γ.P Γ.gl g up args r up') (hCl : ∀ g up args r up', C g up args r up' → up'.length = up.length) (hyl : Γ.yld = some (l, n, xs))
    {J : Nat → World → Imm → (Nat → Prop) → Prop}
    (hst : ∀ k w1 I1 X1 w2 I2, J k w1 I1 X1 → Ext I1 X1 w1 I2 w2 → Base Γ.gl w2 I2 X1 → J k w2 I2 X1)
    (hY : ∀ (k : Nat) w1 I1 X1 (Y : Nat → Prop) (vs : Array Value), k < n → J k w1 I1 X1 → Base Γ.gl w1 I1 X1 → (∀ b, Y b → ¬ X1 b ∧ ∃ o, w1.heap[b]? = some o ∧ notLoop o = true) →
      (xs k).length = vs.size → (∀ (j : Nat) x, (xs k)[j]? = some x → D I1 x (vs.getD j undef)) →
      YieldAt (Fw none) 0 Γ.P l vs w1 fun e w2 => ∃ I2 X2 b, e = .returned (.bool b) ∧ Kept I1 Y w1 I2 w2 ∧ Base Γ.gl w2 I2 X2 ∧ (∀ b, Y b → ¬ X2 b) ∧ J (bif b then k + 1 else n + 1 + k) w2 I2 X2) (m : Nat) :
    OpOK C Γ (Wy Γ.gl J) none m := by
  intro o S K a w I X β σ Q hwr h hr ht
  by_cases hy : ∃ c x v, o.op = .call c ∧ c.callee = .value x ∧ evo Γ S x = .lit v
  · obtain ⟨c, x, v, hop, hc, hx⟩ := hy
    have hd : ∀ cc, o.op ≠ .defer cc := fun cc e => by rw [hop] at e; cases e
    simp only [iop, hop, calls, hc, hx, hyl] at h
    rw [fvL_eq] at h
    obtain ⟨rfl, hu0, h1, h2, h3, hk⟩ := h
    have hvx := evo_V hr x
    rw [hx] at hvx
    have hval : a.eval x = yv l := by
      generalize a.eval x = u at hvx
      cases hvx with
      | data h => cases h; rfl
    refine ⟨fun _ _ => trivial, ?_⟩
    rw [Oper.semAt_eq _ _ _ hd]
    have hargs : ∀ (j : Nat) y, (xs S.up.length)[j]? = some y → D I y ((c.args.map a.eval).getD j undef) := by
      intro j y hy
      have hy0 := hy
      rw [← h2, noOwnL_eq, evoL_eq] at hy
      obtain ⟨z, hz, rfl⟩ := map_get hy
      simp only [List.getElem?_map, Option.map_eq_some_iff] at hz
      obtain ⟨q, hq, rfl⟩ := hz
      have hnp : noPtr (noOwn (evo Γ S q)) = true := noPtrL_get h3 j _ (by rw [noOwnL_eq, evoL_eq]; exact hy)
      have hV : V I β (σ 0) (noOwn (evo Γ S q)) (a.eval q) := (evo_V hr q).noOwn
      have hD := hV.data' hnp
      simp only [Array.getElem?_toList] at hq
      rw [noOwn_idem] at hD
      simpa [Array.getD_eq_getD_getElem?, hq] using hD
    have hlen : (xs S.up.length).length = (c.args.map a.eval).size := by rw [← h2, noOwnL_eq, evoL_eq]; simp
    obtain ⟨Ds, d1, d2, d3⟩ := hr.df.m
    -- the blocks of the iterator's own
    let Y : Nat → Prop := fun b => (∃ l d, β l d = some b) ∨ (∃ t g, σ 0 t = some g ∧ g.b = b) ∨ b ∈ Ds
    have hYc : ∀ b, Y b → ¬ X b ∧ ∃ o, w.heap[b]? = some o ∧ notLoop o = true := by
      rintro b (⟨l, d, hb⟩ | ⟨t, g, hg, rfl⟩ | hb)
      · obtain ⟨cc, hcc⟩ := hr.mem.keys l d b hb
        obtain ⟨b', arr, el, k1, k2, _, _, _, _, k7⟩ := hr.mem.cell l d cc hcc
        rw [hb] at k1; cases k1
        exact ⟨k7, _, k2, rfl⟩
      · obtain ⟨cur, k1, _, _, _, _, k6, _⟩ := hr.own.row t g hg
        exact ⟨k6, _, k1, rfl⟩
      · exact ⟨(d3 b hb).2, _, (d3 b hb).1, rfl⟩
    obtain ⟨fn, tmps, asg, body, hrun, hround⟩ := hY S.up.length w I X Y (c.args.map a.eval) h1 ht hr.base hYc hlen hargs
    have hrun2 : (execOp a.eval o).run Γ.P w = .ok (.round l fn tmps asg body) w := by
      rw [← hrun]
      simp [execOp, hop, resolve, hc, hval, yv, Deferred.ofValue, invoke, callFunc]
    rw [hrun2]
    refine ⟨fun e => (by cases e), (roundIn_any hround).mono ?_⟩
    rintro e w2 ⟨I2, X2, b, rfl, hkp, hb2, hYX, hJ2⟩
    simp only
    have hu := hk b
    have hnoβ : ∀ l' d b', β (l' + 1) d = some b' → False := fun l' d b' hb => by
      obtain ⟨cc, hcc⟩ := hr.mem.keys (l' + 1) d b' hb
      simp only [upC] at hcc
      rw [hu0, upC_rep] at hcc; cases hcc
    have hlr : (rounds n b S.up).length = bif b then S.up.length + 1 else n + 1 + S.up.length := by rw [hu0, rounds_rep]; simp
    have r2 : Rel Γ ⟨S.tm, S.ce, rounds n b S.up⟩ a w2 I2 X2 β σ := by
      refine ⟨fun i => (hr.tm i).mono hkp.imm (fun _ _ _ h => h) (fun _ _ h => h), ⟨⟨Ds, d1, d2, fun D hD => ⟨hkp.dfr D _ (d3 D hD).1, hYX D (.inr (.inr hD))⟩⟩, hr.df.e⟩, hr.nt,
        ⟨fun l' d cc hcc => ?_, hr.mem.inj, fun l' d b' hb => ?_, hb2.im, hb2.glo, hb2.xb⟩, ⟨fun t g hg => ?_, hr.own.inj⟩⟩
      · cases l' with
        | succ l' =>
          simp only [upC] at hcc
          rw [hu0, rounds_rep, upC_rep] at hcc; cases hcc
        | zero =>
          obtain ⟨b', arr, el, k1, k2, k3, k4, k5, k6, k7⟩ := hr.mem.cell 0 d cc hcc
          have hy : Y b' := .inl ⟨0, d, k1⟩
          exact ⟨b', arr, el, k1, by rw [hkp.keep b' hy]; exact k2, k3, k4, fun j z hz => (k5 j z hz).mono hkp.imm (fun _ _ _ h => h) (fun _ _ h => h), fun j => by rw [hkp.new ⟨b', j, none⟩ hy]; exact k6 j, hYX b' hy⟩
      · cases l' with
        | succ l' => exact (hnoβ l' d b' hb).elim
        | zero => exact hr.mem.keys 0 d b' hb
      · obtain ⟨cur, k1, k2, k3, k4, k5, k6, k7⟩ := hr.own.row t g hg
        have hy : Y g.b := .inr (.inl ⟨t, g, hg, rfl⟩)
        exact ⟨cur, by rw [hkp.keep g.b hy]; exact k1, k2, k3, k4, fun j hj => by rw [hkp.new ⟨g.b, j, none⟩ hy]; exact k5 j hj, hYX g.b hy, k7⟩
    obtain ⟨S', ⟨hk1, hk2⟩, r3⟩ := putT_sound (putT_len (n := (rounds n b S.up).length) rfl hu) r2 (.data (.bool b))
    refine ⟨S', I2, X2, β, σ, hk1, r3, ?_, trivial, .refl _ _, fun i hi => by cases hi⟩
    show J S'.up.length w2 I2 X2
    rw [hk2, hlr]; exact hJ2
  · have hy' : ∀ c x v, o.op = .call c → c.callee = .value x → evo Γ S x = .lit v → False := fun c x v e1 e2 e3 => hy ⟨c, x, v, e1, e2, e3⟩
    refine wpIn_of_wp (iop_noDefer h) (Oper.wp_mono ?_ (iop_all' hT hC o (fun c x v e1 e2 e3 => (hy' c x v e1 e2 e3).elim) (iop_len hCl rfl o hy' h) hr Q))
    rintro a' w' ⟨S', I', β', σ', ⟨h1, h2⟩, r', he, hab⟩
    refine ⟨S', I', X, β', σ', h1, r', ?_, trivial, hab, fun i hi => by cases hi⟩
    show J S'.up.length w' I' X
    rw [h2]
    exact hst _ _ _ _ _ _ ht he r'.base

/-- **An iterator's word.** -/
theorem vis_of_body {C : Con} (hT : TOK Γ.P Γ.T) (hC : ∀ g up args r up', C g up args r up' → Comp Γ.P Γ.gl g up args r up') (hCl : ∀ g up args r up', C g up args r up' → up'.length = up.length)
    {g : Nat} {fn : Func} {c : Code} (hf : Γ.P.funcs[g]? = some fn) (hb : fn.body = some c) (hn : (fn.name == "runtime.NumGoroutine") = false) (hnr : noRange c = true) (hnd : noDraw c = true)
    {args : List IV} {n : Nat} {xs : Nat → List IV} (h : ivis C Γ fn args n xs) : Vis Γ.P Γ.gl g args n xs := by
  refine ⟨⟨fn, c, hf, hb, hn⟩, fun l vals J w I X hbase hlen hargs hst hY h0 => ?_⟩
  refine (callsIn_wide (n := 1)).1 (callsIn_of_wp_marks (F := Fw none) hf hb trivial ?_)
  simp only [ivis, hb] at h
  have h := h l
  let Γ' : Env := ⟨Γ.P, Γ.T, Γ.gl, fn.ntmps, Γ.vis, some (l, n, xs), some []⟩
  let X1 : Nat → Prop := X
  have r0 : Rel Γ' ⟨params 0 (.lit (yv l) :: args), [], []⟩ { tmps := (#[yv l] ++ vals) ++ Array.replicate (fn.ntmps - (#[yv l] ++ vals).size) undef, defers := [] } w I X (fun _ _ => none) (fun _ => noSig) := by
    refine ⟨fun i => ?_, ⟨.nil _ _, fun d e => (by cases e; rfl)⟩, ?_, ⟨fun l d c hc => ?_, fun l d l' d' b h1 => (by cases h1), fun l d b h1 => (by cases h1), hbase.im, hbase.glo, hbase.xb⟩, ⟨fun t g h => (by cases h), fun t t' g g' h => (by cases h)⟩⟩
    · rw [params_look]
      simp only [Nat.zero_le, if_true, Nat.sub_zero]
      cases i with
      | zero =>
        simp only [List.getD_cons_zero]
        have e : ((#[yv l] ++ vals) ++ Array.replicate (fn.ntmps - (#[yv l] ++ vals).size) undef).getD 0 undef = yv l := by
          have e1 : ((#[yv l] ++ vals) ++ Array.replicate (fn.ntmps - (#[yv l] ++ vals).size) undef)[0]? = some (yv l) := by
            rw [Array.getElem?_append_left (by simp; omega), Array.getElem?_append_left (by simp)]
            rfl
          rw [Array.getD_eq_getD_getElem?, e1]; rfl
        rw [e]; exact .data (D.lit (yv l) rfl)
      | succ i =>
        simp only [List.getD_cons_succ]
        cases hi : args[i]? with
        | none => simp only [List.getD_eq_getElem?_getD, hi, Option.getD_none]; exact .data (.dead _)
        | some x =>
          have hlt : i < vals.size := by rw [← hlen]; exact (List.getElem?_eq_some_iff.1 hi).1
          have := hargs i x hi
          simp only [List.getD_eq_getElem?_getD, hi, Option.getD_some]
          refine .data ?_
          rw [Array.getD_eq_getD_getElem?] at this ⊢
          rw [Array.getElem?_append_left (by simp; omega), Array.getElem?_append_right (by simp)]
          simpa using this
    · simp only [Array.size_append, Array.size_replicate]; show fn.ntmps ≤ _; omega
    · cases l with
      | zero => simp [upC, lookC] at hc
      | succ l => simp [upC, lookC] at hc
  have hw := iwp_soundG (W := Wy Γ.gl J) (Γ := Γ') (r := none) (n := 1) true true (opOK_y (Γ := Γ') (l := l) (n := n) (xs := xs) hT hC hCl rfl hst hY 1) (fun e => by cases e) (fun e => by cases e) c _ _ _ w I X _ _ (fun _ => hnr) (fun _ => hnd) (fun _ _ => rfl) h r0 h0
  have fin : ∀ a' w', AftG Γ' (Wy Γ.gl J) (fun S => resL Γ' S fn.results.toList fun _ => n ≤ S.up.length) I X w (fun _ _ => none) (fun _ => noSig) { tmps := (#[yv l] ++ vals) ++ Array.replicate (fn.ntmps - (#[yv l] ++ vals).size) undef, defers := [] } a' w' →
      LeavesInM (Fw none) 1 Γ.P fn a'.tmps (fun e w' => ∃ v I' X' L, e = .returned v ∧ n ≤ L ∧ J L w' I' X' ∧ Base Γ.gl w' I' X') a'.defers .returning w' := by
    rintro a' w' ⟨S', I', X', β', σ', hk, r, hJ, _, hab, _⟩
    have hd : a'.defers = [] := r.df.e [] rfl
    obtain ⟨ivs, us, k1, k2, k3, k4⟩ := resL_sound (Γ := Γ') hT r _ _ hk
    rw [hd]
    refine ⟨if h : us.toArray.size = 1 then us.toArray[0] else .tuple us.toArray, ?_, _, I', X', S'.up.length, rfl, k1, hJ, r.base⟩
    have k4' : (fn.results.toList.mapM (resSem a'.tmps)).run Γ.P w' = .ok us w' := k4
    show (results fn a'.tmps).run Γ.P w' = _
    simp only [results_eq, Array.mapM_eq_mapM_toList, Sem.run_bind, Sem.run_map, k4']; rfl
  refine wpIn_mono hw fun e a' w' h' => ?_
  cases e with
  | normal => exact fin a' w' h'
  | ret => exact fin a' w' h'
  | exit id => obtain ⟨S', I', X', β', σ', hk, _⟩ := h'; exact hk.elim
  | goto l => exact h'.elim
  | panic ch => exact h'.elim
  | outgrown => exact h'.elim

end
end Go.Proofs.YtllmejkmogepjaaDoor.Ix
