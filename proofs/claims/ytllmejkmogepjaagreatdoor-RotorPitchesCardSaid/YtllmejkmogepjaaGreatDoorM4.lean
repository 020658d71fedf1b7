/-
  Ix27: iterators: a function's word to the loops over it, out of the evaluator's word on its body.
-/
import Derived.Test.YtllmejkmogepjaaGreatDoorM3
import Derived.Test.YtllmejkmogepjaaGreatDoorProg
import Derived.Lib.ItoaLen
import Derived.Lib.Join
import Derived.ChangeArms
import Derived.OpenShut
import Derived.ChangeShapes
namespace Go.Proofs.YtllmejkmogepjaaGreatDoor.Ix
set_option linter.unusedVariables false
set_option linter.unusedSimpArgs false

section
variable {C : Con} {Γ : Env} {S : St} {a : Act} {w : World} {I : Imm} {X : Nat → Prop} {β : Beta} {σ : Nat → Sig} {K : St → Prop}

mutual
theorem noOwn_idem : ∀ (x : IV), noOwn (noOwn x) = noOwn x
  | .agg xs => by simp only [noOwn, noOwnL_idem xs]
  | .tup xs => by simp only [noOwn, noOwnL_idem xs]
  | .fn f a c => by simp only [noOwn, noOwnL_idem a, noOwnL_idem c]
  | .lst _ _ _ _ | .int _ _ | .bool _ | .str _ | .lit _ | .nilS | .ptr _ _ _ | .vptr _ _ _ _ _ | .raw _ _ _ | .dead => rfl
theorem noOwnL_idem : ∀ (l : List IV), noOwnL (noOwnL l) = noOwnL l
  | [] => rfl
  | x :: r => by simp only [noOwnL, noOwn_idem x, noOwnL_idem r]
end

theorem putT_len {d : Option Nat} {v : IV} {n : Nat} (hn : S.up.length = n) (h : putT Γ S d v K) : putT Γ S d v fun S' => K S' ∧ S'.up.length = n := by
  obtain ⟨tm, ce, up⟩ := S
  cases d with
  | none => exact ⟨h, hn⟩
  | some t =>
    simp only [putT] at h ⊢
    split
    · rename_i hb; rw [hb] at h; exact ⟨h, hn⟩
    · rename_i hb; rw [hb] at h; exact h.elim

theorem newC_len {d : Nat} {c : List IV} {n : Nat} (hn : S.up.length = n) (h : newC Γ S d c K) : newC Γ S d c fun S' => K S' ∧ S'.up.length = n := by
  obtain ⟨tm, ce, up⟩ := S
  simp only [newC] at h ⊢
  split at h
  · exact h.elim
  · split at h
    · exact ⟨h, hn⟩
    · exact h.elim

theorem untag_len {t n : Nat} {K K' : St → Prop} (hn : S.up.length = n) (hk : ∀ S', S'.up.length = n → K S' → K' S') (h : untag t S K) : untag t S K' := by
  obtain ⟨tm, ce, up⟩ := S
  simp only [untag] at h ⊢
  split at h
  · exact hk _ hn h
  · exact hk _ hn h

theorem untagO_len {d : Option Nat} {n : Nat} {K K' : St → Prop} (hn : S.up.length = n) (hk : ∀ S', S'.up.length = n → K S' → K' S') (h : untagO d S K) : untagO d S K' := by
  cases d with
  | none => exact hk _ hn h
  | some t => exact untag_len hn hk h

theorem putUp_len : ∀ (l : Nat) (up : List Ces) (d : Nat) (c : List IV), (putUp up l d c).length = up.length
  | _, [], _, _ => rfl
  | 0, _ :: _, _, _ => rfl
  | l + 1, c :: r, d, x => by simp [putUp, putUp_len l r d x]

theorem cellsK_mono {v : IV} {n : Nat} {K K' : List IV → Prop} (hk : ∀ c, K c → K' c) (h : cellsK v n K) : cellsK v n K' := by
  unfold cellsK at h ⊢
  split at h
  · split at h
    · exact hk _ h
    · exact h.elim
  · exact h.elim

theorem storeI_len {m n : Nat} {p v : IV} (hn : S.up.length = n) (h : storeI S m p v K) : storeI S m p v fun S' => K S' ∧ S'.up.length = n := by
  obtain ⟨tm, ce, up⟩ := S
  cases p with
  | ptr l d off =>
    cases l with
    | zero =>
      simp only [storeI] at h ⊢
      split at h
      · refine cellsK_mono (fun c hc => ?_) h
        split at hc
        · exact ⟨hc, hn⟩
        · exact hc.elim
      · exact h.elim
    | succ l =>
      simp only [storeI] at h ⊢
      split at h
      · refine cellsK_mono (fun c hc => ?_) h
        split at hc
        · exact ⟨hc, by simpa [putUp_len] using hn⟩
        · exact hc.elim
      · exact h.elim
  | _ => simp [storeI] at h

theorem appendI_len {d e n : Nat} {s x : IV} (hn : S.up.length = n) (h : appendI Γ S d e s x K) : appendI Γ S d e s x fun S' => K S' ∧ S'.up.length = n := by
  unfold appendI at h ⊢
  split at h
  · split at h
    · exact putT_len hn h
    · exact putT_len hn h
    · exact h.elim
  · split at h
    · exact h.elim
    · rename_i hb
      (try simp only [hb])
      split at h
      · rw [chk_iff] at h ⊢
        exact ⟨h.1, untag_len hn (fun S' hs => putT_len hs) h.2⟩
      · split at h
        · exact h.elim
        · rename_i hb2
          (try simp only [hb2])
          rw [chk_iff] at h ⊢
          exact ⟨h.1, untag_len hn (fun S' hs => untag_len hs fun S2 hs2 => putT_len hs2) h.2⟩
      · exact h.elim
  · exact h.elim

/-- The levels above stay as many, but at a round. -/
theorem copyI_len {o : Option Nat} {t e m n : Nat} {x : IV} (hn : S.up.length = n) (h : copyI Γ S o t e m x K) : copyI Γ S o t e m x fun S' => K S' ∧ S'.up.length = n := by
  obtain ⟨tm, ce, up⟩ := S
  unfold copyI at h ⊢
  split at h
  case h_2 => exact h.elim
  rename_i tm' ce' up' o2 e2 m2 g heq
  cases heq
  split at h
  case h_2 => exact h.elim
  rename_i he2
  (try simp only [he2])
  rw [fps_eq, fcs_eq] at h ⊢
  obtain ⟨h1, h2⟩ := chk_spec h
  rw [h1]
  exact putT_len (S := ⟨settleT t e m g tm, settleC t e m g ce, up⟩) hn h2

theorem makeI_len {d e n : Nat} {len : Operand} {l c : IV} (hn : S.up.length = n) (h : makeI Γ S d e len l c K) : makeI Γ S d e len l c fun S' => K S' ∧ S'.up.length = n := by
  unfold makeI at h ⊢
  split at h
  · obtain ⟨h1, h⟩ := chk_spec h
    obtain ⟨h2, h⟩ := chk_spec h
    rw [h1, h2]
    simp only [chk]
    split at h
    · exact untag_len hn (fun S' hs => putT_len hs) h
    · obtain ⟨h3, h⟩ := chk_spec h
      (try rw [h3])
      (try simp only [chk])
      exact untag_len hn (fun S' hs => putT_len hs) h
  · exact h.elim

theorem iop_len {n : Nat} (hC : ∀ g up args r up', C g up args r up' → up'.length = up.length) (hn : S.up.length = n) (o : Oper) (hy : ∀ c x v, o.op = .call c → c.callee = .value x → evo Γ S x = .lit v → False)
    (h : iop C Γ S o K) : iop C Γ S o fun S' => K S' ∧ S'.up.length = n := by
  obtain ⟨dst, op, type, pos, after, guard⟩ := o
  have pure : ival Γ S ⟨dst, op, type, pos, after, guard⟩ (fun v => putT Γ S dst v K) → ival Γ S ⟨dst, op, type, pos, after, guard⟩ fun v => putT Γ S dst v fun S' => K S' ∧ S'.up.length = n := fun h => by
    obtain ⟨v, h1, h2⟩ := ival_wit h
    exact h2 _ (putT_len hn h1)
  cases op with
  | alloc t =>
    simp only [iop] at h ⊢
    split at h
    · unfold tyK at h ⊢
      split at h
      · rw [fvL_eq] at h ⊢; exact newC_len hn h
      · exact h.elim
    · exact h.elim
  | box t x =>
    simp only [iop, ev_eq] at h ⊢
    split at h
    · split at h
      · rename_i hc; (try simp only [hc]); exact newC_len hn h
      · exact h.elim
    · exact h.elim
  | buildSlice t len parts =>
    simp only [iop] at h ⊢
    split at h
    · rename_i e d hk
      (try simp only [hk])
      split at h
      · rename_i h1 h2
        (try simp only [h1, h2])
        obtain ⟨xs, h3, h4⟩ := buildI_wit _ _ h
        refine h4 _ ?_
        split at h3
        · rename_i hnp
          (try simp only [hnp])
          split at h3
          · exact putT_len hn h3
          · rw [fvL_eq] at h3 ⊢
            exact untag_len hn (fun S' hs => putT_len hs) h3
        · exact h3.elim
      · exact h.elim
    · exact h.elim
  | store t x y =>
    simp only [iop, ev_eq] at h ⊢
    split at h
    · unfold tyK at h ⊢
      split at h
      · exact storeI_len hn h
      · exact h.elim
    · exact h.elim
  | call c =>
    simp only [iop] at h ⊢
    unfold calls at h ⊢
    split at h
    · rename_i f hf
      split at h
      · rename_i g first captured hx
        (try simp only [hf])
        (try simp only [hx])
        rw [fvL_eq] at h ⊢
        cases h with
        | mk aa r r' ce up h0 h1 h2 h3 =>
          have hl : up.length = n := by have := hC _ _ _ _ _ h1; simp at this; omega
          exact .mk aa r r' ce up h0 h1 h2 (untagO_len (S := ⟨S.tm, ce, up⟩) hl (fun S' hs hk => by rw [fv_eq] at hk ⊢; exact putT_len hs hk) h3)
        | cut ks aa r r' ce up h0 h1 h2 h3 =>
          have hl : up.length = n := by have := hC _ _ _ _ _ h1; simp at this; omega
          rw [fpsK_eq] at h3
          exact .cut ks aa r r' ce up h0 h1 h2 (by rw [fpsK_eq]; exact untagO_len (S := ⟨keepT ks S.tm, ce, up⟩) hl (fun S' hs hk => by rw [fv_eq] at hk ⊢; exact putT_len hs hk) h3)
      · rename_i v hx
        exact (hy c f v rfl hf hx).elim
      · exact h.elim
    · rename_i b hb
      (try simp only [hb])
      rw [fvL_eq] at h ⊢
      split at h
      · split at h
        · rename_i ht
          (try simp only [ht])
          split at h
          · rename_i hk; (try simp only [hk]); exact putT_len hn h
          · rename_i hk; (try simp only [hk]); exact putT_len hn h
          · rename_i hk; (try simp only [hk]); exact putT_len hn h
          · exact h.elim
        · exact h.elim
      · obtain ⟨v, h1, h2⟩ := minL_wit _ _ (K := fun v => putT Γ S dst v K) h
        exact h2 _ (putT_len hn h1)
      · obtain ⟨v, h1, h2⟩ := maxL_wit _ _ (K := fun v => putT Γ S dst v K) h
        exact h2 _ (putT_len hn h1)
      · split at h
        · rename_i ht
          (try simp only [ht])
          split at h
          · rename_i hk
            (try simp only [hk])
            split at h
            · rename_i he; (try simp only [he]); exact copyI_len hn h
            · exact h.elim
          · exact h.elim
        · exact h.elim
      · split at h
        · rename_i hd ht
          (try simp only at hd); subst hd
          (try simp only [ht])
          split at h
          · rename_i h1 h2; (try simp only [h1, h2]); exact appendI_len hn h
          · exact h.elim
        · exact h.elim
      · exact h.elim
    · exact h.elim
  | makeSlice t len cap =>
    simp only [iop] at h ⊢
    split at h
    · rename_i e d hk
      (try simp only [hk])
      split at h
      · rename_i hp
        (try simp only [hp])
        exact makeI_len hn h
      · exact h.elim
    · exact h.elim
  | slice t x lo hi mx =>
    simp only [iop] at h ⊢
    split at h
    · rename_i m e hk
      (try simp only [hk])
      obtain ⟨tm, ce, up⟩ := S
      unfold sliceA at h ⊢
      split at h
      case h_2 => exact h.elim
      rename_i tm' ce' up' c heq hx
      cases heq
      (try simp only [hx])
      split at h
      case h_2 => exact h.elim
      rename_i xs hxs
      (try simp only [hxs])
      split at h
      case h_2 => exact h.elim
      rename_i hok
      (try simp only [hok])
      rw [fvL_eq, fps_eq, fcs_eq] at h ⊢
      exact putT_len (S := ⟨killT c tm, killC c ce, up⟩) hn h
    · exact pure h
  | _ => exact pure h

/-- The way of an iterator: the caller's word, by the rounds that have been. -/
def Wy (gl : Nat → IV) (J : Nat → World → Imm → (Nat → Prop) → Prop) : Way where
  wr := fun _ => true
  T := fun L w I X => J L w I X
  E := fun _ _ _ _ _ _ => True
  refl := fun _ _ _ => trivial
  trans := fun _ _ => trivial

theorem upC_rep (m l : Nat) : upC (List.replicate m []) l = [] := by
  induction m generalizing l with
  | zero => rfl
  | succ m ih => cases l with
    | zero => rfl
    | succ l => exact ih l

theorem rounds_rep (n : Nat) (b : Bool) (m : Nat) : rounds n b (List.replicate m []) = List.replicate (bif b then m + 1 else n + 1 + m) [] := by
  cases b
  · simp [rounds, List.replicate_append_replicate]
  · simp [rounds, List.replicate_succ]

theorem opOK_y {n : Nat} {xs : Nat → List IV} {l : Nat} (hT : TOK Γ.P Γ.T) (hC : ∀ g up args r up', C g up args r up' → Comp Γ.P Γ.gl g up args r up') (hCl : ∀ g up args r up', C g up args r up' → up'.length = up.length) (hyl : Γ.yld = some (l, n, xs))
    {J : Nat → World → Imm → (Nat → Prop) → Prop}
    (hst : ∀ k w1 I1 X1 w2 I2, J k w1 I1 X1 → Ext I1 X1 w1 I2 w2 → Base Γ.gl w2 I2 X1 → J k w2 I2 X1)
    (hY : ∀ (k : Nat) w1 I1 X1 (Y : Nat → Prop) (vs : Array Value), k < n → J k w1 I1 X1 → Base Γ.gl w1 I1 X1 → (∀ b, Y b → ¬ X1 b ∧ ∃ o, w1.heap[b]? = some o ∧ notLoop o = true) →
      (xs k).length = vs.size → (∀ (j : Nat) x, (xs k)[j]? = some x → D I1 x (vs.getD j undef)) →
      YieldAt (Fw none) 0 Γ.P l vs w1 fun e w2 => ∃ I2 X2 b, e = .returned (.bool b) ∧ Kept I1 Y w1 I2 w2 ∧ Base Γ.gl w2 I2 X2 ∧ (∀ b, Y b → ¬ X2 b) ∧ J (bif b then k + 1 else n + 1 + k) w2 I2 X2) (m : Nat) :
    OpOK C Γ (Wy Γ.gl J) none m := by
  intro o S K a w I X β σ Q hwr h hr ht
  by_cases hy : ∃ c x v, o.op = .call c ∧ c.callee = .value x ∧ evo Γ S x = .lit v
  · obtain ⟨c, x, v, hop, hc, hx⟩ := hy
    have hd : ∀ cc, o.op ≠ .defer cc := fun cc e => by rw [hop] at e; cases e
    simp only [iop, hop, calls, hc, hx, hyl] at h
    rw [fvL_eq] at h
    obtain ⟨rfl, hu0, h1, h2, h3, hk⟩ := h
    have hvx := evo_V hr x
    rw [hx] at hvx
    have hval : a.eval x = yv l := by
      generalize a.eval x = u at hvx
      cases hvx with
      | data h => cases h; rfl
    refine ⟨fun _ _ => trivial, ?_⟩
    rw [Oper.semAt_eq _ _ _ hd]
    have hargs : ∀ (j : Nat) y, (xs S.up.length)[j]? = some y → D I y ((c.args.map a.eval).getD j undef) := by
      intro j y hy
      have hy0 := hy
      rw [← h2, noOwnL_eq, evoL_eq] at hy
      obtain ⟨z, hz, rfl⟩ := map_get hy
      simp only [List.getElem?_map, Option.map_eq_some_iff] at hz
      obtain ⟨q, hq, rfl⟩ := hz
      have hnp : noPtr (noOwn (evo Γ S q)) = true := noPtrL_get h3 j _ (by rw [noOwnL_eq, evoL_eq]; exact hy)
      have hV : V I β (σ 0) (noOwn (evo Γ S q)) (a.eval q) := (evo_V hr q).noOwn
      have hD := hV.data' hnp
      simp only [Array.getElem?_toList] at hq
      rw [noOwn_idem] at hD
      simpa [Array.getD_eq_getD_getElem?, hq] using hD
    have hlen : (xs S.up.length).length = (c.args.map a.eval).size := by rw [← h2, noOwnL_eq, evoL_eq]; simp
    obtain ⟨Ds, d1, d2, d3⟩ := hr.df.m
    -- the blocks of the iterator's own
    let Y : Nat → Prop := fun b => (∃ l d, β l d = some b) ∨ (∃ t g, σ 0 t = some g ∧ g.b = b) ∨ b ∈ Ds
    have hYc : ∀ b, Y b → ¬ X b ∧ ∃ o, w.heap[b]? = some o ∧ notLoop o = true := by
      rintro b (⟨l, d, hb⟩ | ⟨t, g, hg, rfl⟩ | hb)
      · obtain ⟨cc, hcc⟩ := hr.mem.keys l d b hb
        obtain ⟨b', arr, el, k1, k2, _, _, _, _, k7⟩ := hr.mem.cell l d cc hcc
        rw [hb] at k1; cases k1
        exact ⟨k7, _, k2, rfl⟩
      · obtain ⟨cur, k1, _, _, _, _, k6, _⟩ := hr.own.row t g hg
        exact ⟨k6, _, k1, rfl⟩
      · exact ⟨(d3 b hb).2, _, (d3 b hb).1, rfl⟩
    obtain ⟨fn, tmps, asg, body, hrun, hround⟩ := hY S.up.length w I X Y (c.args.map a.eval) h1 ht hr.base hYc hlen hargs
    have hrun2 : (execOp a.eval o).run Γ.P w = .ok (.round l fn tmps asg body) w := by
      rw [← hrun]
      simp [execOp, hop, resolve, hc, hval, yv, Deferred.ofValue, invoke, callFunc]
    rw [hrun2]
    refine ⟨fun e => (by cases e), (roundIn_any hround).mono ?_⟩
    rintro e w2 ⟨I2, X2, b, rfl, hkp, hb2, hYX, hJ2⟩
    simp only
    have hu := hk b
    have hnoβ : ∀ l' d b', β (l' + 1) d = some b' → False := fun l' d b' hb => by
      obtain ⟨cc, hcc⟩ := hr.mem.keys (l' + 1) d b' hb
      simp only [upC] at hcc
      rw [hu0, upC_rep] at hcc; cases hcc
    have hlr : (rounds n b S.up).length = bif b then S.up.length + 1 else n + 1 + S.up.length := by rw [hu0, rounds_rep]; simp
    have r2 : Rel Γ ⟨S.tm, S.ce, rounds n b S.up⟩ a w2 I2 X2 β σ := by
      refine ⟨fun i => (hr.tm i).mono hkp.imm (fun _ _ _ h => h) (fun _ _ h => h), ⟨⟨Ds, d1, d2, fun D hD => ⟨hkp.dfr D _ (d3 D hD).1, hYX D (.inr (.inr hD))⟩⟩, hr.df.e⟩, hr.nt,
        ⟨fun l' d cc hcc => ?_, hr.mem.inj, fun l' d b' hb => ?_, hb2.im, hb2.glo, hb2.xb, hb2.gz⟩, ⟨fun t g hg => ?_, hr.own.inj⟩⟩
      · cases l' with
        | succ l' =>
          simp only [upC] at hcc
          rw [hu0, rounds_rep, upC_rep] at hcc; cases hcc
        | zero =>
          obtain ⟨b', arr, el, k1, k2, k3, k4, k5, k6, k7⟩ := hr.mem.cell 0 d cc hcc
          have hy : Y b' := .inl ⟨0, d, k1⟩
          exact ⟨b', arr, el, k1, by rw [hkp.keep b' hy]; exact k2, k3, k4, fun j z hz => (k5 j z hz).mono hkp.imm (fun _ _ _ h => h) (fun _ _ h => h), fun j => by rw [hkp.new ⟨b', j, none⟩ hy]; exact k6 j, hYX b' hy⟩
      · cases l' with
        | succ l' => exact (hnoβ l' d b' hb).elim
        | zero => exact hr.mem.keys 0 d b' hb
      · obtain ⟨cur, k1, k2, k3, k4, k5, k6, k7⟩ := hr.own.row t g hg
        have hy : Y g.b := .inr (.inl ⟨t, g, hg, rfl⟩)
        exact ⟨cur, by rw [hkp.keep g.b hy]; exact k1, k2, k3, k4, fun j hj => by rw [hkp.new ⟨g.b, j, none⟩ hy]; exact k5 j hj, hYX g.b hy, k7⟩
    obtain ⟨S', ⟨hk1, hk2⟩, r3⟩ := putT_sound (putT_len (n := (rounds n b S.up).length) rfl hu) r2 (.data (.bool b))
    refine ⟨S', I2, X2, β, σ, hk1, r3, ?_, trivial, .refl _ _, fun i hi => by cases hi⟩
    show J S'.up.length w2 I2 X2
    rw [hk2, hlr]; exact hJ2
  · have hy' : ∀ c x v, o.op = .call c → c.callee = .value x → evo Γ S x = .lit v → False := fun c x v e1 e2 e3 => hy ⟨c, x, v, e1, e2, e3⟩
    refine wpIn_of_wp (iop_noDefer h) (Oper.wp_mono ?_ (iop_all' hT hC o (fun c x v e1 e2 e3 => (hy' c x v e1 e2 e3).elim) (iop_len hCl rfl o hy' h) hr Q))
    rintro a' w' ⟨S', I', β', σ', ⟨h1, h2⟩, r', he, hab⟩
    refine ⟨S', I', X, β', σ', h1, r', ?_, trivial, hab, fun i hi => by cases hi⟩
    show J S'.up.length w' I' X
    rw [h2]
    exact hst _ _ _ _ _ _ ht he r'.base

/-- **An iterator's word.** -/
theorem vis_of_body {C : Con} (hT : TOK Γ.P Γ.T) (hC : ∀ g up args r up', C g up args r up' → Comp Γ.P Γ.gl g up args r up') (hCl : ∀ g up args r up', C g up args r up' → up'.length = up.length)
    {g : Nat} {fn : Func} {c : Code} (hf : Γ.P.funcs[g]? = some fn) (hb : fn.body = some c) (hn : (fn.name == "runtime.NumGoroutine") = false) (hnr : noRange c = true) (hnd : noDraw c = true)
    {args : List IV} {n : Nat} {xs : Nat → List IV} (h : ivis C Γ fn args n xs) : Vis Γ.P Γ.gl g args n xs := by
  refine ⟨⟨fn, c, hf, hb, hn⟩, fun l vals J w I X hbase hlen hargs hst hY h0 => ?_⟩
  refine (callsIn_wide (n := 1)).1 (callsIn_of_wp_marks (F := Fw none) hf hb trivial ?_)
  simp only [ivis, hb] at h
  have h := h l
  let Γ' : Env := ⟨Γ.P, Γ.T, Γ.gl, fn.ntmps, Γ.vis, some (l, n, xs), some []⟩
  let X1 : Nat → Prop := X
  have r0 : Rel Γ' ⟨params 0 (.lit (yv l) :: args), [], []⟩ { tmps := (#[yv l] ++ vals) ++ Array.replicate (fn.ntmps - (#[yv l] ++ vals).size) undef, defers := [] } w I X (fun _ _ => none) (fun _ => noSig) := by
    refine ⟨fun i => ?_, ⟨.nil _ _, fun d e => (by cases e; rfl)⟩, ?_, ⟨fun l d c hc => ?_, fun l d l' d' b h1 => (by cases h1), fun l d b h1 => (by cases h1), hbase.im, hbase.glo, hbase.xb, hbase.gz⟩, ⟨fun t g h => (by cases h), fun t t' g g' h => (by cases h)⟩⟩
    · rw [params_look]
      simp only [Nat.zero_le, if_true, Nat.sub_zero]
      cases i with
      | zero =>
        simp only [List.getD_cons_zero]
        have e : ((#[yv l] ++ vals) ++ Array.replicate (fn.ntmps - (#[yv l] ++ vals).size) undef).getD 0 undef = yv l := by
          have e1 : ((#[yv l] ++ vals) ++ Array.replicate (fn.ntmps - (#[yv l] ++ vals).size) undef)[0]? = some (yv l) := by
            rw [Array.getElem?_append_left (by simp; omega), Array.getElem?_append_left (by simp)]
            rfl
          rw [Array.getD_eq_getD_getElem?, e1]; rfl
        rw [e]; exact .data (D.lit (yv l) rfl)
      | succ i =>
        simp only [List.getD_cons_succ]
        cases hi : args[i]? with
        | none => simp only [List.getD_eq_getElem?_getD, hi, Option.getD_none]; exact .data (.dead _)
        | some x =>
          have hlt : i < vals.size := by rw [← hlen]; exact (List.getElem?_eq_some_iff.1 hi).1
          have := hargs i x hi
          simp only [List.getD_eq_getElem?_getD, hi, Option.getD_some]
          refine .data ?_
          rw [Array.getD_eq_getD_getElem?] at this ⊢
          rw [Array.getElem?_append_left (by simp; omega), Array.getElem?_append_right (by simp)]
          simpa using this
    · simp only [Array.size_append, Array.size_replicate]; show fn.ntmps ≤ _; omega
    · cases l with
      | zero => simp [upC, lookC] at hc
      | succ l => simp [upC, lookC] at hc
  have hw := iwp_soundG (W := Wy Γ.gl J) (Γ := Γ') (r := none) (n := 1) true true (opOK_y (Γ := Γ') (l := l) (n := n) (xs := xs) hT hC hCl rfl hst hY 1) (fun e => by cases e) (fun e => by cases e) c _ _ _ w I X _ _ (fun _ => hnr) (fun _ => hnd) (fun _ _ => rfl) h r0 h0
  have fin : ∀ a' w', AftG Γ' (Wy Γ.gl J) (fun S => resL Γ' S fn.results.toList fun _ => n ≤ S.up.length) I X w (fun _ _ => none) (fun _ => noSig) { tmps := (#[yv l] ++ vals) ++ Array.replicate (fn.ntmps - (#[yv l] ++ vals).size) undef, defers := [] } a' w' →
      LeavesInM (Fw none) 1 Γ.P fn a'.tmps (fun e w' => ∃ v I' X' L, e = .returned v ∧ n ≤ L ∧ J L w' I' X' ∧ Base Γ.gl w' I' X') a'.defers .returning w' := by
    rintro a' w' ⟨S', I', X', β', σ', hk, r, hJ, _, hab, _⟩
    have hd : a'.defers = [] := r.df.e [] rfl
    obtain ⟨ivs, us, k1, k2, k3, k4⟩ := resL_sound (Γ := Γ') hT r _ _ hk
    rw [hd]
    refine ⟨if h : us.toArray.size = 1 then us.toArray[0] else .tuple us.toArray, ?_, _, I', X', S'.up.length, rfl, k1, hJ, r.base⟩
    have k4' : (fn.results.toList.mapM (resSem a'.tmps)).run Γ.P w' = .ok us w' := k4
    show (results fn a'.tmps).run Γ.P w' = _
    simp only [results_eq, Array.mapM_eq_mapM_toList, Sem.run_bind, Sem.run_map, k4']; rfl
  refine wpIn_mono hw fun e a' w' h' => ?_
  cases e with
  | normal => exact fin a' w' h'
  | ret => exact fin a' w' h'
  | exit id => obtain ⟨S', I', X', β', σ', hk, _⟩ := h'; exact hk.elim
  | goto l => exact h'.elim
  | panic ch => exact h'.elim
  | outgrown => exact h'.elim

end
end Go.Proofs.YtllmejkmogepjaaGreatDoor.Ix

/-
  Ix28: words for the use of the evaluator.
-/
namespace Go.Proofs.YtllmejkmogepjaaGreatDoor.Ix
set_option linter.unusedVariables false

mutual
theorem leV_refl : ∀ (x : IV), leV x x
  | .lst o e n f => ⟨.inr rfl, rfl, rfl, fun _ _ => rfl⟩
  | .agg xs => leL_refl xs
  | .tup xs => leL_refl xs
  | .dead => trivial
  | .int _ _ | .bool _ | .str _ | .lit _ | .nilS | .ptr _ _ _ | .vptr _ _ _ _ _ | .raw _ _ _ | .fn _ _ _ => rfl
theorem leL_refl : ∀ (l : List IV), leL l l
  | [] => trivial
  | x :: r => ⟨leV_refl x, leL_refl r⟩
end

def liveOf : List (Nat × List Nat) → Nat → List Nat
  | [], _ => []
  | (i, l) :: r, d => match Nat.beq i d with
    | true => l
    | false => liveOf r d

/-- A call behind which the temporaries are forgotten that the table does not list. -/
theorem CALL0.cutBy (tab : List (Nat × List Nat)) {C : Con} {g d : Nat} {tm : Tms} {ce0 : Ces} {up0 : List Ces} {args : List IV} {K : IV → St → Prop} (args' : List IV) (r r' : IV) (ce : Ces) (up : List Ces)
    (hle : leL args args') (h : C g (ce0 :: up0) args' r (ce :: up)) (hr : back (some d) r = some r') (hk : fpsK (liveOf tab d) tm fun tm => K r' ⟨tm, ce, up⟩) : CALL0 C g tm ce0 up0 args (some d) K :=
  .cut _ args' r r' ce up hle h hr hk

/-- An own list told as a mere reading. -/
theorem leV_view (o : Option Nat) (e n : Nat) (f : Nat → List IV) : leV (.lst o e n f) (.lst none e n f) := ⟨.inl rfl, rfl, rfl, fun _ _ => rfl⟩

theorem leV_int {k : IntKind} {a b : Int} (h : a = b) : leV (.int k a) (.int k b) := by subst h; rfl

theorem wrap_in {n : Int} (h1 : -9223372036854775808 ≤ n) (h2 : n < 9223372036854775808) : IntKind.i64.wrap n = n := by
  unfold IntKind.wrap
  simp [IntKind.bits, IntKind.signed]
  omega

/-- A contract at arguments that are told otherwise. -/
theorem Comp.le {P : Program} {gl : Nat → IV} {g : Nat} {up up' : List Ces} {args args' : List IV} {r : IV} (hle : leL args args') (h : Comp P gl g up args' r up') : Comp P gl g up args r up' := by
  refine ⟨h.1, fun vals w I X β σ hm hlen hargs => ?_⟩
  obtain ⟨h1, h2⟩ := leL_sound _ _ hle (fun j => vals.getD j undef) hargs
  exact h.2 vals w I X β σ hm (by rw [← h1]; exact hlen) h2

end Go.Proofs.YtllmejkmogepjaaGreatDoor.Ix

/- The head of the seat: its types, its functions by name. Written by header.py. -/
namespace Go.Proofs.YtllmejkmogepjaaGreatDoor.Ix
open Go.Proofs
def T (t : Nat) : Ty := match Nat.blt t 200 with
 | false => Ty.none
 | true => (match Nat.ble 103 t with
 | true => (match Nat.ble 150 t with
 | true => (match Nat.ble 173 t with
 | true => (match Nat.ble 185 t with
 | true => (match Nat.ble 194 t with
 | true => (match Nat.ble 197 t with
 | true => (match Nat.ble 198 t with
 | true => (match Nat.ble 199 t with
 | true => (match Nat.beq t 199 with | true => ⟨11, 48, true, [.int .u64 0, .int .u64 0, .int .u32 0, .int .u8 0, .int .u8 0, .int .u8 0, .int .u8 0, .lit .nilFunc, .lit (.pointer none), .int .i32 0, .int .i32 0], [], .struct [(0, 1, false), (1, 1, false), (2, 1, false), (3, 1, false), (4, 1, false), (5, 1, false), (6, 1, false), (7, 1, false), (8, 1, false), (9, 1, false), (10, 1, false)]⟩ | false => Ty.none)
 | false => (match Nat.beq t 198 with | true => ⟨11, 48, true, [.int .u64 0, .int .u64 0, .int .u32 0, .int .u8 0, .int .u8 0, .int .u8 0, .int .u8 0, .lit .nilFunc, .lit (.pointer none), .int .i32 0, .int .i32 0], [], .struct [(0, 1, false), (1, 1, false), (2, 1, false), (3, 1, false), (4, 1, false), (5, 1, false), (6, 1, false), (7, 1, false), (8, 1, false), (9, 1, false), (10, 1, false)]⟩ | false => Ty.none))
 | false => (match Nat.beq t 197 with | true => ⟨1, 4, false, [.int .i32 0], [], .other⟩ | false => Ty.none))
 | false => (match Nat.ble 195 t with
 | true => (match Nat.ble 196 t with
 | true => (match Nat.beq t 196 with | true => ⟨1, 4, false, [.int .i32 0], [], .other⟩ | false => Ty.none)
 | false => (match Nat.beq t 195 with | true => ⟨1, 8, false, [.lit .nilFunc], [], .other⟩ | false => Ty.none))
 | false => (match Nat.beq t 194 with | true => ⟨1, 1, false, [.int .u8 0], [], .other⟩ | false => Ty.none)))
 | false => (match Nat.ble 188 t with
 | true => (match Nat.ble 189 t with
 | true => (match Nat.ble 193 t with
 | true => (match Nat.beq t 193 with | true => ⟨1, 1, false, [.int .u8 0], [], .other⟩ | false => Ty.none)
 | false => (match Nat.beq t 189 with | true => ⟨4, 40, true, [.lit (.pointer none), .lit (.pointer none), .lit (.pointer none), .str ByteArray.empty], [], .struct [(0, 1, false), (1, 1, false), (2, 1, false), (3, 1, false)]⟩ | false => Ty.none))
 | false => (match Nat.beq t 188 with | true => ⟨4, 40, true, [.lit (.pointer none), .lit (.pointer none), .lit (.pointer none), .str ByteArray.empty], [], .struct [(0, 1, false), (1, 1, false), (2, 1, false), (3, 1, false)]⟩ | false => Ty.none))
 | false => (match Nat.ble 186 t with
 | true => (match Nat.ble 187 t with
 | true => (match Nat.beq t 187 with | true => ⟨64, 64, true, [.int .u8 0, .int .u8 0, .int .u8 0, .int .u8 0, .int .u8 0, .int .u8 0, .int .u8 0, .int .u8 0, .int .u8 0, .int .u8 0, .int .u8 0, .int .u8 0, .int .u8 0, .int .u8 0, .int .u8 0, .int .u8 0, .int .u8 0, .int .u8 0, .int .u8 0, .int .u8 0, .int .u8 0, .int .u8 0, .int .u8 0, .int .u8 0, .int .u8 0, .int .u8 0, .int .u8 0, .int .u8 0, .int .u8 0, .int .u8 0, .int .u8 0, .int .u8 0, .int .u8 0, .int .u8 0, .int .u8 0, .int .u8 0, .int .u8 0, .int .u8 0, .int .u8 0, .int .u8 0, .int .u8 0, .int .u8 0, .int .u8 0, .int .u8 0, .int .u8 0, .int .u8 0, .int .u8 0, .int .u8 0, .int .u8 0, .int .u8 0, .int .u8 0, .int .u8 0, .int .u8 0, .int .u8 0, .int .u8 0, .int .u8 0, .int .u8 0, .int .u8 0, .int .u8 0, .int .u8 0, .int .u8 0, .int .u8 0, .int .u8 0, .int .u8 0], [.int, .int, .int, .int, .int, .int, .int, .int, .int, .int, .int, .int, .int, .int, .int, .int, .int, .int, .int, .int, .int, .int, .int, .int, .int, .int, .int, .int, .int, .int, .int, .int, .int, .int, .int, .int, .int, .int, .int, .int, .int, .int, .int, .int, .int, .int, .int, .int, .int, .int, .int, .int, .int, .int, .int, .int, .int, .int, .int, .int, .int, .int, .int, .int], .array 64 5⟩ | false => Ty.none)
 | false => (match Nat.beq t 186 with | true => ⟨32, 32, true, [.int .u8 0, .int .u8 0, .int .u8 0, .int .u8 0, .int .u8 0, .int .u8 0, .int .u8 0, .int .u8 0, .int .u8 0, .int .u8 0, .int .u8 0, .int .u8 0, .int .u8 0, .int .u8 0, .int .u8 0, .int .u8 0, .int .u8 0, .int .u8 0, .int .u8 0, .int .u8 0, .int .u8 0, .int .u8 0, .int .u8 0, .int .u8 0, .int .u8 0, .int .u8 0, .int .u8 0, .int .u8 0, .int .u8 0, .int .u8 0, .int .u8 0, .int .u8 0], [.int, .int, .int, .int, .int, .int, .int, .int, .int, .int, .int, .int, .int, .int, .int, .int, .int, .int, .int, .int, .int, .int, .int, .int, .int, .int, .int, .int, .int, .int, .int, .int], .array 32 5⟩ | false => Ty.none))
 | false => (match Nat.beq t 185 with | true => ⟨1, 8, false, [.lit .nilFunc], [], .other⟩ | false => Ty.none))))
 | false => (match Nat.ble 179 t with
 | true => (match Nat.ble 182 t with
 | true => (match Nat.ble 183 t with
 | true => (match Nat.ble 184 t with
 | true => (match Nat.beq t 184 with | true => ⟨1, 8, false, [.lit .nilFunc], [], .other⟩ | false => Ty.none)
 | false => (match Nat.beq t 183 with | true => ⟨1, 8, false, [.int .u64 0], [], .other⟩ | false => Ty.none))
 | false => (match Nat.beq t 182 with | true => ⟨1, 8, false, [.lit .nilFunc], [], .other⟩ | false => Ty.none))
 | false => (match Nat.ble 180 t with
 | true => (match Nat.ble 181 t with
 | true => (match Nat.beq t 181 with | true => ⟨65, 65, true, [.int .u8 0, .int .u8 0, .int .u8 0, .int .u8 0, .int .u8 0, .int .u8 0, .int .u8 0, .int .u8 0, .int .u8 0, .int .u8 0, .int .u8 0, .int .u8 0, .int .u8 0, .int .u8 0, .int .u8 0, .int .u8 0, .int .u8 0, .int .u8 0, .int .u8 0, .int .u8 0, .int .u8 0, .int .u8 0, .int .u8 0, .int .u8 0, .int .u8 0, .int .u8 0, .int .u8 0, .int .u8 0, .int .u8 0, .int .u8 0, .int .u8 0, .int .u8 0, .int .u8 0, .int .u8 0, .int .u8 0, .int .u8 0, .int .u8 0, .int .u8 0, .int .u8 0, .int .u8 0, .int .u8 0, .int .u8 0, .int .u8 0, .int .u8 0, .int .u8 0, .int .u8 0, .int .u8 0, .int .u8 0, .int .u8 0, .int .u8 0, .int .u8 0, .int .u8 0, .int .u8 0, .int .u8 0, .int .u8 0, .int .u8 0, .int .u8 0, .int .u8 0, .int .u8 0, .int .u8 0, .int .u8 0, .int .u8 0, .int .u8 0, .int .u8 0, .int .u8 0], [.int, .int, .int, .int, .int, .int, .int, .int, .int, .int, .int, .int, .int, .int, .int, .int, .int, .int, .int, .int, .int, .int, .int, .int, .int, .int, .int, .int, .int, .int, .int, .int, .int, .int, .int, .int, .int, .int, .int, .int, .int, .int, .int, .int, .int, .int, .int, .int, .int, .int, .int, .int, .int, .int, .int, .int, .int, .int, .int, .int, .int, .int, .int, .int, .int], .array 65 5⟩ | false => Ty.none)
 | false => (match Nat.beq t 180 with | true => ⟨1, 4, false, [.int .u32 0], [], .other⟩ | false => Ty.none))
 | false => (match Nat.beq t 179 with | true => ⟨20, 160, true, [.int .u64 0, .int .u64 0, .int .u64 0, .int .u64 0, .int .u64 0, .int .u64 0, .int .u64 0, .int .u64 0, .int .u64 0, .int .u64 0, .int .u64 0, .int .u64 0, .int .u64 0, .int .u64 0, .int .u64 0, .int .u64 0, .int .u64 0, .int .u64 0, .int .u64 0, .int .u64 0], [.int, .int, .int, .int, .int, .int, .int, .int, .int, .int, .int, .int, .int, .int, .int, .int, .int, .int, .int, .int], .array 20 173⟩ | false => Ty.none)))
 | false => (match Nat.ble 175 t with
 | true => (match Nat.ble 177 t with
 | true => (match Nat.ble 178 t with
 | true => (match Nat.beq t 178 with | true => ⟨1, 8, false, [.lit .nilFunc], [], .other⟩ | false => Ty.none)
 | false => (match Nat.beq t 177 with | true => ⟨1, 8, false, [.lit .nilFunc], [], .other⟩ | false => Ty.none))
 | false => (match Nat.beq t 175 with | true => ⟨1, 8, false, [.lit .nilFunc], [], .other⟩ | false => Ty.none))
 | false => (match Nat.ble 174 t with
 | true => (match Nat.beq t 174 with | true => ⟨1, 8, false, [.lit .nilFunc], [], .other⟩ | false => Ty.none)
 | false => (match Nat.beq t 173 with | true => ⟨1, 8, false, [.int .u64 0], [], .other⟩ | false => Ty.none)))))
 | false => (match Nat.ble 161 t with
 | true => (match Nat.ble 167 t with
 | true => (match Nat.ble 170 t with
 | true => (match Nat.ble 171 t with
 | true => (match Nat.ble 172 t with
 | true => (match Nat.beq t 172 with | true => ⟨24, 24, true, [.int .u8 0, .int .u8 0, .int .u8 0, .int .u8 0, .int .u8 0, .int .u8 0, .int .u8 0, .int .u8 0, .int .u8 0, .int .u8 0, .int .u8 0, .int .u8 0, .int .u8 0, .int .u8 0, .int .u8 0, .int .u8 0, .int .u8 0, .int .u8 0, .int .u8 0, .int .u8 0, .int .u8 0, .int .u8 0, .int .u8 0, .int .u8 0], [.int, .int, .int, .int, .int, .int, .int, .int, .int, .int, .int, .int, .int, .int, .int, .int, .int, .int, .int, .int, .int, .int, .int, .int], .array 24 5⟩ | false => Ty.none)
 | false => (match Nat.beq t 171 with | true => ⟨1, 8, false, [.lit .nilFunc], [], .other⟩ | false => Ty.none))
 | false => (match Nat.beq t 170 with | true => ⟨1, 8, false, [.lit .nilFunc], [], .other⟩ | false => Ty.none))
 | false => (match Nat.ble 168 t with
 | true => (match Nat.ble 169 t with
 | true => (match Nat.beq t 169 with | true => ⟨1, 8, false, [.lit (.pointer none)], [], .other⟩ | false => Ty.none)
 | false => (match Nat.beq t 168 with | true => ⟨1, 8, false, [.lit .nilFunc], [], .other⟩ | false => Ty.none))
 | false => (match Nat.beq t 167 with | true => ⟨1, 8, false, [.lit (.pointer none)], [], .other⟩ | false => Ty.none)))
 | false => (match Nat.ble 163 t with
 | true => (match Nat.ble 165 t with
 | true => (match Nat.ble 166 t with
 | true => (match Nat.beq t 166 with | true => ⟨1, 8, false, [.lit .nilFunc], [], .other⟩ | false => Ty.none)
 | false => (match Nat.beq t 165 with | true => ⟨1, 8, false, [.lit .nilFunc], [], .other⟩ | false => Ty.none))
 | false => (match Nat.beq t 163 with | true => ⟨1, 16, false, [.lit .nilIface], [], .other⟩ | false => Ty.none))
 | false => (match Nat.ble 162 t with
 | true => (match Nat.beq t 162 with | true => ⟨1, 16, false, [.lit .nilIface], [], .other⟩ | false => Ty.none)
 | false => (match Nat.beq t 161 with | true => ⟨1, 8, false, [.lit .nilFunc], [], .other⟩ | false => Ty.none))))
 | false => (match Nat.ble 155 t with
 | true => (match Nat.ble 158 t with
 | true => (match Nat.ble 159 t with
 | true => (match Nat.ble 160 t with
 | true => (match Nat.beq t 160 with | true => ⟨2, 32, true, [.lit (.pointer none), .nilS], [], .struct [(0, 1, false), (1, 1, false)]⟩ | false => Ty.none)
 | false => (match Nat.beq t 159 with | true => ⟨2, 32, true, [.lit (.pointer none), .nilS], [], .struct [(0, 1, false), (1, 1, false)]⟩ | false => Ty.none))
 | false => (match Nat.beq t 158 with | true => ⟨1, 24, false, [.nilS], [], .slice 5⟩ | false => Ty.none))
 | false => (match Nat.ble 156 t with
 | true => (match Nat.ble 157 t with
 | true => (match Nat.beq t 157 with | true => ⟨1, 8, false, [.lit (.pointer none)], [], .other⟩ | false => Ty.none)
 | false => (match Nat.beq t 156 with | true => ⟨1, 8, false, [.lit .nilFunc], [], .other⟩ | false => Ty.none))
 | false => (match Nat.beq t 155 with | true => ⟨1, 8, false, [.lit .nilFunc], [], .other⟩ | false => Ty.none)))
 | false => (match Nat.ble 152 t with
 | true => (match Nat.ble 153 t with
 | true => (match Nat.ble 154 t with
 | true => (match Nat.beq t 154 with | true => ⟨1, 8, false, [.lit .nilFunc], [], .other⟩ | false => Ty.none)
 | false => (match Nat.beq t 153 with | true => ⟨1, 24, false, [.nilS], [], .slice 9⟩ | false => Ty.none))
 | false => (match Nat.beq t 152 with | true => ⟨1, 8, false, [.lit .nilFunc], [], .other⟩ | false => Ty.none))
 | false => (match Nat.ble 151 t with
 | true => (match Nat.beq t 151 with | true => ⟨1, 8, false, [.lit .nilFunc], [], .other⟩ | false => Ty.none)
 | false => (match Nat.beq t 150 with | true => ⟨1, 8, false, [.lit .nilFunc], [], .other⟩ | false => Ty.none))))))
 | false => (match Nat.ble 128 t with
 | true => (match Nat.ble 139 t with
 | true => (match Nat.ble 144 t with
 | true => (match Nat.ble 147 t with
 | true => (match Nat.ble 148 t with
 | true => (match Nat.ble 149 t with
 | true => (match Nat.beq t 149 with | true => ⟨6, 48, true, [.int .i64 0, .int .i64 0, .int .i64 0, .int .i64 0, .int .i64 0, .int .i64 0], [.int, .int, .int, .int, .int, .int], .array 3 92⟩ | false => Ty.none)
 | false => (match Nat.beq t 148 with | true => ⟨1, 8, false, [.lit .nilFunc], [], .other⟩ | false => Ty.none))
 | false => (match Nat.beq t 147 with | true => ⟨1, 24, false, [.nilS], [], .slice 33⟩ | false => Ty.none))
 | false => (match Nat.ble 145 t with
 | true => (match Nat.ble 146 t with
 | true => (match Nat.beq t 146 with | true => ⟨1, 8, false, [.lit .nilFunc], [], .other⟩ | false => Ty.none)
 | false => (match Nat.beq t 145 with | true => ⟨1, 8, false, [.lit .nilFunc], [], .other⟩ | false => Ty.none))
 | false => (match Nat.beq t 144 with | true => ⟨1, 8, false, [.lit .nilFunc], [], .other⟩ | false => Ty.none)))
 | false => (match Nat.ble 141 t with
 | true => (match Nat.ble 142 t with
 | true => (match Nat.ble 143 t with
 | true => (match Nat.beq t 143 with | true => ⟨1, 8, false, [.lit .nilFunc], [], .other⟩ | false => Ty.none)
 | false => (match Nat.beq t 142 with | true => ⟨1, 8, false, [.lit .nilFunc], [], .other⟩ | false => Ty.none))
 | false => (match Nat.beq t 141 with | true => ⟨1, 8, false, [.lit .nilFunc], [], .other⟩ | false => Ty.none))
 | false => (match Nat.ble 140 t with
 | true => (match Nat.beq t 140 with | true => ⟨1, 8, false, [.lit .nilFunc], [], .other⟩ | false => Ty.none)
 | false => (match Nat.beq t 139 with | true => ⟨1, 8, false, [.lit .nilFunc], [], .other⟩ | false => Ty.none))))
 | false => (match Nat.ble 133 t with
 | true => (match Nat.ble 136 t with
 | true => (match Nat.ble 137 t with
 | true => (match Nat.ble 138 t with
 | true => (match Nat.beq t 138 with | true => ⟨1, 8, false, [.lit .nilFunc], [], .other⟩ | false => Ty.none)
 | false => (match Nat.beq t 137 with | true => ⟨1, 8, false, [.lit .nilFunc], [], .other⟩ | false => Ty.none))
 | false => (match Nat.beq t 136 with | true => ⟨1, 8, false, [.lit .nilFunc], [], .other⟩ | false => Ty.none))
 | false => (match Nat.ble 134 t with
 | true => (match Nat.ble 135 t with
 | true => (match Nat.beq t 135 with | true => ⟨1, 8, false, [.lit .nilFunc], [], .other⟩ | false => Ty.none)
 | false => (match Nat.beq t 134 with | true => ⟨1, 8, false, [.lit .nilFunc], [], .other⟩ | false => Ty.none))
 | false => (match Nat.beq t 133 with | true => ⟨1, 8, false, [.lit .nilFunc], [], .other⟩ | false => Ty.none)))
 | false => (match Nat.ble 130 t with
 | true => (match Nat.ble 131 t with
 | true => (match Nat.ble 132 t with
 | true => (match Nat.beq t 132 with | true => ⟨1, 8, false, [.lit .nilFunc], [], .other⟩ | false => Ty.none)
 | false => (match Nat.beq t 131 with | true => ⟨1, 8, false, [.lit .nilFunc], [], .other⟩ | false => Ty.none))
 | false => (match Nat.beq t 130 with | true => ⟨1, 8, false, [.lit .nilFunc], [], .other⟩ | false => Ty.none))
 | false => (match Nat.ble 129 t with
 | true => (match Nat.beq t 129 with | true => ⟨1, 8, false, [.lit .nilFunc], [], .other⟩ | false => Ty.none)
 | false => (match Nat.beq t 128 with | true => ⟨1, 8, false, [.lit .nilFunc], [], .other⟩ | false => Ty.none)))))
 | false => (match Nat.ble 115 t with
 | true => (match Nat.ble 121 t with
 | true => (match Nat.ble 124 t with
 | true => (match Nat.ble 126 t with
 | true => (match Nat.ble 127 t with
 | true => (match Nat.beq t 127 with | true => ⟨1, 8, false, [.lit .nilFunc], [], .other⟩ | false => Ty.none)
 | false => (match Nat.beq t 126 with | true => ⟨1, 8, false, [.lit .nilFunc], [], .other⟩ | false => Ty.none))
 | false => (match Nat.beq t 124 with | true => ⟨1, 8, false, [.lit .nilFunc], [], .other⟩ | false => Ty.none))
 | false => (match Nat.ble 122 t with
 | true => (match Nat.ble 123 t with
 | true => (match Nat.beq t 123 with | true => ⟨1, 8, false, [.lit .nilFunc], [], .other⟩ | false => Ty.none)
 | false => (match Nat.beq t 122 with | true => ⟨1, 8, false, [.lit .nilFunc], [], .other⟩ | false => Ty.none))
 | false => (match Nat.beq t 121 with | true => ⟨1, 8, false, [.lit .nilFunc], [], .other⟩ | false => Ty.none)))
 | false => (match Nat.ble 117 t with
 | true => (match Nat.ble 118 t with
 | true => (match Nat.ble 120 t with
 | true => (match Nat.beq t 120 with | true => ⟨1, 8, false, [.lit .nilFunc], [], .other⟩ | false => Ty.none)
 | false => (match Nat.beq t 118 with | true => ⟨1, 8, false, [.lit .nilFunc], [], .other⟩ | false => Ty.none))
 | false => (match Nat.beq t 117 with | true => ⟨1, 8, false, [.lit .nilFunc], [], .other⟩ | false => Ty.none))
 | false => (match Nat.ble 116 t with
 | true => (match Nat.beq t 116 with | true => ⟨1, 8, false, [.lit .nilFunc], [], .other⟩ | false => Ty.none)
 | false => (match Nat.beq t 115 with | true => ⟨1, 8, false, [.lit .nilFunc], [], .other⟩ | false => Ty.none))))
 | false => (match Nat.ble 109 t with
 | true => (match Nat.ble 112 t with
 | true => (match Nat.ble 113 t with
 | true => (match Nat.ble 114 t with
 | true => (match Nat.beq t 114 with | true => ⟨1, 8, false, [.lit .nilFunc], [], .other⟩ | false => Ty.none)
 | false => (match Nat.beq t 113 with | true => ⟨1, 8, false, [.lit .nilFunc], [], .other⟩ | false => Ty.none))
 | false => (match Nat.beq t 112 with | true => ⟨9, 104, true, [.nilS, .nilS, .int .i64 0, .int .i64 0, .int .i64 0, .int .i64 0, .int .i64 0, .int .i64 0, .int .i64 0], [], .struct [(0, 2, true), (2, 4, true), (6, 3, true)]⟩ | false => Ty.none))
 | false => (match Nat.ble 110 t with
 | true => (match Nat.ble 111 t with
 | true => (match Nat.beq t 111 with | true => ⟨9, 104, true, [.nilS, .nilS, .int .i64 0, .int .i64 0, .int .i64 0, .int .i64 0, .int .i64 0, .int .i64 0, .int .i64 0], [], .struct [(0, 2, true), (2, 4, true), (6, 3, true)]⟩ | false => Ty.none)
 | false => (match Nat.beq t 110 with | true => ⟨4, 32, true, [.int .i64 0, .int .i64 0, .int .i64 0, .int .i64 0], [.int, .int, .int, .int], .struct [(0, 1, false), (1, 1, false), (2, 1, false), (3, 1, false)]⟩ | false => Ty.none))
 | false => (match Nat.beq t 109 with | true => ⟨1, 8, false, [.lit .nilFunc], [], .other⟩ | false => Ty.none)))
 | false => (match Nat.ble 106 t with
 | true => (match Nat.ble 107 t with
 | true => (match Nat.ble 108 t with
 | true => (match Nat.beq t 108 with | true => ⟨1, 8, false, [.lit .nilFunc], [], .other⟩ | false => Ty.none)
 | false => (match Nat.beq t 107 with | true => ⟨1, 8, false, [.lit .nilFunc], [], .other⟩ | false => Ty.none))
 | false => (match Nat.beq t 106 with | true => ⟨1, 8, false, [.lit .nilFunc], [], .other⟩ | false => Ty.none))
 | false => (match Nat.ble 105 t with
 | true => (match Nat.beq t 105 with | true => ⟨1, 8, false, [.lit .nilFunc], [], .other⟩ | false => Ty.none)
 | false => (match Nat.beq t 103 with | true => ⟨1, 24, false, [.nilS], [], .slice 95⟩ | false => Ty.none)))))))
 | false => (match Nat.ble 47 t with
 | true => (match Nat.ble 75 t with
 | true => (match Nat.ble 88 t with
 | true => (match Nat.ble 95 t with
 | true => (match Nat.ble 100 t with
 | true => (match Nat.ble 101 t with
 | true => (match Nat.ble 102 t with
 | true => (match Nat.beq t 102 with | true => ⟨1, 8, false, [.lit .nilFunc], [], .other⟩ | false => Ty.none)
 | false => (match Nat.beq t 101 with | true => ⟨1, 8, false, [.lit .nilFunc], [], .other⟩ | false => Ty.none))
 | false => (match Nat.beq t 100 with | true => ⟨1, 8, false, [.lit .nilFunc], [], .other⟩ | false => Ty.none))
 | false => (match Nat.ble 97 t with
 | true => (match Nat.ble 99 t with
 | true => (match Nat.beq t 99 with | true => ⟨1, 8, false, [.lit .nilFunc], [], .other⟩ | false => Ty.none)
 | false => (match Nat.beq t 97 with | true => ⟨1, 8, false, [.lit .nilFunc], [], .other⟩ | false => Ty.none))
 | false => (match Nat.beq t 95 with | true => ⟨3, 24, true, [.int .i64 0, .int .i64 0, .int .i64 0], [.int, .int, .int], .array 3 3⟩ | false => Ty.none)))
 | false => (match Nat.ble 91 t with
 | true => (match Nat.ble 92 t with
 | true => (match Nat.ble 94 t with
 | true => (match Nat.beq t 94 with | true => ⟨1, 8, false, [.lit .nilFunc], [], .other⟩ | false => Ty.none)
 | false => (match Nat.beq t 92 with | true => ⟨2, 16, true, [.int .i64 0, .int .i64 0], [.int, .int], .struct [(0, 1, false), (1, 1, false)]⟩ | false => Ty.none))
 | false => (match Nat.beq t 91 with | true => ⟨2, 16, true, [.int .i64 0, .int .i64 0], [.int, .int], .struct [(0, 1, false), (1, 1, false)]⟩ | false => Ty.none))
 | false => (match Nat.ble 89 t with
 | true => (match Nat.ble 90 t with
 | true => (match Nat.beq t 90 with | true => ⟨1, 8, false, [.lit .nilFunc], [], .other⟩ | false => Ty.none)
 | false => (match Nat.beq t 89 with | true => ⟨1, 8, false, [.lit .nilFunc], [], .other⟩ | false => Ty.none))
 | false => (match Nat.beq t 88 with | true => ⟨1, 8, false, [.lit .nilFunc], [], .other⟩ | false => Ty.none))))
 | false => (match Nat.ble 81 t with
 | true => (match Nat.ble 85 t with
 | true => (match Nat.ble 86 t with
 | true => (match Nat.ble 87 t with
 | true => (match Nat.beq t 87 with | true => ⟨1, 8, false, [.lit .nilFunc], [], .other⟩ | false => Ty.none)
 | false => (match Nat.beq t 86 with | true => ⟨1, 8, false, [.lit .nilFunc], [], .other⟩ | false => Ty.none))
 | false => (match Nat.beq t 85 with | true => ⟨4, 32, true, [.int .i64 0, .int .i64 0, .int .i64 0, .int .i64 0], [.int, .int, .int, .int], .struct [(0, 1, false), (1, 1, false), (2, 1, false), (3, 1, false)]⟩ | false => Ty.none))
 | false => (match Nat.ble 83 t with
 | true => (match Nat.ble 84 t with
 | true => (match Nat.beq t 84 with | true => ⟨4, 32, true, [.int .i64 0, .int .i64 0, .int .i64 0, .int .i64 0], [.int, .int, .int, .int], .struct [(0, 1, false), (1, 1, false), (2, 1, false), (3, 1, false)]⟩ | false => Ty.none)
 | false => (match Nat.beq t 83 with | true => ⟨1, 8, false, [.lit .nilFunc], [], .other⟩ | false => Ty.none))
 | false => (match Nat.beq t 81 with | true => ⟨1, 8, false, [.lit .nilFunc], [], .other⟩ | false => Ty.none)))
 | false => (match Nat.ble 78 t with
 | true => (match Nat.ble 79 t with
 | true => (match Nat.ble 80 t with
 | true => (match Nat.beq t 80 with | true => ⟨1, 8, false, [.lit .nilFunc], [], .other⟩ | false => Ty.none)
 | false => (match Nat.beq t 79 with | true => ⟨1, 8, false, [.lit .nilFunc], [], .other⟩ | false => Ty.none))
 | false => (match Nat.beq t 78 with | true => ⟨1, 8, false, [.lit .nilFunc], [], .other⟩ | false => Ty.none))
 | false => (match Nat.ble 77 t with
 | true => (match Nat.beq t 77 with | true => ⟨1, 8, false, [.lit .nilFunc], [], .other⟩ | false => Ty.none)
 | false => (match Nat.beq t 75 with | true => ⟨2, 16, true, [.int .i64 0, .int .i64 0], [.int, .int], .struct [(0, 1, false), (1, 1, false)]⟩ | false => Ty.none)))))
 | false => (match Nat.ble 62 t with
 | true => (match Nat.ble 69 t with
 | true => (match Nat.ble 72 t with
 | true => (match Nat.ble 73 t with
 | true => (match Nat.ble 74 t with
 | true => (match Nat.beq t 74 with | true => ⟨1, 8, false, [.lit .nilFunc], [], .other⟩ | false => Ty.none)
 | false => (match Nat.beq t 73 with | true => ⟨5, 40, true, [.int .i64 0, .int .i64 0, .int .i64 0, .int .i64 0, .int .i64 0], [.int, .int, .int, .int, .int], .struct [(0, 1, false), (1, 2, true), (3, 1, false), (4, 1, false)]⟩ | false => Ty.none))
 | false => (match Nat.beq t 72 with | true => ⟨5, 40, true, [.int .i64 0, .int .i64 0, .int .i64 0, .int .i64 0, .int .i64 0], [.int, .int, .int, .int, .int], .struct [(0, 1, false), (1, 2, true), (3, 1, false), (4, 1, false)]⟩ | false => Ty.none))
 | false => (match Nat.ble 70 t with
 | true => (match Nat.ble 71 t with
 | true => (match Nat.beq t 71 with | true => ⟨2, 16, true, [.int .i64 0, .int .i64 0], [.int, .int], .struct [(0, 1, false), (1, 1, false)]⟩ | false => Ty.none)
 | false => (match Nat.beq t 70 with | true => ⟨2, 16, true, [.int .i64 0, .int .i64 0], [.int, .int], .struct [(0, 1, false), (1, 1, false)]⟩ | false => Ty.none))
 | false => (match Nat.beq t 69 with | true => ⟨1, 8, false, [.lit .nilFunc], [], .other⟩ | false => Ty.none)))
 | false => (match Nat.ble 65 t with
 | true => (match Nat.ble 67 t with
 | true => (match Nat.ble 68 t with
 | true => (match Nat.beq t 68 with | true => ⟨1, 8, false, [.lit .nilFunc], [], .other⟩ | false => Ty.none)
 | false => (match Nat.beq t 67 with | true => ⟨1, 8, false, [.lit .nilFunc], [], .other⟩ | false => Ty.none))
 | false => (match Nat.beq t 65 with | true => ⟨1, 8, false, [.lit .nilFunc], [], .other⟩ | false => Ty.none))
 | false => (match Nat.ble 63 t with
 | true => (match Nat.beq t 63 with | true => ⟨1, 8, false, [.lit .nilFunc], [], .other⟩ | false => Ty.none)
 | false => (match Nat.beq t 62 with | true => ⟨1, 8, false, [.lit .nilFunc], [], .other⟩ | false => Ty.none))))
 | false => (match Nat.ble 54 t with
 | true => (match Nat.ble 57 t with
 | true => (match Nat.ble 58 t with
 | true => (match Nat.ble 60 t with
 | true => (match Nat.beq t 60 with | true => ⟨1, 8, false, [.lit .nilFunc], [], .other⟩ | false => Ty.none)
 | false => (match Nat.beq t 58 with | true => ⟨1, 8, false, [.lit .nilFunc], [], .other⟩ | false => Ty.none))
 | false => (match Nat.beq t 57 with | true => ⟨4, 32, true, [.int .i64 0, .int .i64 0, .int .i64 0, .int .i64 0], [.int, .int, .int, .int], .struct [(0, 1, false), (1, 1, false), (2, 1, false), (3, 1, false)]⟩ | false => Ty.none))
 | false => (match Nat.ble 55 t with
 | true => (match Nat.ble 56 t with
 | true => (match Nat.beq t 56 with | true => ⟨4, 32, true, [.int .i64 0, .int .i64 0, .int .i64 0, .int .i64 0], [.int, .int, .int, .int], .struct [(0, 1, false), (1, 1, false), (2, 1, false), (3, 1, false)]⟩ | false => Ty.none)
 | false => (match Nat.beq t 55 with | true => ⟨1, 8, false, [.lit .nilFunc], [], .other⟩ | false => Ty.none))
 | false => (match Nat.beq t 54 with | true => ⟨1, 8, false, [.lit .nilFunc], [], .other⟩ | false => Ty.none)))
 | false => (match Nat.ble 50 t with
 | true => (match Nat.ble 52 t with
 | true => (match Nat.ble 53 t with
 | true => (match Nat.beq t 53 with | true => ⟨1, 8, false, [.lit .nilFunc], [], .other⟩ | false => Ty.none)
 | false => (match Nat.beq t 52 with | true => ⟨1, 8, false, [.lit .nilFunc], [], .other⟩ | false => Ty.none))
 | false => (match Nat.beq t 50 with | true => ⟨1, 8, false, [.lit .nilFunc], [], .other⟩ | false => Ty.none))
 | false => (match Nat.ble 48 t with
 | true => (match Nat.beq t 48 with | true => ⟨1, 8, false, [.lit .nilFunc], [], .other⟩ | false => Ty.none)
 | false => (match Nat.beq t 47 with | true => ⟨1, 8, false, [.lit .nilFunc], [], .other⟩ | false => Ty.none))))))
 | false => (match Nat.ble 23 t with
 | true => (match Nat.ble 35 t with
 | true => (match Nat.ble 40 t with
 | true => (match Nat.ble 44 t with
 | true => (match Nat.ble 45 t with
 | true => (match Nat.ble 46 t with
 | true => (match Nat.beq t 46 with | true => ⟨1, 8, false, [.lit .nilFunc], [], .other⟩ | false => Ty.none)
 | false => (match Nat.beq t 45 with | true => ⟨1, 8, false, [.lit .nilFunc], [], .other⟩ | false => Ty.none))
 | false => (match Nat.beq t 44 with | true => ⟨1, 8, false, [.lit .nilFunc], [], .other⟩ | false => Ty.none))
 | false => (match Nat.ble 41 t with
 | true => (match Nat.ble 42 t with
 | true => (match Nat.beq t 42 with | true => ⟨1, 24, false, [.nilS], [], .slice 32⟩ | false => Ty.none)
 | false => (match Nat.beq t 41 with | true => ⟨3, 24, true, [.int .i64 0, .int .i64 0, .int .i64 0], [.int, .int, .int], .struct [(0, 1, false), (1, 1, false), (2, 1, false)]⟩ | false => Ty.none))
 | false => (match Nat.beq t 40 with | true => ⟨1, 8, false, [.lit .nilFunc], [], .other⟩ | false => Ty.none)))
 | false => (match Nat.ble 37 t with
 | true => (match Nat.ble 38 t with
 | true => (match Nat.ble 39 t with
 | true => (match Nat.beq t 39 with | true => ⟨3, 72, true, [.nilS, .nilS, .nilS], [], .struct [(0, 2, true), (2, 1, false)]⟩ | false => Ty.none)
 | false => (match Nat.beq t 38 with | true => ⟨3, 72, true, [.nilS, .nilS, .nilS], [], .struct [(0, 2, true), (2, 1, false)]⟩ | false => Ty.none))
 | false => (match Nat.beq t 37 with | true => ⟨1, 24, false, [.nilS], [], .slice 110⟩ | false => Ty.none))
 | false => (match Nat.ble 36 t with
 | true => (match Nat.beq t 36 with | true => ⟨2, 48, true, [.nilS, .nilS], [], .struct [(0, 1, false), (1, 1, false)]⟩ | false => Ty.none)
 | false => (match Nat.beq t 35 with | true => ⟨1, 8, false, [.lit .nilFunc], [], .other⟩ | false => Ty.none))))
 | false => (match Nat.ble 28 t with
 | true => (match Nat.ble 31 t with
 | true => (match Nat.ble 32 t with
 | true => (match Nat.ble 33 t with
 | true => (match Nat.beq t 33 with | true => ⟨1, 8, false, [.int .i64 0], [], .other⟩ | false => Ty.none)
 | false => (match Nat.beq t 32 with | true => ⟨2, 16, true, [.int .i64 0, .int .i64 0], [.int, .int], .array 2 3⟩ | false => Ty.none))
 | false => (match Nat.beq t 31 with | true => ⟨1, 8, false, [.lit .nilFunc], [], .other⟩ | false => Ty.none))
 | false => (match Nat.ble 29 t with
 | true => (match Nat.ble 30 t with
 | true => (match Nat.beq t 30 with | true => ⟨1, 8, false, [.lit .nilFunc], [], .other⟩ | false => Ty.none)
 | false => (match Nat.beq t 29 with | true => ⟨3, 24, true, [.int .i64 0, .int .i64 0, .int .i64 0], [.int, .int, .int], .struct [(0, 1, false), (1, 1, false), (2, 1, false)]⟩ | false => Ty.none))
 | false => (match Nat.beq t 28 with | true => ⟨3, 24, true, [.int .i64 0, .int .i64 0, .int .i64 0], [.int, .int, .int], .struct [(0, 1, false), (1, 1, false), (2, 1, false)]⟩ | false => Ty.none)))
 | false => (match Nat.ble 25 t with
 | true => (match Nat.ble 26 t with
 | true => (match Nat.ble 27 t with
 | true => (match Nat.beq t 27 with | true => ⟨3, 72, true, [.nilS, .nilS, .nilS], [], .struct [(0, 2, true), (2, 1, false)]⟩ | false => Ty.none)
 | false => (match Nat.beq t 26 with | true => ⟨3, 72, true, [.nilS, .nilS, .nilS], [], .struct [(0, 2, true), (2, 1, false)]⟩ | false => Ty.none))
 | false => (match Nat.beq t 25 with | true => ⟨1, 24, false, [.nilS], [], .slice 85⟩ | false => Ty.none))
 | false => (match Nat.ble 24 t with
 | true => (match Nat.beq t 24 with | true => ⟨2, 48, true, [.nilS, .nilS], [], .struct [(0, 1, false), (1, 1, false)]⟩ | false => Ty.none)
 | false => (match Nat.beq t 23 with | true => ⟨2, 48, true, [.nilS, .nilS], [], .struct [(0, 1, false), (1, 1, false)]⟩ | false => Ty.none)))))
 | false => (match Nat.ble 12 t with
 | true => (match Nat.ble 17 t with
 | true => (match Nat.ble 20 t with
 | true => (match Nat.ble 21 t with
 | true => (match Nat.ble 22 t with
 | true => (match Nat.beq t 22 with | true => ⟨1, 24, false, [.nilS], [], .slice 3⟩ | false => Ty.none)
 | false => (match Nat.beq t 21 with | true => ⟨1, 4, false, [.int .i32 0], [], .other⟩ | false => Ty.none))
 | false => (match Nat.beq t 20 with | true => ⟨1, 16, false, [.lit .nilIface], [], .other⟩ | false => Ty.none))
 | false => (match Nat.ble 18 t with
 | true => (match Nat.ble 19 t with
 | true => (match Nat.beq t 19 with | true => ⟨1, 8, true, [.lit (.pointer none)], [], .struct [(0, 1, false)]⟩ | false => Ty.none)
 | false => (match Nat.beq t 18 with | true => ⟨1, 8, true, [.lit (.pointer none)], [], .struct [(0, 1, false)]⟩ | false => Ty.none))
 | false => (match Nat.beq t 17 with | true => ⟨1, 8, false, [.lit (.pointer none)], [], .other⟩ | false => Ty.none)))
 | false => (match Nat.ble 14 t with
 | true => (match Nat.ble 15 t with
 | true => (match Nat.ble 16 t with
 | true => (match Nat.beq t 16 with | true => ⟨1, 8, false, [.lit (.pointer none)], [], .other⟩ | false => Ty.none)
 | false => (match Nat.beq t 15 with | true => ⟨1, 8, false, [.lit (.pointer none)], [], .other⟩ | false => Ty.none))
 | false => (match Nat.beq t 14 with | true => ⟨2, 24, true, [.str ByteArray.empty, .int .u64 0], [], .struct [(0, 1, false), (1, 1, false)]⟩ | false => Ty.none))
 | false => (match Nat.ble 13 t with
 | true => (match Nat.beq t 13 with | true => ⟨2, 24, true, [.str ByteArray.empty, .int .u64 0], [], .struct [(0, 1, false), (1, 1, false)]⟩ | false => Ty.none)
 | false => (match Nat.beq t 12 with | true => ⟨1, 8, false, [.int .u64 0], [], .other⟩ | false => Ty.none))))
 | false => (match Nat.ble 6 t with
 | true => (match Nat.ble 9 t with
 | true => (match Nat.ble 10 t with
 | true => (match Nat.ble 11 t with
 | true => (match Nat.beq t 11 with | true => ⟨1, 16, false, [.str ByteArray.empty], [], .str⟩ | false => Ty.none)
 | false => (match Nat.beq t 10 with | true => ⟨1, 16, false, [.str ByteArray.empty], [], .str⟩ | false => Ty.none))
 | false => (match Nat.beq t 9 with | true => ⟨1, 16, false, [.str ByteArray.empty], [], .str⟩ | false => Ty.none))
 | false => (match Nat.ble 7 t with
 | true => (match Nat.ble 8 t with
 | true => (match Nat.beq t 8 with | true => ⟨4, 24, true, [.int .i64 0, .int .i64 0, .bool false, .int .u8 0], [], .struct [(0, 1, false), (1, 1, false), (2, 1, false), (3, 1, false)]⟩ | false => Ty.none)
 | false => (match Nat.beq t 7 with | true => ⟨4, 24, true, [.int .i64 0, .int .i64 0, .bool false, .int .u8 0], [], .struct [(0, 1, false), (1, 1, false), (2, 1, false), (3, 1, false)]⟩ | false => Ty.none))
 | false => (match Nat.beq t 6 with | true => ⟨1, 1, false, [.int .u8 0], [], .other⟩ | false => Ty.none)))
 | false => (match Nat.ble 3 t with
 | true => (match Nat.ble 4 t with
 | true => (match Nat.ble 5 t with
 | true => (match Nat.beq t 5 with | true => ⟨1, 1, false, [.int .u8 0], [], .other⟩ | false => Ty.none)
 | false => (match Nat.beq t 4 with | true => ⟨1, 1, false, [.bool false], [], .other⟩ | false => Ty.none))
 | false => (match Nat.beq t 3 with | true => ⟨1, 8, false, [.int .i64 0], [], .other⟩ | false => Ty.none))
 | false => (match Nat.ble 2 t with
 | true => (match Nat.beq t 2 with | true => ⟨1, 8, false, [.int .i64 0], [], .other⟩ | false => Ty.none)
 | false => (match Nat.beq t 1 with | true => ⟨1, 8, false, [.lit .nilFunc], [], .other⟩ | false => Ty.none))))))))

noncomputable abbrev prog : Program := Tryz.prog
set_option maxRecDepth 100000 in
theorem tok0 : TOK prog T := tok_of 200 (by kernel_rfl) (fun t h => by unfold T; rw [show Nat.blt t 200 = false from h])
theorem mixed0 : prog.follows .mixedOrders = true := by kernel_rfl
abbrev n_main_main : Nat := 0
noncomputable abbrev f_main_main : Func := Tryz.f0
theorem h_main_main : prog.funcs[n_main_main]? = some f_main_main := Tryz.func0
abbrev n_gosem_cut : Nat := 1
noncomputable abbrev f_gosem_cut : Func := Tryz.f1
theorem h_gosem_cut : prog.funcs[n_gosem_cut]? = some f_gosem_cut := Tryz.func1
abbrev n_gosem_cut_init : Nat := 2
noncomputable abbrev f_gosem_cut_init : Func := Tryz.f2
theorem h_gosem_cut_init : prog.funcs[n_gosem_cut_init]? = some f_gosem_cut_init := Tryz.func2
abbrev n_nacellelaw03_RotorForces : Nat := 3
noncomputable abbrev f_nacellelaw03_RotorForces : Func := Tryz.f3
theorem h_nacellelaw03_RotorForces : prog.funcs[n_nacellelaw03_RotorForces]? = some f_nacellelaw03_RotorForces := Tryz.func3
abbrev n_nacellelaw03_RotorPitches : Nat := 4
noncomputable abbrev f_nacellelaw03_RotorPitches : Func := Tryz.f4
theorem h_nacellelaw03_RotorPitches : prog.funcs[n_nacellelaw03_RotorPitches]? = some f_nacellelaw03_RotorPitches := Tryz.func4
abbrev n_nacellelaw03_RotorBrackets : Nat := 5
noncomputable abbrev f_nacellelaw03_RotorBrackets : Func := Tryz.f5
theorem h_nacellelaw03_RotorBrackets : prog.funcs[n_nacellelaw03_RotorBrackets]? = some f_nacellelaw03_RotorBrackets := Tryz.func5
abbrev n_nacellelaw03_awake : Nat := 6
noncomputable abbrev f_nacellelaw03_awake : Func := Tryz.f6
theorem h_nacellelaw03_awake : prog.funcs[n_nacellelaw03_awake]? = some f_nacellelaw03_awake := Tryz.func6
abbrev n_nacellelaw03_light : Nat := 7
noncomputable abbrev f_nacellelaw03_light : Func := Tryz.f7
theorem h_nacellelaw03_light : prog.funcs[n_nacellelaw03_light]? = some f_nacellelaw03_light := Tryz.func7
abbrev n_rotor_Thrust : Nat := 8
noncomputable abbrev f_rotor_Thrust : Func := Tryz.f8
theorem h_rotor_Thrust : prog.funcs[n_rotor_Thrust]? = some f_rotor_Thrust := Tryz.func8
abbrev n_nacellelaw03_blade : Nat := 9
noncomputable abbrev f_nacellelaw03_blade : Func := Tryz.f9
theorem h_nacellelaw03_blade : prog.funcs[n_nacellelaw03_blade]? = some f_nacellelaw03_blade := Tryz.func9
abbrev n_rotor_Torque : Nat := 10
noncomputable abbrev f_rotor_Torque : Func := Tryz.f10
theorem h_rotor_Torque : prog.funcs[n_rotor_Torque]? = some f_rotor_Torque := Tryz.func10
abbrev n_rotor_Rings : Nat := 11
noncomputable abbrev f_rotor_Rings : Func := Tryz.f11
theorem h_rotor_Rings : prog.funcs[n_rotor_Rings]? = some f_rotor_Rings := Tryz.func11
abbrev n_nacelleref01_First : Nat := 12
noncomputable abbrev f_nacelleref01_First : Func := Tryz.f12
theorem h_nacelleref01_First : prog.funcs[n_nacelleref01_First]? = some f_nacelleref01_First := Tryz.func12
abbrev n_nacelleref03_CheckBlade : Nat := 13
noncomputable abbrev f_nacelleref03_CheckBlade : Func := Tryz.f13
theorem h_nacelleref03_CheckBlade : prog.funcs[n_nacelleref03_CheckBlade]? = some f_nacelleref03_CheckBlade := Tryz.func13
abbrev n_nacelleref03_CheckFlow : Nat := 14
noncomputable abbrev f_nacelleref03_CheckFlow : Func := Tryz.f14
theorem h_nacelleref03_CheckFlow : prog.funcs[n_nacelleref03_CheckFlow]? = some f_nacelleref03_CheckFlow := Tryz.func14
abbrev n_nacelleref03_CheckDepth : Nat := 15
noncomputable abbrev f_nacelleref03_CheckDepth : Func := Tryz.f15
theorem h_nacelleref03_CheckDepth : prog.funcs[n_nacelleref03_CheckDepth]? = some f_nacelleref03_CheckDepth := Tryz.func15
abbrev n_nacelleref03_All : Nat := 16
noncomputable abbrev f_nacelleref03_All : Func := Tryz.f16
theorem h_nacelleref03_All : prog.funcs[n_nacelleref03_All]? = some f_nacelleref03_All := Tryz.func16
abbrev n_nacelleref03_Rings : Nat := 17
noncomputable abbrev f_nacelleref03_Rings : Func := Tryz.f17
theorem h_nacelleref03_Rings : prog.funcs[n_nacelleref03_Rings]? = some f_nacelleref03_Rings := Tryz.func17
abbrev n_nacellelaw03_span : Nat := 18
noncomputable abbrev f_nacellelaw03_span : Func := Tryz.f18
theorem h_nacellelaw03_span : prog.funcs[n_nacellelaw03_span]? = some f_nacellelaw03_span := Tryz.func18
abbrev n_nacelleref03_SameTorques : Nat := 19
noncomputable abbrev f_nacelleref03_SameTorques : Func := Tryz.f19
theorem h_nacelleref03_SameTorques : prog.funcs[n_nacelleref03_SameTorques]? = some f_nacelleref03_SameTorques := Tryz.func19
abbrev n_nacelleref03_CheckPitches : Nat := 20
noncomputable abbrev f_nacelleref03_CheckPitches : Func := Tryz.f20
theorem h_nacelleref03_CheckPitches : prog.funcs[n_nacelleref03_CheckPitches]? = some f_nacelleref03_CheckPitches := Tryz.func20
abbrev n_rotor_Best : Nat := 21
noncomputable abbrev f_rotor_Best : Func := Tryz.f21
theorem h_rotor_Best : prog.funcs[n_rotor_Best]? = some f_rotor_Best := Tryz.func21
abbrev n_rotor_Limit : Nat := 22
noncomputable abbrev f_rotor_Limit : Func := Tryz.f22
theorem h_rotor_Limit : prog.funcs[n_rotor_Limit]? = some f_rotor_Limit := Tryz.func22
abbrev n_nacelleref01_CheckRange : Nat := 23
noncomputable abbrev f_nacelleref01_CheckRange : Func := Tryz.f23
theorem h_nacelleref01_CheckRange : prog.funcs[n_nacelleref01_CheckRange]? = some f_nacelleref01_CheckRange := Tryz.func23
abbrev n_nacelleref03_Best : Nat := 24
noncomputable abbrev f_nacelleref03_Best : Func := Tryz.f24
theorem h_nacelleref03_Best : prog.funcs[n_nacelleref03_Best]? = some f_nacelleref03_Best := Tryz.func24
abbrev n_nacelleref03_Limit : Nat := 25
noncomputable abbrev f_nacelleref03_Limit : Func := Tryz.f25
theorem h_nacelleref03_Limit : prog.funcs[n_nacelleref03_Limit]? = some f_nacelleref03_Limit := Tryz.func25
abbrev n_nacellelaw03_number : Nat := 26
noncomputable abbrev f_nacellelaw03_number : Func := Tryz.f26
theorem h_nacellelaw03_number : prog.funcs[n_nacellelaw03_number]? = some f_nacellelaw03_number := Tryz.func26
abbrev n_nacelleref03_Short : Nat := 27
noncomputable abbrev f_nacelleref03_Short : Func := Tryz.f27
theorem h_nacelleref03_Short : prog.funcs[n_nacelleref03_Short]? = some f_nacelleref03_Short := Tryz.func27
abbrev n_rotor_Find : Nat := 28
noncomputable abbrev f_rotor_Find : Func := Tryz.f28
theorem h_rotor_Find : prog.funcs[n_rotor_Find]? = some f_rotor_Find := Tryz.func28
abbrev n_rotor_CheckBracket : Nat := 29
noncomputable abbrev f_rotor_CheckBracket : Func := Tryz.f29
theorem h_rotor_CheckBracket : prog.funcs[n_rotor_CheckBracket]? = some f_rotor_CheckBracket := Tryz.func29
abbrev n_rotor_Refine : Nat := 30
noncomputable abbrev f_rotor_Refine : Func := Tryz.f30
theorem h_rotor_Refine : prog.funcs[n_rotor_Refine]? = some f_rotor_Refine := Tryz.func30
abbrev n_nacelleref03_CheckRing : Nat := 31
noncomputable abbrev f_nacelleref03_CheckRing : Func := Tryz.f31
theorem h_nacelleref03_CheckRing : prog.funcs[n_nacelleref03_CheckRing]? = some f_nacelleref03_CheckRing := Tryz.func31
abbrev n_nacelleref03_CheckInduction : Nat := 32
noncomputable abbrev f_nacelleref03_CheckInduction : Func := Tryz.f32
theorem h_nacelleref03_CheckInduction : prog.funcs[n_nacelleref03_CheckInduction]? = some f_nacelleref03_CheckInduction := Tryz.func32
abbrev n_nacelleref03_Find : Nat := 33
noncomputable abbrev f_nacelleref03_Find : Func := Tryz.f33
theorem h_nacelleref03_Find : prog.funcs[n_nacelleref03_Find]? = some f_nacelleref03_Find := Tryz.func33
abbrev n_nacelleref03_IsBracket : Nat := 34
noncomputable abbrev f_nacelleref03_IsBracket : Func := Tryz.f34
theorem h_nacelleref03_IsBracket : prog.funcs[n_nacelleref03_IsBracket]? = some f_nacelleref03_IsBracket := Tryz.func34
abbrev n_rotor_Inflow : Nat := 35
noncomputable abbrev f_rotor_Inflow : Func := Tryz.f35
theorem h_rotor_Inflow : prog.funcs[n_rotor_Inflow]? = some f_rotor_Inflow := Tryz.func35
abbrev n_nacellelaw03_sample : Nat := 36
noncomputable abbrev f_nacellelaw03_sample : Func := Tryz.f36
theorem h_nacellelaw03_sample : prog.funcs[n_nacellelaw03_sample]? = some f_nacellelaw03_sample := Tryz.func36
abbrev n_nacellelaw03_breeze : Nat := 37
noncomputable abbrev f_nacellelaw03_breeze : Func := Tryz.f37
theorem h_nacellelaw03_breeze : prog.funcs[n_nacellelaw03_breeze]? = some f_nacellelaw03_breeze := Tryz.func37
abbrev n_rotor_Balance : Nat := 38
noncomputable abbrev f_rotor_Balance : Func := Tryz.f38
theorem h_rotor_Balance : prog.funcs[n_rotor_Balance]? = some f_rotor_Balance := Tryz.func38
abbrev n_rotor_Split : Nat := 39
noncomputable abbrev f_rotor_Split : Func := Tryz.f39
theorem h_rotor_Split : prog.funcs[n_rotor_Split]? = some f_rotor_Split := Tryz.func39
abbrev n_rotor_Turn : Nat := 40
noncomputable abbrev f_rotor_Turn : Func := Tryz.f40
theorem h_rotor_Turn : prog.funcs[n_rotor_Turn]? = some f_rotor_Turn := Tryz.func40
abbrev n_rotor_Merge : Nat := 41
noncomputable abbrev f_rotor_Merge : Func := Tryz.f41
theorem h_rotor_Merge : prog.funcs[n_rotor_Merge]? = some f_rotor_Merge := Tryz.func41
abbrev n_rotor_Times : Nat := 42
noncomputable abbrev f_rotor_Times : Func := Tryz.f42
theorem h_rotor_Times : prog.funcs[n_rotor_Times]? = some f_rotor_Times := Tryz.func42
abbrev n_rotor_Norm : Nat := 43
noncomputable abbrev f_rotor_Norm : Func := Tryz.f43
theorem h_rotor_Norm : prog.funcs[n_rotor_Norm]? = some f_rotor_Norm := Tryz.func43
abbrev n_rotor_Rotating : Nat := 44
noncomputable abbrev f_rotor_Rotating : Func := Tryz.f44
theorem h_rotor_Rotating : prog.funcs[n_rotor_Rotating]? = some f_rotor_Rotating := Tryz.func44
abbrev n_rotor_Fixed : Nat := 45
noncomputable abbrev f_rotor_Fixed : Func := Tryz.f45
theorem h_rotor_Fixed : prog.funcs[n_rotor_Fixed]? = some f_rotor_Fixed := Tryz.func45
abbrev n_rotor_Print : Nat := 46
noncomputable abbrev f_rotor_Print : Func := Tryz.f46
theorem h_rotor_Print : prog.funcs[n_rotor_Print]? = some f_rotor_Print := Tryz.func46
abbrev n_nacelleref03_Light : Nat := 47
noncomputable abbrev f_nacelleref03_Light : Func := Tryz.f47
theorem h_nacelleref03_Light : prog.funcs[n_nacelleref03_Light]? = some f_nacelleref03_Light := Tryz.func47
abbrev n_rotor_checkAll : Nat := 48
noncomputable abbrev f_rotor_checkAll : Func := Tryz.f48
theorem h_rotor_checkAll : prog.funcs[n_rotor_checkAll]? = some f_rotor_checkAll := Tryz.func48
abbrev n_rotor_each : Nat := 49
noncomputable abbrev f_rotor_each : Func := Tryz.f49
theorem h_rotor_each : prog.funcs[n_rotor_each]? = some f_rotor_each := Tryz.func49
abbrev n_rotor_section_thrust : Nat := 50
noncomputable abbrev f_rotor_section_thrust : Func := Tryz.f50
theorem h_rotor_section_thrust : prog.funcs[n_rotor_section_thrust]? = some f_rotor_section_thrust := Tryz.func50
abbrev n_rotor_sum : Nat := 51
noncomputable abbrev f_rotor_sum : Func := Tryz.f51
theorem h_rotor_sum : prog.funcs[n_rotor_sum]? = some f_rotor_sum := Tryz.func51
abbrev n_rotor_section_torque : Nat := 52
noncomputable abbrev f_rotor_section_torque : Func := Tryz.f52
theorem h_rotor_section_torque : prog.funcs[n_rotor_section_torque]? = some f_rotor_section_torque := Tryz.func52
abbrev n_nacelleref03_CheckPolar : Nat := 53
noncomputable abbrev f_nacelleref03_CheckPolar : Func := Tryz.f53
theorem h_nacelleref03_CheckPolar : prog.funcs[n_nacelleref03_CheckPolar]? = some f_nacelleref03_CheckPolar := Tryz.func53
abbrev n_nacelleref03_CheckAngle : Nat := 54
noncomputable abbrev f_nacelleref03_CheckAngle : Func := Tryz.f54
theorem h_nacelleref03_CheckAngle : prog.funcs[n_nacelleref03_CheckAngle]? = some f_nacelleref03_CheckAngle := Tryz.func54
abbrev n_nacelleref03_Thrust : Nat := 55
noncomputable abbrev f_nacelleref03_Thrust : Func := Tryz.f55
theorem h_nacelleref03_Thrust : prog.funcs[n_nacelleref03_Thrust]? = some f_nacelleref03_Thrust := Tryz.func55
abbrev n_nacelleref03_Torque : Nat := 56
noncomputable abbrev f_nacelleref03_Torque : Func := Tryz.f56
theorem h_nacelleref03_Torque : prog.funcs[n_nacelleref03_Torque]? = some f_nacelleref03_Torque := Tryz.func56
abbrev n_rotor_first : Nat := 57
noncomputable abbrev f_rotor_first : Func := Tryz.f57
theorem h_rotor_first : prog.funcs[n_rotor_first]? = some f_rotor_first := Tryz.func57
abbrev n_rotor_checkPitches : Nat := 58
noncomputable abbrev f_rotor_checkPitches : Func := Tryz.f58
theorem h_rotor_checkPitches : prog.funcs[n_rotor_checkPitches]? = some f_rotor_checkPitches := Tryz.func58
abbrev n_rotor_pitched : Nat := 59
noncomputable abbrev f_rotor_pitched : Func := Tryz.f59
theorem h_rotor_pitched : prog.funcs[n_rotor_pitched]? = some f_rotor_pitched := Tryz.func59
abbrev n_rotor_when : Nat := 60
noncomputable abbrev f_rotor_when : Func := Tryz.f60
theorem h_rotor_when : prog.funcs[n_rotor_when]? = some f_rotor_when := Tryz.func60
abbrev n_rotor_within : Nat := 61
noncomputable abbrev f_rotor_within : Func := Tryz.f61
theorem h_rotor_within : prog.funcs[n_rotor_within]? = some f_rotor_within := Tryz.func61
abbrev n_nacelleref03_pitched : Nat := 62
noncomputable abbrev f_nacelleref03_pitched : Func := Tryz.f62
theorem h_nacelleref03_pitched : prog.funcs[n_nacelleref03_pitched]? = some f_nacelleref03_pitched := Tryz.func62
abbrev n_rotor_checkRing : Nat := 63
noncomputable abbrev f_rotor_checkRing : Func := Tryz.f63
theorem h_rotor_checkRing : prog.funcs[n_rotor_checkRing]? = some f_rotor_checkRing := Tryz.func63
abbrev n_rotor_checkDepth : Nat := 64
noncomputable abbrev f_rotor_checkDepth : Func := Tryz.f64
theorem h_rotor_checkDepth : prog.funcs[n_rotor_checkDepth]? = some f_rotor_checkDepth := Tryz.func64
abbrev n_rotor_section_find : Nat := 65
noncomputable abbrev f_rotor_section_find : Func := Tryz.f65
theorem h_rotor_section_find : prog.funcs[n_rotor_section_find]? = some f_rotor_section_find := Tryz.func65
abbrev n_rotor_Induction_check : Nat := 66
noncomputable abbrev f_rotor_Induction_check : Func := Tryz.f66
theorem h_rotor_Induction_check : prog.funcs[n_rotor_Induction_check]? = some f_rotor_Induction_check := Tryz.func66
abbrev n_rotor_section_brackets : Nat := 67
noncomputable abbrev f_rotor_section_brackets : Func := Tryz.f67
theorem h_rotor_section_brackets : prog.funcs[n_rotor_section_brackets]? = some f_rotor_section_brackets := Tryz.func67
abbrev n_rotor_Induction_next : Nat := 68
noncomputable abbrev f_rotor_Induction_next : Func := Tryz.f68
theorem h_rotor_Induction_next : prog.funcs[n_rotor_Induction_next]? = some f_rotor_Induction_next := Tryz.func68
abbrev n_nacelleref03_power : Nat := 69
noncomputable abbrev f_nacelleref03_power : Func := Tryz.f69
theorem h_nacelleref03_power : prog.funcs[n_nacelleref03_power]? = some f_nacelleref03_power := Tryz.func69
abbrev n_nacelleref03_Balance : Nat := 70
noncomputable abbrev f_nacelleref03_Balance : Func := Tryz.f70
theorem h_nacelleref03_Balance : prog.funcs[n_nacelleref03_Balance]? = some f_nacelleref03_Balance := Tryz.func70
abbrev n_rotor_section_inflow : Nat := 71
noncomputable abbrev f_rotor_section_inflow : Func := Tryz.f71
theorem h_rotor_section_inflow : prog.funcs[n_rotor_section_inflow]? = some f_rotor_section_inflow := Tryz.func71
abbrev n_rotor_section_balance : Nat := 72
noncomputable abbrev f_rotor_section_balance : Func := Tryz.f72
theorem h_rotor_section_balance : prog.funcs[n_rotor_section_balance]? = some f_rotor_section_balance := Tryz.func72
abbrev n_rotor_checkLoads : Nat := 73
noncomputable abbrev f_rotor_checkLoads : Func := Tryz.f73
theorem h_rotor_checkLoads : prog.funcs[n_rotor_checkLoads]? = some f_rotor_checkLoads := Tryz.func73
abbrev n_rotor_component : Nat := 74
noncomputable abbrev f_rotor_component : Func := Tryz.f74
theorem h_rotor_component : prog.funcs[n_rotor_component]? = some f_rotor_component := Tryz.func74
abbrev n_rotor_Pair_check : Nat := 75
noncomputable abbrev f_rotor_Pair_check : Func := Tryz.f75
theorem h_rotor_Pair_check : prog.funcs[n_rotor_Pair_check]? = some f_rotor_Pair_check := Tryz.func75
abbrev n_rotor_Pair_turned : Nat := 76
noncomputable abbrev f_rotor_Pair_turned : Func := Tryz.f76
theorem h_rotor_Pair_turned : prog.funcs[n_rotor_Pair_turned]? = some f_rotor_Pair_turned := Tryz.func76
abbrev n_rotor_Pair_times : Nat := 77
noncomputable abbrev f_rotor_Pair_times : Func := Tryz.f77
theorem h_rotor_Pair_times : prog.funcs[n_rotor_Pair_times]? = some f_rotor_Pair_times := Tryz.func77
abbrev n_rotor_record : Nat := 78
noncomputable abbrev f_rotor_record : Func := Tryz.f78
theorem h_rotor_record : prog.funcs[n_rotor_record]? = some f_rotor_record := Tryz.func78
abbrev n_rotor_Rotating_1 : Nat := 79
noncomputable abbrev f_rotor_Rotating_1 : Func := Tryz.f79
theorem h_rotor_Rotating_1 : prog.funcs[n_rotor_Rotating_1]? = some f_rotor_Rotating_1 := Tryz.func79
abbrev n_rotor_CheckBlade : Nat := 80
noncomputable abbrev f_rotor_CheckBlade : Func := Tryz.f80
theorem h_rotor_CheckBlade : prog.funcs[n_rotor_CheckBlade]? = some f_rotor_CheckBlade := Tryz.func80
abbrev n_rotor_line : Nat := 81
noncomputable abbrev f_rotor_line : Func := Tryz.f81
theorem h_rotor_line : prog.funcs[n_rotor_line]? = some f_rotor_line := Tryz.func81
abbrev n_rotor_CheckFlow : Nat := 82
noncomputable abbrev f_rotor_CheckFlow : Func := Tryz.f82
theorem h_rotor_CheckFlow : prog.funcs[n_rotor_CheckFlow]? = some f_rotor_CheckFlow := Tryz.func82
abbrev n_rotor_sections : Nat := 83
noncomputable abbrev f_rotor_sections : Func := Tryz.f83
theorem h_rotor_sections : prog.funcs[n_rotor_sections]? = some f_rotor_sections := Tryz.func83
abbrev n_rotor_section_thrust_1 : Nat := 84
noncomputable abbrev f_rotor_section_thrust_1 : Func := Tryz.f84
theorem h_rotor_section_thrust_1 : prog.funcs[n_rotor_section_thrust_1]? = some f_rotor_section_thrust_1 := Tryz.func84
abbrev n_rotor_section_torque_1 : Nat := 85
noncomputable abbrev f_rotor_section_torque_1 : Func := Tryz.f85
theorem h_rotor_section_torque_1 : prog.funcs[n_rotor_section_torque_1]? = some f_rotor_section_torque_1 := Tryz.func85
abbrev n_rotor_section_class : Nat := 86
noncomputable abbrev f_rotor_section_class : Func := Tryz.f86
theorem h_rotor_section_class : prog.funcs[n_rotor_section_class]? = some f_rotor_section_class := Tryz.func86
abbrev n_rotor_section_shift : Nat := 87
noncomputable abbrev f_rotor_section_shift : Func := Tryz.f87
theorem h_rotor_section_shift : prog.funcs[n_rotor_section_shift]? = some f_rotor_section_shift := Tryz.func87
abbrev n_nacelleref03_Inflow : Nat := 88
noncomputable abbrev f_nacelleref03_Inflow : Func := Tryz.f88
theorem h_nacelleref03_Inflow : prog.funcs[n_nacelleref03_Inflow]? = some f_nacelleref03_Inflow := Tryz.func88
abbrev n_nacelleref03_torque : Nat := 89
noncomputable abbrev f_nacelleref03_torque : Func := Tryz.f89
theorem h_nacelleref03_torque : prog.funcs[n_nacelleref03_torque]? = some f_nacelleref03_torque := Tryz.func89
abbrev n_nacelleref03_Class : Nat := 90
noncomputable abbrev f_nacelleref03_Class : Func := Tryz.f90
theorem h_nacelleref03_Class : prog.funcs[n_nacelleref03_Class]? = some f_nacelleref03_Class := Tryz.func90
abbrev n_rotor_mapped_int_api_Errno : Nat := 91
noncomputable abbrev f_rotor_mapped_int_api_Errno : Func := Tryz.f91
theorem h_rotor_mapped_int_api_Errno : prog.funcs[n_rotor_mapped_int_api_Errno]? = some f_rotor_mapped_int_api_Errno := Tryz.func91
abbrev n_rotor_checkLoads_1 : Nat := 92
noncomputable abbrev f_rotor_checkLoads_1 : Func := Tryz.f92
theorem h_rotor_checkLoads_1 : prog.funcs[n_rotor_checkLoads_1]? = some f_rotor_checkLoads_1 := Tryz.func92
abbrev n_rotor_mapped_3_int_api_Errno : Nat := 93
noncomputable abbrev f_rotor_mapped_3_int_api_Errno : Func := Tryz.f93
theorem h_rotor_mapped_3_int_api_Errno : prog.funcs[n_rotor_mapped_3_int_api_Errno]? = some f_rotor_mapped_3_int_api_Errno := Tryz.func93
abbrev n_rotor_CheckPolar : Nat := 94
noncomputable abbrev f_rotor_CheckPolar : Func := Tryz.f94
theorem h_rotor_CheckPolar : prog.funcs[n_rotor_CheckPolar]? = some f_rotor_CheckPolar := Tryz.func94
abbrev n_rotor_Ring_check : Nat := 95
noncomputable abbrev f_rotor_Ring_check : Func := Tryz.f95
theorem h_rotor_Ring_check : prog.funcs[n_rotor_Ring_check]? = some f_rotor_Ring_check := Tryz.func95
abbrev n_strings_Join : Nat := 96
noncomputable abbrev f_strings_Join : Func := Tryz.f96
theorem h_strings_Join : prog.funcs[n_strings_Join]? = some f_strings_Join := Tryz.func96
abbrev n_rotor_mapped_int_string : Nat := 97
noncomputable abbrev f_rotor_mapped_int_string : Func := Tryz.f97
theorem h_rotor_mapped_int_string : prog.funcs[n_rotor_mapped_int_string]? = some f_rotor_mapped_int_string := Tryz.func97
abbrev n_strconv_Itoa : Nat := 98
noncomputable abbrev f_strconv_Itoa : Func := Tryz.f98
theorem h_strconv_Itoa : prog.funcs[n_strconv_Itoa]? = some f_strconv_Itoa := Tryz.func98
abbrev n_rotor_sections_1 : Nat := 99
noncomputable abbrev f_rotor_sections_1 : Func := Tryz.f99
theorem h_rotor_sections_1 : prog.funcs[n_rotor_sections_1]? = some f_rotor_sections_1 := Tryz.func99
abbrev n_rotor_CheckPolar_1 : Nat := 100
noncomputable abbrev f_rotor_CheckPolar_1 : Func := Tryz.f100
theorem h_rotor_CheckPolar_1 : prog.funcs[n_rotor_CheckPolar_1]? = some f_rotor_CheckPolar_1 := Tryz.func100
abbrev n_strings_Builder_Grow : Nat := 101
noncomputable abbrev f_strings_Builder_Grow : Func := Tryz.f101
theorem h_strings_Builder_Grow : prog.funcs[n_strings_Builder_Grow]? = some f_strings_Builder_Grow := Tryz.func101
abbrev n_strings_Builder_WriteString : Nat := 102
noncomputable abbrev f_strings_Builder_WriteString : Func := Tryz.f102
theorem h_strings_Builder_WriteString : prog.funcs[n_strings_Builder_WriteString]? = some f_strings_Builder_WriteString := Tryz.func102
abbrev n_strings_Builder_String : Nat := 103
noncomputable abbrev f_strings_Builder_String : Func := Tryz.f103
theorem h_strings_Builder_String : prog.funcs[n_strings_Builder_String]? = some f_strings_Builder_String := Tryz.func103
abbrev n_internal_strconv_Itoa : Nat := 104
noncomputable abbrev f_internal_strconv_Itoa : Func := Tryz.f104
theorem h_internal_strconv_Itoa : prog.funcs[n_internal_strconv_Itoa]? = some f_internal_strconv_Itoa := Tryz.func104
abbrev n_strings_Builder_copyCheck : Nat := 105
noncomputable abbrev f_strings_Builder_copyCheck : Func := Tryz.f105
theorem h_strings_Builder_copyCheck : prog.funcs[n_strings_Builder_copyCheck]? = some f_strings_Builder_copyCheck := Tryz.func105
abbrev n_strings_Builder_grow : Nat := 106
noncomputable abbrev f_strings_Builder_grow : Func := Tryz.f106
theorem h_strings_Builder_grow : prog.funcs[n_strings_Builder_grow]? = some f_strings_Builder_grow := Tryz.func106
abbrev n_internal_strconv_FormatInt : Nat := 107
noncomputable abbrev f_internal_strconv_FormatInt : Func := Tryz.f107
theorem h_internal_strconv_FormatInt : prog.funcs[n_internal_strconv_FormatInt]? = some f_internal_strconv_FormatInt := Tryz.func107
abbrev n_internal_abi_NoEscape : Nat := 108
noncomputable abbrev f_internal_abi_NoEscape : Func := Tryz.f108
theorem h_internal_abi_NoEscape : prog.funcs[n_internal_abi_NoEscape]? = some f_internal_abi_NoEscape := Tryz.func108
abbrev n_internal_bytealg_MakeNoZero : Nat := 109
noncomputable abbrev f_internal_bytealg_MakeNoZero : Func := Tryz.f109
theorem h_internal_bytealg_MakeNoZero : prog.funcs[n_internal_bytealg_MakeNoZero]? = some f_internal_bytealg_MakeNoZero := Tryz.func109
abbrev n_internal_strconv_small : Nat := 110
noncomputable abbrev f_internal_strconv_small : Func := Tryz.f110
theorem h_internal_strconv_small : prog.funcs[n_internal_strconv_small]? = some f_internal_strconv_small := Tryz.func110
abbrev n_internal_strconv_numDigits : Nat := 111
noncomputable abbrev f_internal_strconv_numDigits : Func := Tryz.f111
theorem h_internal_strconv_numDigits : prog.funcs[n_internal_strconv_numDigits]? = some f_internal_strconv_numDigits := Tryz.func111
abbrev n_internal_strconv_formatBase10 : Nat := 112
noncomputable abbrev f_internal_strconv_formatBase10 : Func := Tryz.f112
theorem h_internal_strconv_formatBase10 : prog.funcs[n_internal_strconv_formatBase10]? = some f_internal_strconv_formatBase10 := Tryz.func112
abbrev n_internal_strconv_formatBits : Nat := 113
noncomputable abbrev f_internal_strconv_formatBits : Func := Tryz.f113
theorem h_internal_strconv_formatBits : prog.funcs[n_internal_strconv_formatBits]? = some f_internal_strconv_formatBits := Tryz.func113
abbrev n_internal_strconv_log10Pow2 : Nat := 114
noncomputable abbrev f_internal_strconv_log10Pow2 : Func := Tryz.f114
theorem h_internal_strconv_log10Pow2 : prog.funcs[n_internal_strconv_log10Pow2]? = some f_internal_strconv_log10Pow2 := Tryz.func114
abbrev n_math_bits_Len64 : Nat := 115
noncomputable abbrev f_math_bits_Len64 : Func := Tryz.f115
theorem h_math_bits_Len64 : prog.funcs[n_math_bits_Len64]? = some f_math_bits_Len64 := Tryz.func115
abbrev n_internal_strconv_bool2_int : Nat := 116
noncomputable abbrev f_internal_strconv_bool2_int : Func := Tryz.f116
theorem h_internal_strconv_bool2_int : prog.funcs[n_internal_strconv_bool2_int]? = some f_internal_strconv_bool2_int := Tryz.func116
abbrev n_internal_strconv_isPowerOfTwo : Nat := 117
noncomputable abbrev f_internal_strconv_isPowerOfTwo : Func := Tryz.f117
theorem h_internal_strconv_isPowerOfTwo : prog.funcs[n_internal_strconv_isPowerOfTwo]? = some f_internal_strconv_isPowerOfTwo := Tryz.func117
abbrev n_math_bits_TrailingZeros : Nat := 118
noncomputable abbrev f_math_bits_TrailingZeros : Func := Tryz.f118
theorem h_math_bits_TrailingZeros : prog.funcs[n_math_bits_TrailingZeros]? = some f_math_bits_TrailingZeros := Tryz.func118
abbrev n_math_bits_TrailingZeros32 : Nat := 119
noncomputable abbrev f_math_bits_TrailingZeros32 : Func := Tryz.f119
theorem h_math_bits_TrailingZeros32 : prog.funcs[n_math_bits_TrailingZeros32]? = some f_math_bits_TrailingZeros32 := Tryz.func119
abbrev n_math_bits_TrailingZeros64 : Nat := 120
noncomputable abbrev f_math_bits_TrailingZeros64 : Func := Tryz.f120
theorem h_math_bits_TrailingZeros64 : prog.funcs[n_math_bits_TrailingZeros64]? = some f_math_bits_TrailingZeros64 := Tryz.func120
abbrev n_runtime_boundsError_Error : Nat := 121
noncomputable abbrev f_runtime_boundsError_Error : Func := Tryz.f121
theorem h_runtime_boundsError_Error : prog.funcs[n_runtime_boundsError_Error]? = some f_runtime_boundsError_Error := Tryz.func121
abbrev n_runtime_boundsError_RuntimeError : Nat := 122
noncomputable abbrev f_runtime_boundsError_RuntimeError : Func := Tryz.f122
theorem h_runtime_boundsError_RuntimeError : prog.funcs[n_runtime_boundsError_RuntimeError]? = some f_runtime_boundsError_RuntimeError := Tryz.func122
abbrev n_runtime_errorString_Error : Nat := 123
noncomputable abbrev f_runtime_errorString_Error : Func := Tryz.f123
theorem h_runtime_errorString_Error : prog.funcs[n_runtime_errorString_Error]? = some f_runtime_errorString_Error := Tryz.func123
abbrev n_runtime_errorString_RuntimeError : Nat := 124
noncomputable abbrev f_runtime_errorString_RuntimeError : Func := Tryz.f124
theorem h_runtime_errorString_RuntimeError : prog.funcs[n_runtime_errorString_RuntimeError]? = some f_runtime_errorString_RuntimeError := Tryz.func124
abbrev n_runtime_plainError_Error : Nat := 125
noncomputable abbrev f_runtime_plainError_Error : Func := Tryz.f125
theorem h_runtime_plainError_Error : prog.funcs[n_runtime_plainError_Error]? = some f_runtime_plainError_Error := Tryz.func125
abbrev n_runtime_plainError_RuntimeError : Nat := 126
noncomputable abbrev f_runtime_plainError_RuntimeError : Func := Tryz.f126
theorem h_runtime_plainError_RuntimeError : prog.funcs[n_runtime_plainError_RuntimeError]? = some f_runtime_plainError_RuntimeError := Tryz.func126
abbrev n_runtime_errorAddressString_Error : Nat := 127
noncomputable abbrev f_runtime_errorAddressString_Error : Func := Tryz.f127
theorem h_runtime_errorAddressString_Error : prog.funcs[n_runtime_errorAddressString_Error]? = some f_runtime_errorAddressString_Error := Tryz.func127
abbrev n_runtime_errorAddressString_RuntimeError : Nat := 128
noncomputable abbrev f_runtime_errorAddressString_RuntimeError : Func := Tryz.f128
theorem h_runtime_errorAddressString_RuntimeError : prog.funcs[n_runtime_errorAddressString_RuntimeError]? = some f_runtime_errorAddressString_RuntimeError := Tryz.func128
abbrev n_runtime_TypeAssertionError_Error : Nat := 129
noncomputable abbrev f_runtime_TypeAssertionError_Error : Func := Tryz.f129
theorem h_runtime_TypeAssertionError_Error : prog.funcs[n_runtime_TypeAssertionError_Error]? = some f_runtime_TypeAssertionError_Error := Tryz.func129
abbrev n_runtime_TypeAssertionError_RuntimeError : Nat := 130
noncomputable abbrev f_runtime_TypeAssertionError_RuntimeError : Func := Tryz.f130
theorem h_runtime_TypeAssertionError_RuntimeError : prog.funcs[n_runtime_TypeAssertionError_RuntimeError]? = some f_runtime_TypeAssertionError_RuntimeError := Tryz.func130
abbrev n_runtime_PanicNilError_Error : Nat := 131
noncomputable abbrev f_runtime_PanicNilError_Error : Func := Tryz.f131
theorem h_runtime_PanicNilError_Error : prog.funcs[n_runtime_PanicNilError_Error]? = some f_runtime_PanicNilError_Error := Tryz.func131
abbrev n_runtime_PanicNilError_RuntimeError : Nat := 132
noncomputable abbrev f_runtime_PanicNilError_RuntimeError : Func := Tryz.f132
theorem h_runtime_PanicNilError_RuntimeError : prog.funcs[n_runtime_PanicNilError_RuntimeError]? = some f_runtime_PanicNilError_RuntimeError := Tryz.func132
abbrev n_internal_abi_Type_Align : Nat := 133
noncomputable abbrev f_internal_abi_Type_Align : Func := Tryz.f133
theorem h_internal_abi_Type_Align : prog.funcs[n_internal_abi_Type_Align]? = some f_internal_abi_Type_Align := Tryz.func133
abbrev n_internal_runtime_maps_unhashableTypeError_Error : Nat := 134
noncomputable abbrev f_internal_runtime_maps_unhashableTypeError_Error : Func := Tryz.f134
theorem h_internal_runtime_maps_unhashableTypeError_Error : prog.funcs[n_internal_runtime_maps_unhashableTypeError_Error]? = some f_internal_runtime_maps_unhashableTypeError_Error := Tryz.func134
abbrev n_internal_runtime_maps_unhashableTypeError_RuntimeError : Nat := 135
noncomputable abbrev f_internal_runtime_maps_unhashableTypeError_RuntimeError : Func := Tryz.f135
theorem h_internal_runtime_maps_unhashableTypeError_RuntimeError : prog.funcs[n_internal_runtime_maps_unhashableTypeError_RuntimeError]? = some f_internal_runtime_maps_unhashableTypeError_RuntimeError := Tryz.func135
abbrev n_strings_Builder_Reset : Nat := 136
noncomputable abbrev f_strings_Builder_Reset : Func := Tryz.f136
theorem h_strings_Builder_Reset : prog.funcs[n_strings_Builder_Reset]? = some f_strings_Builder_Reset := Tryz.func136
abbrev n_internal_abi_Kind_String : Nat := 137
noncomputable abbrev f_internal_abi_Kind_String : Func := Tryz.f137
theorem h_internal_abi_Kind_String : prog.funcs[n_internal_abi_Kind_String]? = some f_internal_abi_Kind_String := Tryz.func137
abbrev n_var_s_door_gosem_cut_vars_holds_initialisers_alone_see_the_manifest_s_row_cutvarsword_look_11_test_files_too : Nat := 138
noncomputable abbrev f_var_s_door_gosem_cut_vars_holds_initialisers_alone_see_the_manifest_s_row_cutvarsword_look_11_test_files_too : Func := Tryz.f138
theorem h_var_s_door_gosem_cut_vars_holds_initialisers_alone_see_the_manifest_s_row_cutvarsword_look_11_test_files_too : prog.funcs[n_var_s_door_gosem_cut_vars_holds_initialisers_alone_see_the_manifest_s_row_cutvarsword_look_11_test_files_too]? = some f_var_s_door_gosem_cut_vars_holds_initialisers_alone_see_the_manifest_s_row_cutvarsword_look_11_test_files_too := Tryz.func138
abbrev n_var_s_door_internal_strconv_uint64pow10_is_laid_by_its_own_initialiser_plain_data_look_11 : Nat := 139
noncomputable abbrev f_var_s_door_internal_strconv_uint64pow10_is_laid_by_its_own_initialiser_plain_data_look_11 : Func := Tryz.f139
theorem h_var_s_door_internal_strconv_uint64pow10_is_laid_by_its_own_initialiser_plain_data_look_11 : prog.funcs[n_var_s_door_internal_strconv_uint64pow10_is_laid_by_its_own_initialiser_plain_data_look_11]? = some f_var_s_door_internal_strconv_uint64pow10_is_laid_by_its_own_initialiser_plain_data_look_11 := Tryz.func139
abbrev n_var_s_door_math_bits_deBruijn32tab_is_laid_by_its_own_initialiser_plain_data_look_11 : Nat := 140
noncomputable abbrev f_var_s_door_math_bits_deBruijn32tab_is_laid_by_its_own_initialiser_plain_data_look_11 : Func := Tryz.f140
theorem h_var_s_door_math_bits_deBruijn32tab_is_laid_by_its_own_initialiser_plain_data_look_11 : prog.funcs[n_var_s_door_math_bits_deBruijn32tab_is_laid_by_its_own_initialiser_plain_data_look_11]? = some f_var_s_door_math_bits_deBruijn32tab_is_laid_by_its_own_initialiser_plain_data_look_11 := Tryz.func140
abbrev n_var_s_door_math_bits_deBruijn64tab_is_laid_by_its_own_initialiser_plain_data_look_11 : Nat := 141
noncomputable abbrev f_var_s_door_math_bits_deBruijn64tab_is_laid_by_its_own_initialiser_plain_data_look_11 : Func := Tryz.f141
theorem h_var_s_door_math_bits_deBruijn64tab_is_laid_by_its_own_initialiser_plain_data_look_11 : prog.funcs[n_var_s_door_math_bits_deBruijn64tab_is_laid_by_its_own_initialiser_plain_data_look_11]? = some f_var_s_door_math_bits_deBruijn64tab_is_laid_by_its_own_initialiser_plain_data_look_11 := Tryz.func141
abbrev n_var_s_door_rotor_roots_is_laid_by_its_own_initialiser_plain_data_look_11 : Nat := 142
noncomputable abbrev f_var_s_door_rotor_roots_is_laid_by_its_own_initialiser_plain_data_look_11 : Func := Tryz.f142
theorem h_var_s_door_rotor_roots_is_laid_by_its_own_initialiser_plain_data_look_11 : prog.funcs[n_var_s_door_rotor_roots_is_laid_by_its_own_initialiser_plain_data_look_11]? = some f_var_s_door_rotor_roots_is_laid_by_its_own_initialiser_plain_data_look_11 := Tryz.func142
abbrev n_var_s_door_the_look_of_gosem_cut_vars_went_over_the_folder_that_the_caller_named_as_the_repository_s_root_look_11 : Nat := 143
noncomputable abbrev f_var_s_door_the_look_of_gosem_cut_vars_went_over_the_folder_that_the_caller_named_as_the_repository_s_root_look_11 : Func := Tryz.f143
theorem h_var_s_door_the_look_of_gosem_cut_vars_went_over_the_folder_that_the_caller_named_as_the_repository_s_root_look_11 : prog.funcs[n_var_s_door_the_look_of_gosem_cut_vars_went_over_the_folder_that_the_caller_named_as_the_repository_s_root_look_11]? = some f_var_s_door_the_look_of_gosem_cut_vars_went_over_the_folder_that_the_caller_named_as_the_repository_s_root_look_11 := Tryz.func143
abbrev n_gosem_cut_vars : Nat := 144
noncomputable abbrev f_gosem_cut_vars : Func := Tryz.f144
theorem h_gosem_cut_vars : prog.funcs[n_gosem_cut_vars]? = some f_gosem_cut_vars := Tryz.func144
abbrev g_rotor_roots : Nat := 0
abbrev g_internal_bytealg_MaxLen : Nat := 1
abbrev g_internal_strconv_uint64pow10 : Nat := 2
abbrev g_math_bits_deBruijn32tab : Nat := 3
abbrev g_math_bits_deBruijn64tab : Nat := 4
end Go.Proofs.YtllmejkmogepjaaGreatDoor.Ix

/-
  IxD1: what the functions of the package rotor compute, as the code reckons it (with all wraps). Plain definitions.
-/
namespace Go.Proofs.YtllmejkmogepjaaGreatDoor.Ix
def withinS (n lo hi : Int) : Int := bif (decide (n < lo) || decide (n > hi)) then 3 else 0
/-- The first that is not 0, from place 'i' on. -/
def firstS (f : Nat → Int) : Nat → Nat → Int
  | 0, _ => 0
  | n + 1, i => bif f i != 0 then f i else firstS f n (i + 1)
abbrev w64 : Int → Int := IntKind.i64.wrap
/-- The cells of a section. -/
def secI (nl nd : Nat) (lf df : Nat → Int) (r c t tip w s p : Int) : IV :=
  .agg [.lst none 1 nl fun i => [.int .i64 (lf i)], .lst none 1 nd fun i => [.int .i64 (df i)], .int .i64 r, .int .i64 c, .int .i64 t, .int .i64 tip, .int .i64 w, .int .i64 s, .int .i64 p]
def maxW (a b : Int) : Int := if b > a then b else a
def minW (a b : Int) : Int := if b < a then b else a
def wholeW (d : Int) : Int := w64 (1 * 2 ^ (min d.toNat 64))
def denW (r s d : Int) : Int := w64 (w64 (wholeW d * s) * r)
def inflowW (r w s a d : Int) : Int := w64 ((w64 (w64 (1024 * w64 (wholeW d - a)) * w)).tdiv (denW r s d))
def classW (nl : Nat) (t p x : Int) : Int := minW (maxW 0 (w64 (x - w64 (t + p)))) (w64 (nl - 1))
def balanceW (nl : Nat) (lf : Nat → Int) (r c t tip w s p a d : Int) : Int :=
  w64 (w64 (w64 (w64 (1024 * a) * w64 (wholeW d - a)) * r) - w64 (w64 (w64 (w64 (wholeW d * wholeW d) * c) * tip) * lf (classW nl t p (inflowW r w s a d)).toNat))
/-- What the balance needs. -/
structure BalOK (nl : Nat) (r t w s p a d : Int) : Prop where
  d0 : 0 ≤ d
  den : denW r s d ≠ 0
  lo : 0 ≤ classW nl t p (inflowW r w s a d)
  hi : classW nl t p (inflowW r w s a d) < nl
def halfW (d : Int) : Int := w64 (1 * 2 ^ (min (w64 (d - 1)).toNat 64))
def bracketsW (nl : Nat) (lf : Nat → Int) (r c t tip w s p a d : Int) : Bool :=
  decide (a < halfW d) && (decide (balanceW nl lf r c t tip w s p a d ≤ 0) && decide (balanceW nl lf r c t tip w s p (w64 (a + 1)) d > 0))
/-- The search between two places. -/
def searchS (f : Int → Int) : Nat → Int → Int → Int
  | 0, lo, _ => lo
  | n + 1, lo, hi => bif decide (hi - lo > 1) then (bif decide (f ((lo + hi) / 2) ≤ 0) then searchS f n ((lo + hi) / 2) hi else searchS f n lo ((lo + hi) / 2)) else lo
def findS (f : Int → Int) (half : Int) : Option Int := bif decide (f half ≤ 0) then none else some (searchS f half.toNat 0 half)
def ofW (nl : Nat) (lf df : Nat → Int) (r c t tip p x : Int) : Int :=
  w64 (w64 (w64 (r * c) * tip) * w64 (w64 (x * lf (classW nl t p x).toNat) - w64 (1024 * df (classW nl t p x).toNat)))
def secL (nl nd : Nat) (lf df : Nat → Int) (r c t tip w s p : Int) : List IV :=
  [.lst none 1 nl fun i => [.int .i64 (lf i)], .lst none 1 nd fun i => [.int .i64 (df i)], .int .i64 r, .int .i64 c, .int .i64 t, .int .i64 tip, .int .i64 w, .int .i64 s, .int .i64 p]
end Go.Proofs.YtllmejkmogepjaaGreatDoor.Ix

/-
  P1: the plain law of a ring: the balance grows with the induction, and is four times as great one bit finer; so the bracket is one alone, and the finer one is one of its halves; torques and thrusts of finer brackets lie within those before.
-/
namespace Go.Proofs.YtllmejkmogepjaaGreatDoor.Ix

structure SecOK (n : Nat) (lf df : Nat → Int) (r c t tip w s p : Int) : Prop where
  n0 : 1 ≤ n
  n1 : n ≤ 32
  lf0 : ∀ i, i < n → 0 ≤ lf i ∧ lf i ≤ 1000
  lfm : ∀ i, i < n → lf (i - 1) ≤ lf i
  df0 : ∀ i, i < n → 0 ≤ df i ∧ df i ≤ 1000
  r : 1 ≤ r ∧ r ≤ 200
  c : 1 ≤ c ∧ c ≤ 100
  t : -64 ≤ t ∧ t ≤ 64
  tip : 0 ≤ tip ∧ tip ≤ 256
  w : 1 ≤ w ∧ w ≤ 50
  s : 1 ≤ s ∧ s ≤ 1000
  p : -64 ≤ p ∧ p ≤ 64

def inflP (r w s a : Int) (d : Nat) : Int := 1024 * (2 ^ d - a) * w / (2 ^ d * s * r)
def clsP (n : Nat) (t p x : Int) : Int := min (max 0 (x - (t + p))) (n - 1)
def balP (n : Nat) (lf : Nat → Int) (r c t tip w s p a : Int) (d : Nat) : Int :=
  1024 * a * (2 ^ d - a) * r - 2 ^ d * 2 ^ d * c * tip * lf (clsP n t p (inflP r w s a d)).toNat

theorem two_pos (d : Nat) : (0 : Int) < 2 ^ d := Int.pow_pos (by decide)

theorem inflP_dbl (r w s a : Int) (d : Nat) : inflP r w s (2 * a) (d + 1) = inflP r w s a d := by
  unfold inflP
  rw [Int.pow_succ]
  rw [show 1024 * ((2 : Int) ^ d * 2 - 2 * a) * w = 2 * (1024 * (2 ^ d - a) * w) by grind, show (2 : Int) ^ d * 2 * s * r = 2 * (2 ^ d * s * r) by grind]
  exact Int.mul_ediv_mul_of_pos _ _ (by decide)

theorem balP_dbl (n : Nat) (lf : Nat → Int) (r c t tip w s p a : Int) (d : Nat) : balP n lf r c t tip w s p (2 * a) (d + 1) = 4 * balP n lf r c t tip w s p a d := by
  unfold balP
  rw [inflP_dbl, Int.pow_succ]
  generalize lf _ = l
  grind

variable {n : Nat} {lf df : Nat → Int} {r c t tip w s p : Int}

theorem den_pos (h : SecOK n lf df r c t tip w s p) (d : Nat) : 0 < 2 ^ d * s * r :=
  Int.mul_pos (Int.mul_pos (two_pos d) (by have := h.s; omega)) (by have := h.r; omega)

theorem inflP_mono (h : SecOK n lf df r c t tip w s p) {a b : Int} {d : Nat} (hab : a ≤ b) : inflP r w s b d ≤ inflP r w s a d := by
  unfold inflP
  refine Int.ediv_le_ediv (den_pos h d) (Int.mul_le_mul_of_nonneg_right (by omega) (by have := h.w; omega))

theorem inflP_nonneg (h : SecOK n lf df r c t tip w s p) {a : Int} {d : Nat} (ha : a ≤ 2 ^ d) : 0 ≤ inflP r w s a d := by
  unfold inflP
  exact Int.ediv_nonneg (Int.mul_nonneg (by omega) (by have := h.w; omega)) (Int.le_of_lt (den_pos h d))

theorem inflP_le (h : SecOK n lf df r c t tip w s p) {a : Int} {d : Nat} (ha : 0 ≤ a) : inflP r w s a d ≤ 51200 := by
  unfold inflP
  refine Int.ediv_le_of_le_mul (den_pos h d) ?_
  have hp := two_pos d
  have h1 : (2 ^ d - a) * w ≤ 2 ^ d * 50 := by
    have h2 : (2 ^ d - a) * w ≤ 2 ^ d * w := Int.mul_le_mul_of_nonneg_right (by omega) (by have := h.w; omega)
    have h3 : (2 : Int) ^ d * w ≤ 2 ^ d * 50 := Int.mul_le_mul_of_nonneg_left h.w.2 (by omega)
    omega
  have h4 : (2 : Int) ^ d * 1 ≤ 2 ^ d * (s * r) := Int.mul_le_mul_of_nonneg_left (by have := Int.mul_pos (show 0 < s by have := h.s; omega) (show 0 < r by have := h.r; omega); omega) (by omega)
  have e1 : 1024 * (2 ^ d - a) * w = 1024 * ((2 ^ d - a) * w) := by grind
  have e2 : (2 : Int) ^ d * s * r = 2 ^ d * (s * r) := by grind
  rw [e1, e2]; omega

theorem clsP_lo (h : SecOK n lf df r c t tip w s p) (x : Int) : 0 ≤ clsP n t p x ∧ clsP n t p x < n := by
  have := h.n0
  unfold clsP; omega

theorem lf_mono (h : SecOK n lf df r c t tip w s p) {j : Nat} : ∀ {i : Nat}, i ≤ j → j < n → lf i ≤ lf j := by
  induction j with
  | zero => intro i hi _; rw [show i = 0 by omega]; exact Int.le_refl _
  | succ j ih =>
    intro i hi hj
    by_cases e : i = j + 1
    · rw [e]; exact Int.le_refl _
    · exact Int.le_trans (ih (by omega) (by omega)) (by simpa using h.lfm (j + 1) hj)

theorem par_mono {a b D : Int} (h : a ≤ b) (h2 : a + b ≤ D) : a * (D - a) ≤ b * (D - b) := by
  have := Int.mul_nonneg (show 0 ≤ b - a by omega) (show 0 ≤ D - a - b by omega)
  grind

theorem lfcls_mono (h : SecOK n lf df r c t tip w s p) {x y : Int} (hxy : x ≤ y) : lf (clsP n t p x).toNat ≤ lf (clsP n t p y).toNat := by
  have h1 := clsP_lo h x
  have h2 := clsP_lo h y
  refine lf_mono h ?_ (by omega)
  have : clsP n t p x ≤ clsP n t p y := by unfold clsP; omega
  omega

theorem balP_mono (h : SecOK n lf df r c t tip w s p) {a b : Int} {d : Nat} (hab : a ≤ b) (h2 : a + b ≤ 2 ^ d) : balP n lf r c t tip w s p a d ≤ balP n lf r c t tip w s p b d := by
  unfold balP
  have h3 := lfcls_mono h (inflP_mono h (d := d) hab)
  have h4 : 1024 * (a * (2 ^ d - a)) * r ≤ 1024 * (b * (2 ^ d - b)) * r := Int.mul_le_mul_of_nonneg_right (by have := par_mono hab h2; omega) (by have := h.r; omega)
  have hq : 0 ≤ (2 : Int) ^ d * 2 ^ d * c * tip := Int.mul_nonneg (Int.mul_nonneg (Int.mul_nonneg (Int.le_of_lt (two_pos d)) (Int.le_of_lt (two_pos d))) (by have := h.c; omega)) h.tip.1
  have h5 := Int.mul_le_mul_of_nonneg_left h3 hq
  have e1 : 1024 * a * (2 ^ d - a) * r = 1024 * (a * (2 ^ d - a)) * r := by grind
  have e2 : 1024 * b * (2 ^ d - b) * r = 1024 * (b * (2 ^ d - b)) * r := by grind
  rw [e1, e2]; omega

theorem balP_zero (h : SecOK n lf df r c t tip w s p) (d : Nat) : balP n lf r c t tip w s p 0 d ≤ 0 := by
  unfold balP
  have hc := clsP_lo h (inflP r w s 0 d)
  have hq : 0 ≤ (2 : Int) ^ d * 2 ^ d * c * tip := Int.mul_nonneg (Int.mul_nonneg (Int.mul_nonneg (Int.le_of_lt (two_pos d)) (Int.le_of_lt (two_pos d))) (by have := h.c; omega)) h.tip.1
  have := Int.mul_nonneg hq (h.lf0 (clsP n t p (inflP r w s 0 d)).toNat (by omega)).1
  simp; exact this

/-- 'a' is the bracket of the depth 'd + 1'. -/
def IsBr (f : Int → Int) (half a : Int) : Prop := 0 ≤ a ∧ a < half ∧ f a ≤ 0 ∧ 0 < f (a + 1)

theorem IsBr.uniq (h : SecOK n lf df r c t tip w s p) {d : Nat} {a b : Int} (ha : IsBr (fun a => balP n lf r c t tip w s p a (d + 1)) (2 ^ d) a) (hb : IsBr (fun a => balP n lf r c t tip w s p a (d + 1)) (2 ^ d) b) : a = b := by
  obtain ⟨a1, a2, a3, a4⟩ := ha
  obtain ⟨b1, b2, b3, b4⟩ := hb
  simp only at a3 a4 b3 b4
  have hp := Int.pow_succ (2 : Int) d
  rcases Int.lt_trichotomy a b with hl | e | hl
  · have := balP_mono h (d := d + 1) (show a + 1 ≤ b by omega) (by omega)
    omega
  · exact e
  · have := balP_mono h (d := d + 1) (show b + 1 ≤ a by omega) (by omega)
    omega

/-- One bit finer, the bracket is one of the halves. -/
theorem IsBr.finer {d : Nat} {a : Int} (ha : IsBr (fun a => balP n lf r c t tip w s p a (d + 1)) (2 ^ d) a) :
    IsBr (fun a => balP n lf r c t tip w s p a (d + 1 + 1)) (2 ^ (d + 1)) (if 0 < balP n lf r c t tip w s p (2 * a + 1) (d + 1 + 1) then 2 * a else 2 * a + 1) := by
  obtain ⟨a1, a2, a3, a4⟩ := ha
  simp only at a3 a4
  have e0 := balP_dbl n lf r c t tip w s p a (d + 1)
  have e1 := balP_dbl n lf r c t tip w s p (a + 1) (d + 1)
  rw [show 2 * (a + 1) = 2 * a + 1 + 1 by omega] at e1
  have hp := Int.pow_succ (2 : Int) d
  unfold IsBr
  simp only
  split <;> (refine ⟨by omega, by omega, by omega, ?_⟩)
  · assumption
  · omega

/-- There is a bracket exactly if the balance at 1/2 is above 0: at each depth alike. -/
theorem balP_half (d : Nat) : balP n lf r c t tip w s p (2 ^ d) (d + 1) = 4 ^ d * balP n lf r c t tip w s p 1 1 := by
  induction d with
  | zero => simp
  | succ d ih =>
    have := balP_dbl n lf r c t tip w s p (2 ^ d) (d + 1)
    rw [Int.pow_succ, Int.mul_comm (2 ^ d) 2, this, ih, Int.pow_succ]
    grind

/-! The torque at an inflow. -/
def ofP (n : Nat) (lf df : Nat → Int) (r c t tip p x : Int) : Int :=
  r * c * tip * (x * lf (clsP n t p x).toNat - 1024 * df (clsP n t p x).toNat)

theorem coef_nonneg (h : SecOK n lf df r c t tip w s p) : 0 ≤ r * c * tip :=
  Int.mul_nonneg (Int.mul_nonneg (by have := h.r; omega) (by have := h.c; omega)) h.tip.1

/-- Within a class the torque grows. -/
theorem ofP_mono (h : SecOK n lf df r c t tip w s p) {x y : Int} (hxy : x ≤ y) (hc : clsP n t p x = clsP n t p y) : ofP n lf df r c t tip p x ≤ ofP n lf df r c t tip p y := by
  unfold ofP
  rw [hc]
  have h1 := clsP_lo h y
  have h2 := Int.mul_le_mul_of_nonneg_right hxy (h.lf0 (clsP n t p y).toNat (by omega)).1
  exact Int.mul_le_mul_of_nonneg_left (by omega) (coef_nonneg h)

/-- The places that are looked at between least and most. -/
def stepsP (n : Nat) (lf df : Nat → Int) (r c t tip p least most : Int) : Nat → Int × Int
  | 0 => (min (ofP n lf df r c t tip p least) (ofP n lf df r c t tip p most), max (ofP n lf df r c t tip p least) (ofP n lf df r c t tip p most))
  | k + 1 =>
    let o := stepsP n lf df r c t tip p least most k
    let j := t + p + k - 1
    if j > least ∧ j < most then (min o.1 (ofP n lf df r c t tip p j), max o.2 (ofP n lf df r c t tip p j)) else o

variable {least most : Int}

theorem stepsP_in (hlm : least ≤ most) : ∀ k, ∃ i j, least ≤ i ∧ i ≤ most ∧ least ≤ j ∧ j ≤ most ∧ (stepsP n lf df r c t tip p least most k).1 = ofP n lf df r c t tip p i ∧ (stepsP n lf df r c t tip p least most k).2 = ofP n lf df r c t tip p j
  | 0 => by
    simp only [stepsP]
    generalize ha : ofP n lf df r c t tip p least = a
    generalize hb : ofP n lf df r c t tip p most = b
    by_cases e : a ≤ b
    · exact ⟨least, most, by omega, by omega, by omega, by omega, by omega, by omega⟩
    · exact ⟨most, least, by omega, by omega, by omega, by omega, by omega, by omega⟩
  | k + 1 => by
    obtain ⟨i, j, h1, h2, h3, h4, h5, h6⟩ := stepsP_in hlm k
    simp only [stepsP]
    split
    · rename_i hq
      generalize t + p + (k : Int) - 1 = q at hq ⊢
      obtain ⟨i', hi', e1⟩ : ∃ i', (least ≤ i' ∧ i' ≤ most) ∧ min (stepsP n lf df r c t tip p least most k).1 (ofP n lf df r c t tip p q) = ofP n lf df r c t tip p i' := by
        by_cases e : (stepsP n lf df r c t tip p least most k).1 ≤ ofP n lf df r c t tip p q
        · exact ⟨i, ⟨h1, h2⟩, by omega⟩
        · exact ⟨q, by omega, by omega⟩
      obtain ⟨j', hj', e2⟩ : ∃ j', (least ≤ j' ∧ j' ≤ most) ∧ max (stepsP n lf df r c t tip p least most k).2 (ofP n lf df r c t tip p q) = ofP n lf df r c t tip p j' := by
        by_cases e : (stepsP n lf df r c t tip p least most k).2 ≤ ofP n lf df r c t tip p q
        · exact ⟨q, by omega, by omega⟩
        · exact ⟨j, ⟨h3, h4⟩, by omega⟩
      exact ⟨i', j', hi'.1, hi'.2, hj'.1, hj'.2, e1, e2⟩
    · exact ⟨i, j, h1, h2, h3, h4, h5, h6⟩

theorem stepsP_le : ∀ k m, m ≤ k → (stepsP n lf df r c t tip p least most k).1 ≤ (stepsP n lf df r c t tip p least most m).1 ∧ (stepsP n lf df r c t tip p least most m).2 ≤ (stepsP n lf df r c t tip p least most k).2
  | 0, m, h => by rw [show m = 0 by omega]; exact ⟨Int.le_refl _, Int.le_refl _⟩
  | k + 1, m, h => by
    by_cases e : m = k + 1
    · rw [e]; exact ⟨Int.le_refl _, Int.le_refl _⟩
    · obtain ⟨h1, h2⟩ := stepsP_le k m (by omega)
      have : (stepsP n lf df r c t tip p least most (k + 1)).1 ≤ (stepsP n lf df r c t tip p least most k).1 ∧ (stepsP n lf df r c t tip p least most k).2 ≤ (stepsP n lf df r c t tip p least most (k + 1)).2 := by
        simp only [stepsP]
        split
        · simp only; omega
        · exact ⟨Int.le_refl _, Int.le_refl _⟩
      omega

/-- A place that is looked at. -/
theorem stepsP_at {k m : Nat} (hm : m < k) (h1 : least < t + p + m - 1) (h2 : t + p + m - 1 < most) :
    (stepsP n lf df r c t tip p least most k).1 ≤ ofP n lf df r c t tip p (t + p + m - 1) ∧ ofP n lf df r c t tip p (t + p + m - 1) ≤ (stepsP n lf df r c t tip p least most k).2 := by
  obtain ⟨g1, g2⟩ := stepsP_le (n := n) (lf := lf) (df := df) (r := r) (c := c) (t := t) (tip := tip) (p := p) (least := least) (most := most) k (m + 1) hm
  have : (stepsP n lf df r c t tip p least most (m + 1)).1 ≤ ofP n lf df r c t tip p (t + p + m - 1) ∧ ofP n lf df r c t tip p (t + p + m - 1) ≤ (stepsP n lf df r c t tip p least most (m + 1)).2 := by
    simp only [stepsP]
    rw [if_pos ⟨by omega, by omega⟩]
    simp only; omega
  omega

theorem stepsP_ends (k : Nat) : ∀ x, x = least ∨ x = most → (stepsP n lf df r c t tip p least most k).1 ≤ ofP n lf df r c t tip p x ∧ ofP n lf df r c t tip p x ≤ (stepsP n lf df r c t tip p least most k).2 := by
  intro x hx
  obtain ⟨g1, g2⟩ := stepsP_le (n := n) (lf := lf) (df := df) (r := r) (c := c) (t := t) (tip := tip) (p := p) (least := least) (most := most) k 0 (Nat.zero_le _)
  simp only [stepsP] at g1 g2
  rcases hx with rfl | rfl <;> omega

/-- The torques of all inflows between lie between. -/
theorem stepsP_all (h : SecOK n lf df r c t tip w s p) {x : Int} (h1 : least ≤ x) (h2 : x ≤ most) :
    (stepsP n lf df r c t tip p least most (n + 2)).1 ≤ ofP n lf df r c t tip p x ∧ ofP n lf df r c t tip p x ≤ (stepsP n lf df r c t tip p least most (n + 2)).2 := by
  have hn := h.n0
  have hl := stepsP_ends (n := n) (lf := lf) (df := df) (r := r) (c := c) (t := t) (tip := tip) (p := p) (least := least) (most := most) (n + 2) least (.inl rfl)
  have hm := stepsP_ends (n := n) (lf := lf) (df := df) (r := r) (c := c) (t := t) (tip := tip) (p := p) (least := least) (most := most) (n + 2) most (.inr rfl)
  by_cases e1 : x < t + p - 1
  · refine ⟨?_, ?_⟩
    · have := ofP_mono h h1 (by unfold clsP; omega)
      omega
    · by_cases e2 : t + p - 1 < most
      · have h3 := stepsP_at (n := n) (lf := lf) (df := df) (r := r) (c := c) (tip := tip) (t := t) (p := p) (least := least) (most := most) (k := n + 2) (m := 0) (by omega) (by omega) (by omega)
        have h4 := ofP_mono h (x := x) (y := t + p + (0 : Nat) - 1) (by omega) (by unfold clsP; omega)
        omega
      · have := ofP_mono h h2 (by unfold clsP; omega)
        omega
  · by_cases e3 : t + p + n < x
    · refine ⟨?_, ?_⟩
      · by_cases e2 : least < t + p + n
        · have h3 := stepsP_at (n := n) (lf := lf) (df := df) (r := r) (c := c) (tip := tip) (t := t) (p := p) (least := least) (most := most) (k := n + 2) (m := n + 1) (by omega) (by omega) (by omega)
          have h4 := ofP_mono h (x := t + p + ((n + 1 : Nat) : Int) - 1) (y := x) (by omega) (by unfold clsP; omega)
          omega
        · have := ofP_mono h h1 (by unfold clsP; omega)
          omega
      · have := ofP_mono h h2 (by unfold clsP; omega)
        omega
    · by_cases e4 : x = least
      · rw [e4]; exact hl
      · by_cases e5 : x = most
        · rw [e5]; exact hm
        · obtain ⟨m, hm'⟩ : ∃ m : Nat, x = t + p + m - 1 := ⟨(x - (t + p) + 1).toNat, by omega⟩
          rw [hm']
          exact stepsP_at (by omega) (by omega) (by omega)

/-- The torque of a ring at its bracket. -/
def torqueP (n : Nat) (lf df : Nat → Int) (r c t tip w s p a : Int) (d : Nat) : Int × Int :=
  stepsP n lf df r c t tip p (inflP r w s (a + 1) d) (inflP r w s a d) (n + 2)

/-- The torques of a lesser range of inflows lie within. -/
theorem torqueP_within (h : SecOK n lf df r c t tip w s p) {a a' : Int} {d d' : Nat} (h1 : inflP r w s (a + 1) d ≤ inflP r w s (a' + 1) d') (h2 : inflP r w s a' d' ≤ inflP r w s a d) :
    (torqueP n lf df r c t tip w s p a d).1 ≤ (torqueP n lf df r c t tip w s p a' d').1 ∧ (torqueP n lf df r c t tip w s p a' d').2 ≤ (torqueP n lf df r c t tip w s p a d).2 := by
  have hlm := inflP_mono h (d := d') (show a' ≤ a' + 1 by omega)
  obtain ⟨i, j, i1, i2, j1, j2, e1, e2⟩ := stepsP_in (n := n) (lf := lf) (df := df) (r := r) (c := c) (t := t) (tip := tip) (p := p) hlm (n + 2)
  have g1 := stepsP_all h (least := inflP r w s (a + 1) d) (most := inflP r w s a d) (x := i) (by omega) (by omega)
  have g2 := stepsP_all h (least := inflP r w s (a + 1) d) (most := inflP r w s a d) (x := j) (by omega) (by omega)
  unfold torqueP
  rw [e1, e2]
  omega

/-- One bracket within another: 'k' bits finer. -/
theorem inflP_shift (r w s a : Int) (d : Nat) : ∀ k : Nat, inflP r w s (2 ^ k * a) (d + k) = inflP r w s a d
  | 0 => by simp
  | k + 1 => by
    rw [show (2 : Int) ^ (k + 1) * a = 2 * (2 ^ k * a) by rw [Int.pow_succ]; grind, show d + (k + 1) = d + k + 1 by omega, inflP_dbl, inflP_shift r w s a d k]

theorem torqueP_nested (h : SecOK n lf df r c t tip w s p) {a a' : Int} {d k : Nat} (h1 : 2 ^ k * a ≤ a') (h2 : a' + 1 ≤ 2 ^ k * (a + 1)) :
    (torqueP n lf df r c t tip w s p a d).1 ≤ (torqueP n lf df r c t tip w s p a' (d + k)).1 ∧ (torqueP n lf df r c t tip w s p a' (d + k)).2 ≤ (torqueP n lf df r c t tip w s p a d).2 := by
  refine torqueP_within h ?_ ?_
  · rw [← inflP_shift r w s (a + 1) d k]; exact inflP_mono h h2
  · rw [← inflP_shift r w s a d k]; exact inflP_mono h h1

/-- The thrust. -/
def thrustP (r k : Int) (d : Nat) : Int := 1024 * k * (2 ^ d - k) * r

theorem thrustP_shift (r a : Int) (d : Nat) (k : Nat) : thrustP r (2 ^ k * a) (d + k) = 4 ^ k * thrustP r a d := by
  unfold thrustP
  rw [Int.pow_add, show (4 : Int) ^ k = 2 ^ k * 2 ^ k by rw [show (4 : Int) = 2 * 2 by decide, Int.mul_pow]]
  grind

theorem thrustP_mono {r a b : Int} {d : Nat} (hr : 0 ≤ r) (h : a ≤ b) (h2 : a + b ≤ 2 ^ d) : thrustP r a d ≤ thrustP r b d := by
  unfold thrustP
  have h4 : 1024 * (a * (2 ^ d - a)) * r ≤ 1024 * (b * (2 ^ d - b)) * r := Int.mul_le_mul_of_nonneg_right (by have := par_mono h h2; omega) hr
  have e1 : 1024 * a * (2 ^ d - a) * r = 1024 * (a * (2 ^ d - a)) * r := by grind
  have e2 : 1024 * b * (2 ^ d - b) * r = 1024 * (b * (2 ^ d - b)) * r := by grind
  rw [e1, e2]; exact h4

theorem thrustP_nested {r a a' : Int} {d k : Nat} (hr : 0 ≤ r) (h0 : a < 2 ^ d) (h1 : 2 ^ k * a ≤ a') (h2 : a' + 1 ≤ 2 ^ k * (a + 1)) :
    4 ^ k * thrustP r a (d + 1) ≤ thrustP r a' (d + 1 + k) ∧ thrustP r (a' + 1) (d + 1 + k) ≤ 4 ^ k * thrustP r (a + 1) (d + 1) := by
  rw [← thrustP_shift, ← thrustP_shift]
  have hk := two_pos k
  have e : (2 : Int) ^ (d + 1 + k) = 2 * (2 ^ k * 2 ^ d) := by rw [show d + 1 + k = k + d + 1 by omega, Int.pow_succ, Int.pow_add]; omega
  have h3 : (2 : Int) ^ k * (a + 1) ≤ 2 ^ k * 2 ^ d := Int.mul_le_mul_of_nonneg_left (by omega) (by omega)
  exact ⟨thrustP_mono hr h1 (by omega), thrustP_mono hr h2 (by omega)⟩

end Go.Proofs.YtllmejkmogepjaaGreatDoor.Ix

/-
  P2: without wraps: within the bounds of valid blades and flows what the code reckons is the plain law's word.
-/
namespace Go.Proofs.YtllmejkmogepjaaGreatDoor.Ix

theorem mulB {x y A B : Int} (h1 : 0 ≤ x) (h2 : x ≤ A) (h3 : 0 ≤ y) (h4 : y ≤ B) : 0 ≤ x * y ∧ x * y ≤ A * B := by
  refine ⟨Int.mul_nonneg h1 h3, ?_⟩
  have g1 := Int.mul_le_mul_of_nonneg_right h2 h3
  have g2 := Int.mul_le_mul_of_nonneg_left h4 (show 0 ≤ A by omega)
  omega

theorem pow_le12 {d : Nat} (h : d ≤ 12) : (2 : Int) ^ d ≤ 4096 := by
  have : d = 0 ∨ d = 1 ∨ d = 2 ∨ d = 3 ∨ d = 4 ∨ d = 5 ∨ d = 6 ∨ d = 7 ∨ d = 8 ∨ d = 9 ∨ d = 10 ∨ d = 11 ∨ d = 12 := by omega
  rcases this with h|h|h|h|h|h|h|h|h|h|h|h|h <;> subst h <;> decide

variable {n : Nat} {lf df : Nat → Int} {r c t tip w s p : Int}

theorem wholeW_eq {d : Nat} (h : d ≤ 12) : wholeW d = 2 ^ d := by
  unfold wholeW
  have h1 := two_pos d
  have h2 := pow_le12 h
  rw [show min (d : Int).toNat 64 = d by omega, Int.one_mul, w64, wrap_in] <;> omega

theorem halfW_eq {d : Nat} (h : d ≤ 12) (h1 : 1 ≤ d) : halfW d = 2 ^ (d - 1) := by
  unfold halfW
  have e : w64 ((d : Int) - 1) = ((d - 1 : Nat) : Int) := by rw [w64, wrap_in] <;> omega
  rw [e]
  exact wholeW_eq (d := d - 1) (by omega)

theorem denW_eq (h : SecOK n lf df r c t tip w s p) {d : Nat} (hd : d ≤ 12) : denW r s d = 2 ^ d * s * r := by
  unfold denW
  rw [wholeW_eq hd]
  have h1 := two_pos d
  have h2 := pow_le12 hd
  have hs := h.s
  have hr := h.r
  have b1 := mulB (x := 2 ^ d) (y := s) (A := 4096) (B := 1000) (by omega) h2 (by omega) (by omega)
  have b2 := mulB (x := 2 ^ d * s) (y := r) (A := 4096 * 1000) (B := 200) b1.1 b1.2 (by omega) (by omega)
  have e1 : w64 (2 ^ d * s) = 2 ^ d * s := by rw [w64, wrap_in] <;> omega
  rw [e1, w64, wrap_in] <;> omega

theorem inflowW_eq (h : SecOK n lf df r c t tip w s p) {a : Int} {d : Nat} (hd : d ≤ 12) (h0 : 0 ≤ a) (h1 : a ≤ 2 ^ d) : inflowW r w s a d = inflP r w s a d := by
  unfold inflowW
  rw [denW_eq h hd, wholeW_eq hd]
  have q1 := two_pos d
  have q2 := pow_le12 hd
  have hw := h.w
  have e1 : w64 (2 ^ d - a) = 2 ^ d - a := by rw [w64, wrap_in] <;> omega
  have e2 : w64 (1024 * (2 ^ d - a)) = 1024 * (2 ^ d - a) := by rw [w64, wrap_in] <;> omega
  have b1 := mulB (x := 1024 * (2 ^ d - a)) (y := w) (A := 1024 * 4096) (B := 50) (by omega) (by omega) (by omega) (by omega)
  have e3 : w64 (1024 * (2 ^ d - a) * w) = 1024 * (2 ^ d - a) * w := by rw [w64, wrap_in] <;> omega
  rw [e1, e2, e3, Int.tdiv_eq_ediv_of_nonneg b1.1]
  show w64 (inflP r w s a d) = _
  have g1 := inflP_nonneg h h1
  have g2 := inflP_le h (d := d) h0
  rw [w64, wrap_in] <;> omega

theorem minW_eq (a b : Int) : minW a b = min a b := by unfold minW; omega
theorem maxW_eq (a b : Int) : maxW a b = max a b := by unfold maxW; omega

theorem classW_eq (h : SecOK n lf df r c t tip w s p) {x : Int} (h1 : -1000000 ≤ x) (h2 : x ≤ 1000000) : classW n t p x = clsP n t p x := by
  unfold classW clsP
  have ht := h.t
  have hp := h.p
  have hn := h.n1
  have e1 : w64 (t + p) = t + p := by rw [w64, wrap_in] <;> omega
  rw [e1]
  have e2 : w64 (x - (t + p)) = x - (t + p) := by rw [w64, wrap_in] <;> omega
  have e3 : w64 ((n : Int) - 1) = n - 1 := by rw [w64, wrap_in] <;> omega
  rw [e2, e3, minW_eq, maxW_eq]

theorem infl_class (h : SecOK n lf df r c t tip w s p) {a : Int} {d : Nat} (hd : d ≤ 12) (h0 : 0 ≤ a) (h1 : a ≤ 2 ^ d) : classW n t p (inflowW r w s a d) = clsP n t p (inflP r w s a d) := by
  rw [inflowW_eq h hd h0 h1]
  have g1 := inflP_nonneg h h1
  have g2 := inflP_le h (d := d) h0
  exact classW_eq h (by omega) (by omega)

theorem balOK (h : SecOK n lf df r c t tip w s p) {a : Int} {d : Nat} (hd : d ≤ 12) (h0 : 0 ≤ a) (h1 : a ≤ 2 ^ d) : BalOK n r t w s p a d := by
  have hc := clsP_lo h (inflP r w s a d)
  refine ⟨by omega, ?_, ?_, ?_⟩
  · rw [denW_eq h hd]; have := den_pos h d; omega
  · rw [infl_class h hd h0 h1]; exact hc.1
  · rw [infl_class h hd h0 h1]; exact hc.2

theorem balanceW_eq (h : SecOK n lf df r c t tip w s p) {a : Int} {d : Nat} (hd : d ≤ 12) (h0 : 0 ≤ a) (h1 : a ≤ 2 ^ d) : balanceW n lf r c t tip w s p a d = balP n lf r c t tip w s p a d := by
  unfold balanceW balP
  rw [infl_class h hd h0 h1, wholeW_eq hd]
  have q1 := two_pos d
  have q2 := pow_le12 hd
  have hc := clsP_lo h (inflP r w s a d)
  have hl := h.lf0 (clsP n t p (inflP r w s a d)).toNat (by omega)
  have hr := h.r
  have hcc := h.c
  have htip := h.tip
  generalize lf (clsP n t p (inflP r w s a d)).toNat = l at *
  have e0 : w64 (1024 * a) = 1024 * a := by rw [w64, wrap_in] <;> omega
  have e1 : w64 (2 ^ d - a) = 2 ^ d - a := by rw [w64, wrap_in] <;> omega
  have b1 := mulB (x := 1024 * a) (y := 2 ^ d - a) (A := 1024 * 4096) (B := 4096) (by omega) (by omega) (by omega) (by omega)
  have e2 : w64 (1024 * a * (2 ^ d - a)) = 1024 * a * (2 ^ d - a) := by rw [w64, wrap_in] <;> omega
  have b2 := mulB (x := 1024 * a * (2 ^ d - a)) (y := r) (A := 1024 * 4096 * 4096) (B := 200) b1.1 b1.2 (by omega) (by omega)
  have e3 : w64 (1024 * a * (2 ^ d - a) * r) = 1024 * a * (2 ^ d - a) * r := by rw [w64, wrap_in] <;> omega
  have b3 := mulB (x := 2 ^ d) (y := 2 ^ d) (A := 4096) (B := 4096) (by omega) (by omega) (by omega) (by omega)
  have e4 : w64 ((2 : Int) ^ d * 2 ^ d) = 2 ^ d * 2 ^ d := by rw [w64, wrap_in] <;> omega
  have b4 := mulB (x := 2 ^ d * 2 ^ d) (y := c) (A := 4096 * 4096) (B := 100) b3.1 b3.2 (by omega) (by omega)
  have e5 : w64 ((2 : Int) ^ d * 2 ^ d * c) = 2 ^ d * 2 ^ d * c := by rw [w64, wrap_in] <;> omega
  have b5 := mulB (x := 2 ^ d * 2 ^ d * c) (y := tip) (A := 4096 * 4096 * 100) (B := 256) b4.1 b4.2 (by omega) (by omega)
  have e6 : w64 ((2 : Int) ^ d * 2 ^ d * c * tip) = 2 ^ d * 2 ^ d * c * tip := by rw [w64, wrap_in] <;> omega
  have b6 := mulB (x := 2 ^ d * 2 ^ d * c * tip) (y := l) (A := 4096 * 4096 * 100 * 256) (B := 1000) b5.1 b5.2 (by omega) (by omega)
  have e7 : w64 ((2 : Int) ^ d * 2 ^ d * c * tip * l) = 2 ^ d * 2 ^ d * c * tip * l := by rw [w64, wrap_in] <;> omega
  rw [e0, e1, e2, e3, e4, e5, e6, e7, w64, wrap_in] <;> omega

theorem balP_bound (h : SecOK n lf df r c t tip w s p) {a : Int} {d : Nat} (hd : d ≤ 12) (h0 : 0 ≤ a) (h1 : a ≤ 2 ^ d) : -1000000000000000 ≤ balP n lf r c t tip w s p a d ∧ balP n lf r c t tip w s p a d ≤ 1000000000000000 := by
  unfold balP
  have q1 := two_pos d
  have q2 := pow_le12 hd
  have hc := clsP_lo h (inflP r w s a d)
  have hl := h.lf0 (clsP n t p (inflP r w s a d)).toNat (by omega)
  have hr := h.r
  have hcc := h.c
  have htip := h.tip
  generalize lf (clsP n t p (inflP r w s a d)).toNat = l at *
  have b1 := mulB (x := 1024 * a) (y := 2 ^ d - a) (A := 1024 * 4096) (B := 4096) (by omega) (by omega) (by omega) (by omega)
  have b2 := mulB (x := 1024 * a * (2 ^ d - a)) (y := r) (A := 1024 * 4096 * 4096) (B := 200) b1.1 b1.2 (by omega) (by omega)
  have b3 := mulB (x := 2 ^ d) (y := 2 ^ d) (A := 4096) (B := 4096) (by omega) (by omega) (by omega) (by omega)
  have b4 := mulB (x := 2 ^ d * 2 ^ d) (y := c) (A := 4096 * 4096) (B := 100) b3.1 b3.2 (by omega) (by omega)
  have b5 := mulB (x := 2 ^ d * 2 ^ d * c) (y := tip) (A := 4096 * 4096 * 100) (B := 256) b4.1 b4.2 (by omega) (by omega)
  have b6 := mulB (x := 2 ^ d * 2 ^ d * c * tip) (y := l) (A := 4096 * 4096 * 100 * 256) (B := 1000) b5.1 b5.2 (by omega) (by omega)
  omega

theorem ofP_bound (h : SecOK n lf df r c t tip w s p) {x : Int} (h1 : -100000 ≤ x) (h2 : x ≤ 100000) : -1000000000000000 ≤ ofP n lf df r c t tip p x ∧ ofP n lf df r c t tip p x ≤ 1000000000000000 ∧ ofW n lf df r c t tip p x = ofP n lf df r c t tip p x := by
  unfold ofP ofW
  rw [classW_eq h (by omega) (by omega)]
  have hc := clsP_lo h x
  have hl := h.lf0 (clsP n t p x).toNat (by omega)
  have hd := h.df0 (clsP n t p x).toNat (by omega)
  have hr := h.r
  have hcc := h.c
  have htip := h.tip
  generalize lf (clsP n t p x).toNat = l at *
  generalize df (clsP n t p x).toNat = g at *
  have b1 := mulB (x := r) (y := c) (A := 200) (B := 100) (by omega) (by omega) (by omega) (by omega)
  have e1 : w64 (r * c) = r * c := by rw [w64, wrap_in] <;> omega
  have b2 := mulB (x := r * c) (y := tip) (A := 200 * 100) (B := 256) b1.1 b1.2 (by omega) (by omega)
  have e2 : w64 (r * c * tip) = r * c * tip := by rw [w64, wrap_in] <;> omega
  have b3 : -(100000 * 1000) ≤ x * l ∧ x * l ≤ 100000 * 1000 := by
    by_cases hx : 0 ≤ x
    · have := mulB (x := x) (y := l) (A := 100000) (B := 1000) hx h2 (by omega) (by omega); omega
    · have := mulB (x := -x) (y := l) (A := 100000) (B := 1000) (by omega) (by omega) (by omega) (by omega)
      rw [Int.neg_mul] at this; omega
  have e3 : w64 (x * l) = x * l := by rw [w64, wrap_in] <;> omega
  have e4 : w64 (1024 * g) = 1024 * g := by rw [w64, wrap_in] <;> omega
  have e5 : w64 (x * l - 1024 * g) = x * l - 1024 * g := by rw [w64, wrap_in] <;> omega
  rw [e1, e2, e3, e4, e5]
  have hy : -110000000 ≤ x * l - 1024 * g ∧ x * l - 1024 * g ≤ 110000000 := by omega
  generalize r * c * tip = q at *
  generalize x * l - 1024 * g = y at *
  have b6 : -(5120000 * 110000000) ≤ q * y ∧ q * y ≤ 5120000 * 110000000 := by
    by_cases hx : 0 ≤ y
    · have := mulB (x := q) (y := y) (A := 5120000) (B := 110000000) b2.1 (by omega) hx (by omega); omega
    · have := mulB (x := q) (y := -y) (A := 5120000) (B := 110000000) b2.1 (by omega) (by omega) (by omega)
      rw [Int.mul_neg] at this; omega
  refine ⟨by omega, by omega, ?_⟩
  rw [w64, wrap_in] <;> omega

theorem thrustP_bound (h : SecOK n lf df r c t tip w s p) {a : Int} {d : Nat} (hd : d ≤ 12) (h0 : 0 ≤ a) (h1 : a ≤ 2 ^ d) : 0 ≤ thrustP r a d ∧ thrustP r a d ≤ 1000000000000000 ∧ w64 (w64 (w64 (1024 * a) * w64 (wholeW d - a)) * r) = thrustP r a d := by
  unfold thrustP
  rw [wholeW_eq hd]
  have q1 := two_pos d
  have q2 := pow_le12 hd
  have hr := h.r
  have e0 : w64 (1024 * a) = 1024 * a := by rw [w64, wrap_in] <;> omega
  have e1 : w64 (2 ^ d - a) = 2 ^ d - a := by rw [w64, wrap_in] <;> omega
  have b1 := mulB (x := 1024 * a) (y := 2 ^ d - a) (A := 1024 * 4096) (B := 4096) (by omega) (by omega) (by omega) (by omega)
  have e2 : w64 (1024 * a * (2 ^ d - a)) = 1024 * a * (2 ^ d - a) := by rw [w64, wrap_in] <;> omega
  have b2 := mulB (x := 1024 * a * (2 ^ d - a)) (y := r) (A := 1024 * 4096 * 4096) (B := 200) b1.1 b1.2 (by omega) (by omega)
  rw [e0, e1, e2]
  refine ⟨b2.1, by omega, ?_⟩
  rw [w64, wrap_in] <;> omega

/-! The search. -/
theorem searchS_br (f : Int → Int) : ∀ (m : Nat) (lo hi : Int), lo < hi → hi - lo ≤ m → f lo ≤ 0 → 0 < f hi →
    lo ≤ searchS f m lo hi ∧ searchS f m lo hi < hi ∧ f (searchS f m lo hi) ≤ 0 ∧ 0 < f (searchS f m lo hi + 1)
  | 0, lo, hi, h1, h2, _, _ => by omega
  | m + 1, lo, hi, h1, h2, h3, h4 => by
    simp only [searchS]
    by_cases e : hi - lo > 1
    · rw [decide_eq_true e, cond_true]
      by_cases e2 : f ((lo + hi) / 2) ≤ 0
      · rw [decide_eq_true e2, cond_true]
        have := searchS_br f m ((lo + hi) / 2) hi (by omega) (by omega) e2 h4
        exact ⟨by omega, this.2⟩
      · rw [decide_eq_false e2, cond_false]
        have := searchS_br f m lo ((lo + hi) / 2) (by omega) (by omega) h3 (by omega)
        exact ⟨this.1, by omega, this.2.2⟩
    · rw [decide_eq_false e, cond_false]
      exact ⟨Int.le_refl _, h1, h3, by rw [show lo + 1 = hi by omega]; exact h4⟩

theorem searchS_congr {f g : Int → Int} : ∀ (m : Nat) (lo hi : Int), (∀ a, lo ≤ a → a ≤ hi → f a = g a) → searchS f m lo hi = searchS g m lo hi
  | 0, lo, hi, _ => rfl
  | m + 1, lo, hi, h => by
    simp only [searchS]
    by_cases e : hi - lo > 1
    · rw [decide_eq_true e, cond_true, cond_true, h ((lo + hi) / 2) (by omega) (by omega)]
      rw [searchS_congr m _ hi (fun a h1 h2 => h a (by omega) h2), searchS_congr m lo _ (fun a h1 h2 => h a h1 (by omega))]
    · rw [decide_eq_false e, cond_false, cond_false]

/-- The bracket at the depth 'd + 1', if there is one. -/
def brP (n : Nat) (lf : Nat → Int) (r c t tip w s p : Int) (d : Nat) : Option Int := findS (fun a => balP n lf r c t tip w s p a (d + 1)) (2 ^ d)

theorem brP_some (h : SecOK n lf df r c t tip w s p) {d : Nat} {a : Int} : brP n lf r c t tip w s p d = some a ↔ IsBr (fun a => balP n lf r c t tip w s p a (d + 1)) (2 ^ d) a := by
  have key : 0 < balP n lf r c t tip w s p (2 ^ d) (d + 1) → IsBr (fun a => balP n lf r c t tip w s p a (d + 1)) (2 ^ d) (searchS (fun a => balP n lf r c t tip w s p a (d + 1)) (2 ^ d : Int).toNat 0 (2 ^ d)) := by
    intro hp
    exact searchS_br (fun a => balP n lf r c t tip w s p a (d + 1)) _ 0 (2 ^ d) (two_pos d) (by have := two_pos d; omega) (balP_zero h _) hp
  constructor
  · intro hb
    unfold brP findS at hb
    by_cases e : balP n lf r c t tip w s p (2 ^ d) (d + 1) ≤ 0
    · simp [e] at hb
    · simp [e] at hb
      rw [← hb]; exact key (by omega)
  · intro hb
    have hp : 0 < balP n lf r c t tip w s p (2 ^ d) (d + 1) := by
      have := balP_mono h (a := a + 1) (b := 2 ^ d) (d := d + 1) (by have := hb.2.1; omega) (by have := hb.2.1; rw [Int.pow_succ]; omega)
      have := hb.2.2.2
      simp only at this; omega
    unfold brP findS
    have e : ¬ balP n lf r c t tip w s p (2 ^ d) (d + 1) ≤ 0 := by omega
    simp only [e, decide_false, cond_false]
    rw [(key hp).uniq h hb]

theorem brP_none {d : Nat} : brP n lf r c t tip w s p d = none ↔ balP n lf r c t tip w s p 1 1 ≤ 0 := by
  unfold brP findS
  simp only [balP_half]
  have : (0 : Int) < 4 ^ d := Int.pow_pos (by decide)
  have h1 : 4 ^ d * balP n lf r c t tip w s p 1 1 ≤ 0 ↔ balP n lf r c t tip w s p 1 1 ≤ 0 := by
    constructor
    · intro hq
      by_cases e : 0 < balP n lf r c t tip w s p 1 1
      · have := Int.mul_pos this e; omega
      · omega
    · intro hq
      have := Int.mul_nonneg (show (0 : Int) ≤ 4 ^ d by omega) (show 0 ≤ - balP n lf r c t tip w s p 1 1 by omega)
      rw [Int.mul_neg] at this; omega
  by_cases e : 4 ^ d * balP n lf r c t tip w s p 1 1 ≤ 0
  · simp [e, h1.1 e]
  · have e' : ¬ balP n lf r c t tip w s p 1 1 ≤ 0 := fun q => e (h1.2 q)
    simp [e, e']

/-- Brackets of two depths, one within the other. -/
theorem brP_deep (h : SecOK n lf df r c t tip w s p) {d : Nat} {a : Int} (ha : brP n lf r c t tip w s p d = some a) : ∀ k : Nat, ∃ a', brP n lf r c t tip w s p (d + k) = some a' ∧ 2 ^ k * a ≤ a' ∧ a' + 1 ≤ 2 ^ k * (a + 1)
  | 0 => ⟨a, ha, by simp, by simp⟩
  | k + 1 => by
    obtain ⟨a', h1, h2, h3⟩ := brP_deep h ha k
    have := ((brP_some h).1 h1).finer
    refine ⟨_, (brP_some h).2 this, ?_, ?_⟩
    · rw [Int.pow_succ]; split <;> grind
    · rw [Int.pow_succ]; split <;> grind

end Go.Proofs.YtllmejkmogepjaaGreatDoor.Ix

/-
  P3: the errors of polars, rings, blades, flows, told once for the program and for its reference; and what a valid blade has.
-/
namespace Go.Proofs.YtllmejkmogepjaaGreatDoor.Ix

def orE (a b : Int) : Int := bif a != 0 then a else b

theorem orE_zero {a b : Int} : orE a b = 0 ↔ a = 0 ∧ b = 0 := by
  unfold orE
  by_cases h : a = 0
  · simp [h]
  · have : (a != 0) = true := by simpa using h
    simp [this, h]
theorem orE_right (a : Int) : orE a 0 = a := by
  unfold orE
  by_cases h : a = 0
  · simp [h]
  · have : (a != 0) = true := by simpa using h
    simp [this]
theorem orE_assoc (a b c : Int) : orE (orE a b) c = orE a (orE b c) := by
  unfold orE
  by_cases h : a = 0
  · simp [h]
  · have : (a != 0) = true := by simpa using h
    simp [this]

theorem firstS_zero (f : Nat → Int) : ∀ (n i : Nat), firstS f n i = 0 ↔ ∀ j, i ≤ j → j < i + n → f j = 0
  | 0, i => by simp [firstS]; intro j h1 h2; omega
  | n + 1, i => by
    have ih := firstS_zero f n (i + 1)
    show orE (f i) (firstS f n (i + 1)) = 0 ↔ _
    rw [orE_zero, ih]
    constructor
    · rintro ⟨h1, h2⟩ j g1 g2
      by_cases e : j = i
      · rw [e]; exact h1
      · exact h2 j (by omega) (by omega)
    · intro h
      exact ⟨h i (by omega) (by omega), fun j g1 g2 => h j (by omega) (by omega)⟩

theorem firstS_congr {f g : Nat → Int} : ∀ (n i : Nat), (∀ j, i ≤ j → j < i + n → f j = g j) → firstS f n i = firstS g n i
  | 0, _, _ => rfl
  | n + 1, i, h => by
    simp only [firstS]
    rw [h i (by omega) (by omega), firstS_congr n (i + 1) (fun j h1 h2 => h j (by omega) (by omega))]

theorem firstS_step (f : Nat → Int) (n i : Nat) : firstS f (n + 1) i = orE (f i) (firstS f n (i + 1)) := rfl

theorem withinS_zero {n lo hi : Int} : withinS n lo hi = 0 ↔ lo ≤ n ∧ n ≤ hi := by
  unfold withinS
  by_cases h1 : n < lo
  · simp [h1]; (try omega)
  · by_cases h2 : n > hi
    · simp [h2]; (try omega)
    · simp [h1, h2]; (try omega)

theorem bif_zero {b : Bool} {e : Int} (he : e ≠ 0) : (bif b then e else 0) = 0 ↔ b = false := by
  cases b <;> simp [he]

def polarS (nl : Nat) (lf : Nat → Int) (nd : Nat) (df : Nat → Int) : Int :=
  orE (bif (nl : Int) == 0 then 12 else 0) (orE (bif decide ((nl : Int) > 32) then 5 else 0) (orE (bif (nd : Int) != nl then 2 else 0)
    (orE (firstS (fun i => orE (withinS (lf i) 0 1000) (bif decide (lf i < lf (i - 1)) then 11 else 0)) nl 0) (firstS (fun i => withinS (df i) 0 1000) nd 0))))
def ringS (r c t tip : Int) : Int := orE (withinS r 1 200) (orE (withinS c 1 100) (orE (withinS t (-64) 64) (withinS tip 0 256)))
def ringAt (r1 r2 r3 r4 : Nat → Int) (i : Nat) : Int := orE (ringS (r1 i) (r2 i) (r3 i) (r4 i)) (bif decide (0 < i) && decide (r1 i ≤ r1 (i - 1)) then 11 else 0)
def bladeS (nl : Nat) (lf : Nat → Int) (nd : Nat) (df : Nat → Int) (nr : Nat) (r1 r2 r3 r4 : Nat → Int) : Int :=
  orE (polarS nl lf nd df) (orE (bif (nr : Int) == 0 then 12 else 0) (orE (bif decide ((nr : Int) > 16) then 5 else 0) (firstS (ringAt r1 r2 r3 r4) nr 0)))
def flowS (w s p : Int) : Int := orE (withinS w 1 50) (orE (withinS s 1 1000) (withinS p (-64) 64))

variable {nl nd nr : Nat} {lf df r1 r2 r3 r4 : Nat → Int} {w s p : Int}

theorem bladeS_ok (hb : bladeS nl lf nd df nr r1 r2 r3 r4 = 0) (hf : flowS w s p = 0) :
    nd = nl ∧ 1 ≤ nr ∧ nr ≤ 16 ∧ ∀ i, i < nr → SecOK nl lf df (r1 i) (r2 i) (r3 i) (r4 i) w s p := by
  simp only [bladeS, polarS, flowS, orE_zero, firstS_zero, withinS_zero, ringAt, ringS] at hb hf
  obtain ⟨⟨h1, h2, h3, h4, h5⟩, h6, h7, h8⟩ := hb
  rw [bif_zero (by decide)] at h1 h2 h3 h6 h7
  simp at h1 h2 h3 h6 h7
  refine ⟨by omega, by omega, by omega, fun i hi => ?_⟩
  have h3' : nd = nl := by omega
  have h9 := h8 i (by omega) (by omega)
  refine ⟨by omega, by omega, fun j hj => (h4 j (by omega) (by omega)).1, fun j hj => ?_, fun j hj => h5 j (by omega) (by omega), h9.1.1, h9.1.2.1, h9.1.2.2.1, h9.1.2.2.2, hf.1, hf.2.1, hf.2.2⟩
  have := (h4 j (by omega) (by omega)).2
  rw [bif_zero (by decide)] at this
  simp at this; omega

end Go.Proofs.YtllmejkmogepjaaGreatDoor.Ix

/-
  P4: a blade, a flow as one thing each; the errors of rings, inductions, depths; brackets, torques, thrusts of a ring.
-/
namespace Go.Proofs.YtllmejkmogepjaaGreatDoor.Ix

structure Bl where
  nl : Nat
  nd : Nat
  nr : Nat
  lf : Nat → Int
  df : Nat → Int
  r1 : Nat → Int
  r2 : Nat → Int
  r3 : Nat → Int
  r4 : Nat → Int
structure Fl where
  w : Int
  s : Int
  p : Int

/-- A blade's cells, a flow's cells. -/
abbrev bladeI (nl nd nr : Nat) (lf df r1 r2 r3 r4 : Nat → Int) : IV :=
  .agg [.lst none 1 nl fun i => [.int .i64 (lf i)], .lst none 1 nd fun i => [.int .i64 (df i)], .lst none 4 nr fun i => [.int .i64 (r1 i), .int .i64 (r2 i), .int .i64 (r3 i), .int .i64 (r4 i)]]
abbrev flowI (w s p : Int) : IV := .agg [.int .i64 w, .int .i64 s, .int .i64 p]
abbrev Bl.iv (b : Bl) : IV := bladeI b.nl b.nd b.nr b.lf b.df b.r1 b.r2 b.r3 b.r4
abbrev Fl.iv (f : Fl) : IV := flowI f.w f.s f.p
def Bl.err (b : Bl) : Int := bladeS b.nl b.lf b.nd b.df b.nr b.r1 b.r2 b.r3 b.r4
def Fl.err (f : Fl) : Int := flowS f.w f.s f.p
def Bl.ok (b : Bl) (f : Fl) (i : Nat) : Prop := SecOK b.nl b.lf b.df (b.r1 i) (b.r2 i) (b.r3 i) (b.r4 i) f.w f.s f.p
def Bl.bal (b : Bl) (f : Fl) (i : Nat) (a : Int) (d : Nat) : Int := balP b.nl b.lf (b.r1 i) (b.r2 i) (b.r3 i) (b.r4 i) f.w f.s f.p a d
def Bl.br (b : Bl) (f : Fl) (i : Nat) (d : Nat) : Option Int := brP b.nl b.lf (b.r1 i) (b.r2 i) (b.r3 i) (b.r4 i) f.w f.s f.p d
def Bl.tor (b : Bl) (f : Fl) (i : Nat) (a : Int) (d : Nat) : Int × Int := torqueP b.nl b.lf b.df (b.r1 i) (b.r2 i) (b.r3 i) (b.r4 i) f.w f.s f.p a d
def Bl.thr (b : Bl) (i : Nat) (a : Int) (d : Nat) : Int × Int := (thrustP (b.r1 i) a d, thrustP (b.r1 i) (a + 1) d)

theorem Bl.good {b : Bl} {f : Fl} (hb : b.err = 0) (hf : f.err = 0) : b.nd = b.nl ∧ 1 ≤ b.nr ∧ b.nr ≤ 16 ∧ ∀ i, i < b.nr → b.ok f i := bladeS_ok hb hf

def ringErr (b : Bl) (f : Fl) (ring : Int) : Int := orE b.err (orE f.err (bif decide (ring < 0) || decide (ring ≥ b.nr) then 10 else 0))
def indErr (a d : Int) : Int := orE (withinS d 1 12) (withinS a 0 (2 ^ (d - 1).toNat))
def allErr (b : Bl) (f : Fl) (d : Int) : Int := orE b.err (orE f.err (withinS d 1 12))

theorem ringErr_ok {b : Bl} {f : Fl} {ring : Int} (h : ringErr b f ring = 0) : b.err = 0 ∧ f.err = 0 ∧ 0 ≤ ring ∧ ring < b.nr := by
  unfold ringErr at h
  simp only [orE_zero] at h
  rw [bif_zero (by decide)] at h
  simp at h
  exact ⟨h.1, h.2.1, by omega, by omega⟩

theorem indErr_ok {a d : Int} (h : indErr a d = 0) : ∃ n : Nat, d = (n + 1 : Nat) ∧ n < 12 ∧ 0 ≤ a ∧ a ≤ 2 ^ n := by
  unfold indErr at h
  simp only [orE_zero, withinS_zero] at h
  obtain ⟨⟨h1, h2⟩, h3, h4⟩ := h
  refine ⟨(d - 1).toNat, by omega, by omega, h3, h4⟩

/-- The balance of a ring at an induction, or the error. -/
def balR (b : Bl) (f : Fl) (ring a d : Int) : IV :=
  let e := orE (ringErr b f ring) (indErr a d)
  .tup [.int .i64 (bif e != 0 then 0 else b.bal f ring.toNat a d.toNat), .int .i64 e]

/-- The bracket of a ring at a depth, or the error. -/
def findR (b : Bl) (f : Fl) (ring d : Int) : IV :=
  let e := orE (ringErr b f ring) (withinS d 1 12)
  bif e != 0 then .tup [.agg [.int .i64 0, .int .i64 0], .int .i64 e] else
    match b.br f ring.toNat (d - 1).toNat with
    | none => .tup [.agg [.int .i64 0, .int .i64 0], .int .i64 7]
    | some a => .tup [.agg [.int .i64 a, .int .i64 d], .int .i64 0]

def isBr (b : Bl) (f : Fl) (i : Nat) (a : Int) (d : Nat) : Bool := decide (a < 2 ^ (d - 1)) && (decide (b.bal f i a d ≤ 0) && decide (b.bal f i (a + 1) d > 0))

def brErr (b : Bl) (f : Fl) (ring a d : Int) : Int :=
  orE (orE (ringErr b f ring) (indErr a d)) (bif !(isBr b f ring.toNat a d.toNat) then 22 else 0)

/-- One bit finer, or the error. -/
def refineR (b : Bl) (f : Fl) (ring a d : Int) : IV :=
  let e := orE (brErr b f ring a d) (bif d == 12 then 23 else 0)
  bif e != 0 then .tup [.agg [.int .i64 0, .int .i64 0], .int .i64 e] else
    bif isBr b f ring.toNat (2 * a) (d.toNat + 1) then .tup [.agg [.int .i64 (2 * a), .int .i64 (d + 1)], .int .i64 0] else .tup [.agg [.int .i64 (2 * a + 1), .int .i64 (d + 1)], .int .i64 0]

theorem pow_half {d : Nat} (h : 1 ≤ d) : (2 : Int) ^ d = 2 * 2 ^ (d - 1) := by
  obtain ⟨m, rfl⟩ : ∃ m, d = m + 1 := ⟨d - 1, by omega⟩
  rw [Int.pow_succ]; simp; omega

end Go.Proofs.YtllmejkmogepjaaGreatDoor.Ix

/-
  Ro1: contracts of the functions of the package rotor, the first part: checks, sections, balance, search, the torque at an inflow.
-/
namespace Go.Proofs.YtllmejkmogepjaaGreatDoor.Ix
open Go.Proofs
set_option maxRecDepth 100000
set_option linter.unusedVariables false
set_option linter.unusedSimpArgs false

noncomputable abbrev Γs (gl : Nat → IV) : Env := ⟨prog, T, gl, 0, Vis prog gl, none, none⟩
noncomputable abbrev Cs (gl : Nat → IV) : Con := Comp prog gl
variable {gl : Nat → IV}

theorem mk {g : Nat} {fn : Func} {c : Code} {up up2 : List Ces} {args : List IV} {rv : IV} (hf : prog.funcs[g]? = some fn) (hb : fn.body = some c) (hn : (fn.name == "runtime.NumGoroutine") = false)
    (h : ibody (Cs gl) (Γs gl) fn up args (fun r up' => r = rv ∧ up' = up2)) : Comp prog gl g up args rv up2 :=
  comp_of_body (Γ := Γs gl) mixed0 tok0 (fun _ _ _ _ _ h => h) (fun _ _ _ _ h => h) hf hb hn h

theorem c_when (up : List Ces) (b : Bool) (e : Int) : Cs gl n_rotor_when up [.bool b, .int .i64 e] (.int .i64 (bif b then e else 0)) up := by
  refine mk h_rotor_when rfl rfl ?_
  cases b <;> (conv => whnf) <;> exact ⟨rfl, rfl⟩

theorem c_within (up : List Ces) (n lo hi : Int) : Cs gl n_rotor_within up [.int .i64 n, .int .i64 lo, .int .i64 hi] (.int .i64 (withinS n lo hi)) up := by
  refine mk h_rotor_within rfl rfl ?_
  conv => whnf
  split
  · rename_i h1
    conv => whnf
    refine .mk _ _ _ _ _ (leL_refl _) (c_when _ _ _) rfl ?_
    conv => whnf
    simp [withinS, h1]
  · rename_i h1
    conv => whnf
    refine .mk _ _ _ _ _ (leL_refl _) (c_when _ _ _) rfl ?_
    conv => whnf
    simp [withinS, h1]

theorem c_checkDepth (up : List Ces) (n : Int) : Cs gl n_rotor_checkDepth up [.int .i64 n] (.int .i64 (withinS n 1 12)) up := by
  refine mk h_rotor_checkDepth rfl rfl ?_
  conv => whnf
  refine .mk _ _ _ _ _ (leL_refl _) (c_within _ _ _ _) rfl ?_
  conv => whnf
  exact ⟨rfl, rfl⟩

theorem c_first (up : List Ces) (n : Nat) (hn : n ≤ 4611686018427387904) (f : Nat → Int) : Cs gl n_rotor_first up [.lst none 1 n fun i => [.int .i64 (f i)]] (.int .i64 (firstS f n 0)) up := by
  refine mk h_rotor_first rfl rfl ?_
  conv => whnf
  refine .mk (α := {i : Nat // i ≤ n ∧ firstS f n 0 = firstS f (n - i) i}) (fun i => ⟨[(7, .int .i64 i.1), (6, .int .i64 n), (5, .lst none 1 n fun i => [.int .i64 (f i)])], [], up⟩) (fun i => n - i.1) ⟨0, Nat.zero_le _, rfl⟩ ⟨?_, trivial, rfl, rfl⟩ ?_
  · exact ⟨leV_refl _, leV_refl _, leV_refl _, trivial⟩
  · rintro ⟨i, hi, hf⟩
    conv => whnf
    split
    · rename_i hb
      have hlt : i < n := by simpa using hb
      have hstep : firstS f (n - i) i = bif f i != 0 then f i else firstS f (n - (i + 1)) (i + 1) := by
        rw [show n - i = (n - (i + 1)) + 1 by omega]; rfl
      conv => whnf
      split
      · conv => whnf
        split
        · rename_i h2
          conv => whnf
          refine ⟨?_, rfl⟩
          have h2' : (f i != 0) = true := h2
          show IV.int .i64 (f i) = .int .i64 (firstS f n 0)
          rw [hf, hstep, h2']; rfl
        · rename_i h2
          have h2' : (f i != 0) = false := h2
          conv => whnf
          refine ⟨⟨i + 1, hlt, by rw [hf, hstep, h2']; rfl⟩, ⟨?_, trivial, rfl, rfl⟩, ?_⟩
          · have hw : IntKind.i64.wrap ((i : Int) + 1) = ((i + 1 : Nat) : Int) := by
              rw [wrap_in] <;> omega
            exact ⟨leV_int hw, leV_refl _, leV_refl _, trivial⟩
          · show n - (i + 1) < n - i
            omega
      · rename_i h2; rw [hb] at h2; cases h2
    · rename_i hb
      have : i = n := by simp at hb; omega
      conv => whnf
      refine ⟨?_, rfl⟩
      show IV.int .i64 0 = .int .i64 (firstS f n 0)
      rw [hf, this, Nat.sub_self]; rfl

theorem c_first3 (up : List Ces) (a b c : Int) : Cs gl n_rotor_first up [.lst none 1 3 fun i => [.int .i64 ([a, b, c].getD i 0)]] (.int .i64 (bif a != 0 then a else bif b != 0 then b else bif c != 0 then c else 0)) up := c_first up 3 (by decide) fun i => [a, b, c].getD i 0
theorem c_CheckFlow (up : List Ces) (w s p : Int) : Cs gl n_rotor_CheckFlow up [.agg [.int .i64 w, .int .i64 s, .int .i64 p]] (.int .i64 (bif withinS w 1 50 != 0 then withinS w 1 50 else bif withinS s 1 1000 != 0 then withinS s 1 1000 else bif withinS p (-64) 64 != 0 then withinS p (-64) 64 else 0)) up := by
  refine mk h_rotor_CheckFlow rfl rfl ?_
  conv => whnf
  refine .mk 11 (by kernel_rfl) ?_
  conv => whnf
  refine .mk _ _ _ (leL_refl _) (c_within _ _ _ _) rfl ?_
  conv => whnf
  refine .mk _ _ _ (leL_refl _) (c_within _ _ _ _) rfl ?_
  conv => whnf
  refine .mk _ _ _ (leL_refl _) (c_within _ _ _ _) rfl ?_
  conv => whnf
  refine .mk _ _ _ ?_ (c_first3 _ (withinS w 1 50) (withinS s 1 1000) (withinS p (-64) 64)) rfl ?_
  · exact ⟨⟨.inl rfl, rfl, rfl, fun i hi => by
      match i, hi with
      | 0, _ => rfl
      | 1, _ => rfl
      | 2, _ => rfl⟩, trivial⟩
  conv => whnf
  exact ⟨rfl, rfl⟩

theorem c_next (up : List Ces) (a d : Int) : Cs gl n_rotor_Induction_next up [.agg [.int .i64 a, .int .i64 d]] (.agg [.int .i64 (w64 (a + 1)), .int .i64 d]) up := by
  refine mk h_rotor_Induction_next rfl rfl ?_
  conv => whnf
  exact ⟨rfl, rfl⟩

theorem c_shift (up : List Ces) (nl nd : Nat) (lf df : Nat → Int) (r c t tip w s p : Int) : Cs gl n_rotor_section_shift up [secI nl nd lf df r c t tip w s p] (.int .i64 (w64 (t + p))) up := by
  refine mk h_rotor_section_shift rfl rfl ?_
  conv => whnf
  exact ⟨rfl, rfl⟩

theorem c_class (up : List Ces) (nl nd : Nat) (lf df : Nat → Int) (r c t tip w s p x : Int) : Cs gl n_rotor_section_class up [secI nl nd lf df r c t tip w s p, .int .i64 x]
    (.int .i64 (minW (maxW 0 (w64 (x - w64 (t + p)))) (w64 (nl - 1)))) up := by
  refine mk h_rotor_section_class rfl rfl ?_
  conv => whnf
  refine .mk 11 (by kernel_rfl) ?_
  conv => whnf
  refine .mk _ _ _ (leL_refl _) (c_shift _ _ _ _ _ _ _ _ _ _ _ _) rfl ?_
  conv => whnf
  exact ⟨rfl, rfl⟩

theorem c_inflow (up : List Ces) (nl nd : Nat) (lf df : Nat → Int) (r c t tip w s p a d : Int) (h1 : 0 ≤ d) (h2 : denW r s d ≠ 0) : Cs gl n_rotor_section_inflow up [secI nl nd lf df r c t tip w s p, .agg [.int .i64 a, .int .i64 d]]
    (.int .i64 (inflowW r w s a d)) up := by
  refine mk h_rotor_section_inflow rfl rfl ?_
  conv => whnf
  split
  · conv => whnf
    split
    · conv => whnf
      exact ⟨rfl, rfl⟩
    · rename_i h
      have h' : (denW r s d != 0) = false := h
      exact absurd (by simpa using h') h2
  · rename_i h; simp at h; omega

theorem c_balance (up : List Ces) (nl nd : Nat) (lf df : Nat → Int) (r c t tip w s p a d : Int) (h1 : 0 ≤ d) (h2 : denW r s d ≠ 0)
    (h3 : 0 ≤ classW nl t p (inflowW r w s a d)) (h4 : classW nl t p (inflowW r w s a d) < nl) :
    Cs gl n_rotor_section_balance up [secI nl nd lf df r c t tip w s p, .agg [.int .i64 a, .int .i64 d]] (.int .i64 (balanceW nl lf r c t tip w s p a d)) up := by
  refine mk h_rotor_section_balance rfl rfl ?_
  conv => whnf
  split
  · conv => whnf
    refine .mk 10 (by kernel_rfl) ?_
    conv => whnf
    refine .mk _ _ _ (leL_refl _) (c_inflow _ _ _ _ _ _ _ _ _ _ _ _ _ _ h1 h2) rfl ?_
    conv => whnf
    refine .mk _ _ _ (leL_refl _) (c_class _ _ _ _ _ _ _ _ _ _ _ _ _) rfl ?_
    conv => whnf
    split
    · conv => whnf
      split
      · conv => whnf
        exact ⟨rfl, rfl⟩
      · rename_i h
        have h' : decide (classW nl t p (inflowW r w s a d) < (nl : Int)) = false := h
        simp at h'; omega
    · rename_i h
      have h' : decide (0 ≤ classW nl t p (inflowW r w s a d)) = false := h
      simp at h'; omega
  · rename_i h; simp at h; omega

theorem c_brackets (up : List Ces) (nl nd : Nat) (lf df : Nat → Int) (r c t tip w s p a d : Int) (h1 : 0 ≤ w64 (d - 1)) (o1 : BalOK nl r t w s p a d) (o2 : BalOK nl r t w s p (w64 (a + 1)) d) :
    Cs gl n_rotor_section_brackets up [secI nl nd lf df r c t tip w s p, .agg [.int .i64 a, .int .i64 d]] (.bool (bracketsW nl lf r c t tip w s p a d)) up := by
  refine mk h_rotor_section_brackets rfl rfl ?_
  conv => whnf
  refine .mk 20 (by kernel_rfl) ?_
  conv => whnf
  split
  · conv => whnf
    split
    · rename_i q1
      have q1' : decide (a < halfW d) = true := q1
      conv => whnf
      refine .mk _ _ _ (leL_refl _) (c_balance _ _ _ _ _ _ _ _ _ _ _ _ _ _ o1.d0 o1.den o1.lo o1.hi) rfl ?_
      conv => whnf
      split
      · rename_i q2
        have q2' : decide (balanceW nl lf r c t tip w s p a d ≤ 0) = true := q2
        conv => whnf
        refine .mk _ _ _ (leL_refl _) (c_next _ _ _) rfl ?_
        conv => whnf
        refine .mk _ _ _ (leL_refl _) (c_balance _ _ _ _ _ _ _ _ _ _ _ _ _ _ o2.d0 o2.den o2.lo o2.hi) rfl ?_
        conv => whnf
        refine ⟨?_, rfl⟩
        show IV.bool (decide (balanceW nl lf r c t tip w s p (w64 (a + 1)) d > 0)) = _
        simp only [bracketsW, q1', q2', Bool.true_and]
      · rename_i q2
        have q2' : decide (balanceW nl lf r c t tip w s p a d ≤ 0) = false := q2
        conv => whnf
        refine ⟨?_, rfl⟩
        simp only [bracketsW, q2', Bool.false_and, Bool.and_false]
    · rename_i q1
      have q1' : decide (a < halfW d) = false := q1
      conv => whnf
      refine ⟨?_, rfl⟩
      simp only [bracketsW, q1', Bool.false_and]
  · rename_i h
    have h' : decide (0 ≤ w64 (d - 1)) = false := h
    simp at h'; omega

theorem c_find (up : List Ces) (nl nd : Nat) (lf df : Nat → Int) (r c t tip w s p d half : Int) (h1 : 0 ≤ w64 (d - 1)) (hh : halfW d = half) (hb : 0 ≤ half ∧ half ≤ 4096) (ok : ∀ a, 0 ≤ a → a ≤ half → BalOK nl r t w s p a d) (rv : IV)
    (hr : rv = match findS (fun a => balanceW nl lf r c t tip w s p a d) half with | none => .tup [.agg [.int .i64 0, .int .i64 0], .bool false] | some a => .tup [.agg [.int .i64 a, .int .i64 d], .bool true]) :
    Cs gl n_rotor_section_find up [secI nl nd lf df r c t tip w s p, .int .i64 d] rv up := by
  refine mk h_rotor_section_find rfl rfl ?_
  conv => whnf
  refine .mk 10 (by kernel_rfl) ?_
  conv => whnf
  split
  · conv => whnf
    have o := ok half hb.1 (Int.le_refl _)
    have o' : BalOK nl r t w s p (halfW d) d := hh ▸ o
    refine .mk _ _ _ _ _ (leL_refl _) (c_balance _ _ _ _ _ _ _ _ _ _ _ _ _ _ o'.d0 o'.den o'.lo o'.hi) rfl ?_
    conv => whnf
    split
    · rename_i q
      have q' : decide (balanceW nl lf r c t tip w s p (halfW d) d ≤ 0) = true := q
      conv => whnf
      refine ⟨?_, rfl⟩
      rw [hh] at q'
      simp only [hr, findS, q', cond_true]
    · rename_i q
      have q' : decide (balanceW nl lf r c t tip w s p (halfW d) d ≤ 0) = false := q
      conv => whnf
      let f : Int → Int := fun a => balanceW nl lf r c t tip w s p a d
      refine .mk (α := {x : Int × Int × Nat // 0 ≤ x.1 ∧ x.2.1 ≤ half ∧ x.1 ≤ x.2.1 ∧ x.2.1 - x.1 ≤ x.2.2 ∧ searchS f x.2.2 x.1 x.2.1 = searchS f half.toNat 0 half})
        (fun x => ⟨[(1, .int .i64 d), (2, .ptr 0 2 0), (4, .ptr 0 4 0), (6, .ptr 0 6 0), (7, .ptr 0 7 0)],
          [(7, [.int .i64 x.1.2.1, .int .i64 d]), (6, [.int .i64 x.1.1, .int .i64 d]), (4, [.int .i64 0, .int .i64 0]),
           (2, [.lst none 1 nl fun i => [.int .i64 (lf i)], .lst none 1 nd fun i => [.int .i64 (df i)], .int .i64 r, .int .i64 c, .int .i64 t, .int .i64 tip, .int .i64 w, .int .i64 s, .int .i64 p])], up⟩)
        (fun x => x.1.2.2) ⟨(0, half, half.toNat), Int.le_refl _, Int.le_refl _, hb.1, by simp; omega, rfl⟩ ⟨?_, ?_, rfl, rfl⟩ ?_
      · exact ⟨leV_refl _, leV_refl _, leV_refl _, leV_refl _, leV_refl _, trivial⟩
      · exact ⟨⟨leV_int hh, leV_refl _, trivial⟩, leL_refl _, leL_refl _, leL_refl _, trivial⟩
      · rintro ⟨⟨lo, hi, n⟩, g1, g2, g3, g4, g5⟩
        simp only at g1 g2 g3 g4 g5
        have hw : w64 (hi - lo) = hi - lo := by rw [w64, wrap_in] <;> omega
        have hw2 : w64 (w64 (lo + hi) |>.tdiv 2) = (lo + hi) / 2 := by
          have e1 : w64 (lo + hi) = lo + hi := by rw [w64, wrap_in] <;> omega
          rw [e1, Int.tdiv_eq_ediv_of_nonneg (by omega), w64, wrap_in] <;> omega
        conv => whnf
        have hm : BalOK nl r t w s p (w64 (w64 (lo + hi) |>.tdiv 2)) d := by rw [hw2]; exact ok _ (by omega) (by omega)
        split
        · rename_i z
          have z' : decide (w64 (hi - lo) > 1) = true := z
          rw [hw] at z'
          have z1 : hi - lo > 1 := by simpa using z'
          obtain ⟨m, rfl⟩ : ∃ m, n = m + 1 := ⟨n - 1, by omega⟩
          simp only [searchS, z', cond_true] at g5
          conv => whnf
          refine .mk _ _ _ _ _ (leL_refl _) (c_balance _ _ _ _ _ _ _ _ _ _ _ _ _ _ hm.d0 hm.den hm.lo hm.hi) rfl ?_
          conv => whnf
          split
          · rename_i y
            have y' : decide (f (w64 (w64 (lo + hi) |>.tdiv 2)) ≤ 0) = true := y
            rw [hw2] at y'
            rw [y', cond_true] at g5
            conv => whnf
            refine ⟨⟨((lo + hi) / 2, hi, m), by simp only; omega, g2, by simp only; omega, by simp only; omega, g5⟩, ⟨?_, ?_, rfl, rfl⟩, ?_⟩
            · exact ⟨leV_refl _, leV_refl _, leV_refl _, leV_refl _, leV_refl _, trivial⟩
            · exact ⟨leL_refl _, ⟨leV_int hw2, leV_refl _, trivial⟩, leL_refl _, leL_refl _, trivial⟩
            · exact Nat.lt_succ_self m
          · rename_i y
            have y' : decide (f (w64 (w64 (lo + hi) |>.tdiv 2)) ≤ 0) = false := y
            rw [hw2] at y'
            rw [y', cond_false] at g5
            conv => whnf
            refine ⟨⟨(lo, (lo + hi) / 2, m), g1, by simp only; omega, by simp only; omega, by simp only; omega, g5⟩, ⟨?_, ?_, rfl, rfl⟩, ?_⟩
            · exact ⟨leV_refl _, leV_refl _, leV_refl _, leV_refl _, leV_refl _, trivial⟩
            · exact ⟨⟨leV_int hw2, leV_refl _, trivial⟩, leL_refl _, leL_refl _, leL_refl _, trivial⟩
            · exact Nat.lt_succ_self m
        · rename_i z
          have z' : decide (w64 (hi - lo) > 1) = false := z
          rw [hw] at z'
          conv => whnf
          refine ⟨?_, rfl⟩
          have e : lo = searchS f half.toNat 0 half := by
            rw [← g5]
            cases n with
            | zero => rfl
            | succ n => simp only [searchS, z', cond_false]
          have q2 : decide (f half ≤ 0) = false := by rw [← hh]; exact q'
          rw [hr]
          simp only [findS]
          show IV.tup [.agg [.int .i64 lo, .int .i64 d], .bool true] = _
          rw [show decide ((fun a => balanceW nl lf r c t tip w s p a d) half ≤ 0) = false from q2, cond_false, e]
  · rename_i h
    have h' : decide (0 ≤ w64 (d - 1)) = false := h
    simp at h'; omega

theorem c_sections (up : List Ces) (nl nd nr : Nat) (lf df : Nat → Int) (r1 r2 r3 r4 : Nat → Int) (w s p : Int) :
    Cs gl n_rotor_sections up [.agg [.lst none 1 nl fun i => [.int .i64 (lf i)], .lst none 1 nd fun i => [.int .i64 (df i)], .lst none 4 nr fun i => [.int .i64 (r1 i), .int .i64 (r2 i), .int .i64 (r3 i), .int .i64 (r4 i)]], .agg [.int .i64 w, .int .i64 s, .int .i64 p]]
      (.fn n_rotor_sections_1 [] [.vptr 3 1 (fun _ => [.lst none 1 nl fun i => [.int .i64 (lf i)], .lst none 1 nd fun i => [.int .i64 (df i)], .lst none 4 nr fun i => [.int .i64 (r1 i), .int .i64 (r2 i), .int .i64 (r3 i), .int .i64 (r4 i)]]) 0 0, .vptr 3 1 (fun _ => [.int .i64 w, .int .i64 s, .int .i64 p]) 0 0]) up := by
  refine mk h_rotor_sections rfl rfl ?_
  conv => whnf
  exact ⟨rfl, rfl⟩

theorem c_torque1 (ce : Ces) (up : List Ces) (k nl nd : Nat) (lf df : Nat → Int) (r c t tip w s p x : Int) (h3 : 0 ≤ classW nl t p x) (h4 : classW nl t p x < nl) (h5 : classW nl t p x < nd) (hc : lookC ce k = some (secL nl nd lf df r c t tip w s p)) :
    Cs gl n_rotor_section_torque_1 (ce :: up) [.int .i64 x, .ptr 1 k 0] (.int .i64 (ofW nl lf df r c t tip p x)) (ce :: up) := by
  refine mk h_rotor_section_torque_1 rfl rfl ?_
  conv => whnf
  split
  rotate_left
  · rename_i h; exact absurd (hc.symm.trans h) nofun
  rename_i c0 h
  obtain rfl := Option.some.inj (hc.symm.trans h)
  clear h
  conv => whnf
  refine .mk _ _ _ _ _ (leL_refl _) (c_class _ _ _ _ _ _ _ _ _ _ _ _ _) rfl ?_
  conv => whnf
  refine .mk 28 (by kernel_rfl) ?_
  conv => whnf
  split
  rotate_left
  · rename_i h; exact absurd (hc.symm.trans h) nofun
  rename_i c0 h
  obtain rfl := Option.some.inj (hc.symm.trans h)
  clear h
  conv => whnf
  split
  rotate_left
  · rename_i h; exact absurd (hc.symm.trans h) nofun
  rename_i c0 h
  obtain rfl := Option.some.inj (hc.symm.trans h)
  clear h
  conv => whnf
  split
  rotate_left
  · rename_i h; exact absurd (hc.symm.trans h) nofun
  rename_i c0 h
  obtain rfl := Option.some.inj (hc.symm.trans h)
  clear h
  conv => whnf
  split
  rotate_left
  · rename_i h; exact absurd (hc.symm.trans h) nofun
  rename_i c0 h
  obtain rfl := Option.some.inj (hc.symm.trans h)
  clear h
  conv => whnf
  split
  rotate_left
  · rename_i h
    have h' : decide (0 ≤ classW nl t p x) = false := h
    simp at h'; omega
  conv => whnf
  split
  rotate_left
  · rename_i h
    have h' : decide (classW nl t p x < (nl : Int)) = false := h
    simp at h'; omega
  conv => whnf
  split
  rotate_left
  · rename_i h; exact absurd (hc.symm.trans h) nofun
  rename_i c0 h
  obtain rfl := Option.some.inj (hc.symm.trans h)
  clear h
  conv => whnf
  split
  rotate_left
  · rename_i h
    have h' : decide (0 ≤ classW nl t p x) = false := h
    simp at h'; omega
  conv => whnf
  split
  rotate_left
  · rename_i h
    have h' : decide (classW nl t p x < (nd : Int)) = false := h
    simp at h'; omega
  conv => whnf
  exact ⟨rfl, rfl⟩

theorem c_mapped (up : List Ces) (n : Nat) (hn : n ≤ 1000000) (f φ : Nat → Int) (k : Nat) (hk : ∀ up i, i < n → Cs gl k up [.int .i64 (f i)] (.int .i64 (φ i)) up) :
    Cs gl n_rotor_mapped_int_api_Errno up [.lst none 1 n fun i => [.int .i64 (f i)], .fn k [] []] (.lst (some 19) 1 n fun i => [.int .i64 (φ i)]) up := by
  refine mk h_rotor_mapped_int_api_Errno rfl rfl ?_
  conv => whnf
  refine .mk (α := {i : Nat // i ≤ n}) (fun i => ⟨[(10, .int .i64 i.1), (9, .int .i64 n), (8, .lst none 1 n fun i => [.int .i64 (f i)]), (5, .lst (some 19) 1 i.1 fun i => [.int .i64 (φ i)]), (1, .fn k [] [])], [], up⟩) (fun i => n - i.1) ⟨0, Nat.zero_le _⟩ ⟨?_, trivial, rfl, rfl⟩ ?_
  · exact ⟨leV_refl _, leV_refl _, leV_refl _, rfl, leV_refl _, trivial⟩
  · rintro ⟨i, hi⟩
    conv => whnf
    split
    · rename_i hb
      have hlt : i < n := by simpa using hb
      conv => whnf
      split
      · conv => whnf
        refine .mk _ _ _ _ _ (leL_refl _) (hk _ i hlt) rfl ?_
        conv => whnf
        split
        · conv => whnf
          refine ⟨⟨i + 1, hlt⟩, ⟨?_, trivial, rfl, rfl⟩, ?_⟩
          · have hw : IntKind.i64.wrap ((i : Int) + 1) = ((i + 1 : Nat) : Int) := by
              rw [wrap_in] <;> omega
            refine ⟨leV_int hw, leV_refl _, leV_refl _, ⟨.inr rfl, rfl, rfl, fun j hj => ?_⟩, leV_refl _, trivial⟩
            show (if j < i then [IV.int .i64 (φ j)] else litF 1 [.int .i64 (φ i)] (j - i)) = [IV.int .i64 (φ j)]
            split
            · rfl
            · have : j = i := by have : j < i + 1 := hj; omega
              subst this; rw [Nat.sub_self]; rfl
          · show n - (i + 1) < n - i
            omega
        · rename_i h2
          have h2' : decide (i + 1 ≤ 1073741824) = false := h2
          simp at h2'; omega
      · rename_i h2; rw [hb] at h2; cases h2
    · rename_i hb
      have : i = n := by simp at hb; omega
      subst this
      conv => whnf
      exact ⟨rfl, rfl⟩

theorem c_first4 (up : List Ces) (a b c d : Int) : Cs gl n_rotor_first up [.lst none 1 4 fun i => [.int .i64 ([a, b, c, d].getD i 0)]] (.int .i64 (firstS ([a, b, c, d].getD · 0) 4 0)) up := c_first up 4 (by decide) fun i => [a, b, c, d].getD i 0
theorem c_RingCheck (up : List Ces) (r c t tip : Int) : Cs gl n_rotor_Ring_check up [.agg [.int .i64 r, .int .i64 c, .int .i64 t, .int .i64 tip]]
    (.int .i64 (firstS ([withinS r 1 200, withinS c 1 100, withinS t (-64) 64, withinS tip 0 256].getD · 0) 4 0)) up := by
  refine mk h_rotor_Ring_check rfl rfl ?_
  conv => whnf
  refine .mk 14 (by kernel_rfl) ?_
  conv => whnf
  refine .mk _ _ _ (leL_refl _) (c_within _ _ _ _) rfl ?_
  conv => whnf
  refine .mk _ _ _ (leL_refl _) (c_within _ _ _ _) rfl ?_
  conv => whnf
  refine .mk _ _ _ (leL_refl _) (c_within _ _ _ _) rfl ?_
  conv => whnf
  refine .mk _ _ _ (leL_refl _) (c_within _ _ _ _) rfl ?_
  conv => whnf
  refine .mk _ _ _ ?_ (c_first4 _ (withinS r 1 200) (withinS c 1 100) (withinS t (-64) 64) (withinS tip 0 256)) rfl ?_
  · exact ⟨⟨.inl rfl, rfl, rfl, fun i hi => by
      match i, hi with
      | 0, _ => rfl
      | 1, _ => rfl
      | 2, _ => rfl
      | 3, _ => rfl⟩, trivial⟩
  conv => whnf
  exact ⟨rfl, rfl⟩

theorem c_component (up : List Ces) (a b c : Int) : Cs gl n_rotor_component up [.agg [.int .i64 a, .int .i64 b, .int .i64 c]] (.agg [.int .i64 (w64 (a - c)), .int .i64 (w64 (b - c))]) up := by
  refine mk h_rotor_component rfl rfl ?_
  conv => whnf
  exact ⟨rfl, rfl⟩
theorem c_checkLoads1 (up : List Ces) (x : Int) : Cs gl n_rotor_checkLoads_1 up [.int .i64 x] (.int .i64 (withinS x (-1000000) 1000000)) up := by
  refine mk h_rotor_checkLoads_1 rfl rfl ?_
  conv => whnf
  refine .mk _ _ _ _ _ (leL_refl _) (c_within _ _ _ _) rfl ?_
  conv => whnf
  exact ⟨rfl, rfl⟩
theorem c_CheckPolar1 (up : List Ces) (x : Int) : Cs gl n_rotor_CheckPolar_1 up [.int .i64 x] (.int .i64 (withinS x 0 1000)) up := by
  refine mk h_rotor_CheckPolar_1 rfl rfl ?_
  conv => whnf
  refine .mk _ _ _ _ _ (leL_refl _) (c_within _ _ _ _) rfl ?_
  conv => whnf
  exact ⟨rfl, rfl⟩

end Go.Proofs.YtllmejkmogepjaaGreatDoor.Ix

/-
  Ro2: contracts of the functions of the package rotor, the second part: CheckPolar, CheckBlade and the checks that use them.
-/
namespace Go.Proofs.YtllmejkmogepjaaGreatDoor.Ix
open Go.Proofs
set_option maxRecDepth 100000
set_option linter.unusedVariables false
set_option linter.unusedSimpArgs false
variable {gl : Nat → IV}

theorem c_f2 (up : List Ces) (f : Nat → List IV) (a b : Int) (h0 : f 0 = [.int .i64 a]) (h1 : f 1 = [.int .i64 b]) : Cs gl n_rotor_first up [.lst none 1 2 f] (.int .i64 (orE a b)) up := by
  have := c_first (gl := gl) up 2 (by decide) fun i => [a, b].getD i 0
  have e : firstS (fun i => [a, b].getD i 0) 2 0 = orE a b := by rw [← orE_right (orE a b), orE_assoc]; rfl
  rw [← e]
  refine Comp.le ?_ this
  refine ⟨⟨.inl rfl, rfl, rfl, fun i hi => ?_⟩, trivial⟩
  match i, hi with
  | 0, _ => exact h0
  | 1, _ => exact h1
theorem c_f3 (up : List Ces) (f : Nat → List IV) (a b c : Int) (h0 : f 0 = [.int .i64 a]) (h1 : f 1 = [.int .i64 b]) (h2 : f 2 = [.int .i64 c]) : Cs gl n_rotor_first up [.lst none 1 3 f] (.int .i64 (orE a (orE b c))) up := by
  have := c_first (gl := gl) up 3 (by decide) fun i => [a, b, c].getD i 0
  have e : firstS (fun i => [a, b, c].getD i 0) 3 0 = orE a (orE b c) := by rw [← orE_right (orE a (orE b c)), orE_assoc, orE_assoc]; rfl
  rw [← e]
  refine Comp.le ?_ this
  refine ⟨⟨.inl rfl, rfl, rfl, fun i hi => ?_⟩, trivial⟩
  match i, hi with
  | 0, _ => exact h0
  | 1, _ => exact h1
  | 2, _ => exact h2

theorem orE_pos {a b : Int} (h : (a != 0) = true) : orE a b = a := by unfold orE; rw [h]; rfl
theorem orE_neg {a b : Int} (h : (a != 0) = false) : orE a b = b := by unfold orE; rw [h]; rfl

/-- The error of the class 'i'. -/
def liftS (lf : Nat → Int) (i : Nat) : Int := orE (withinS (lf i) 0 1000) (bif decide (lf i < lf (i - 1)) then 11 else 0)

theorem polarS_eq (nl nd : Nat) (lf df : Nat → Int) : polarS nl lf nd df =
    orE (orE (bif (nl : Int) == 0 then 12 else 0) (orE (bif decide ((nl : Int) > 32) then 5 else 0) (bif (nd : Int) != nl then 2 else 0))) (orE (firstS (liftS lf) nl 0) (firstS (fun i => withinS (df i) 0 1000) nd 0)) := by
  unfold polarS liftS
  simp only [orE_assoc]

theorem c_CheckPolar (up : List Ces) (nl nd : Nat) (lf df : Nat → Int) : Cs gl n_rotor_CheckPolar up [.agg [.lst none 1 nl fun i => [.int .i64 (lf i)], .lst none 1 nd fun i => [.int .i64 (df i)]]] (.int .i64 (polarS nl lf nd df)) up := by
  refine mk h_rotor_CheckPolar rfl rfl ?_
  rw [polarS_eq]
  conv => whnf
  refine .mk 14 (by kernel_rfl) ?_
  conv => whnf
  first | refine CALLQ.mk _ _ _ (leL_refl _) (c_when _ _ _) rfl ?_ | refine CALL0.mk _ _ _ _ _ (leL_refl _) (c_when _ _ _) rfl ?_
  conv => whnf
  first | refine CALLQ.mk _ _ _ (leL_refl _) (c_when _ _ _) rfl ?_ | refine CALL0.mk _ _ _ _ _ (leL_refl _) (c_when _ _ _) rfl ?_
  conv => whnf
  first | refine CALLQ.mk _ _ _ (leL_refl _) (c_when _ _ _) rfl ?_ | refine CALL0.mk _ _ _ _ _ (leL_refl _) (c_when _ _ _) rfl ?_
  conv => whnf
  first | refine CALLQ.mk _ _ _ (leL_refl _) (c_f3 _ _ _ _ _ rfl rfl rfl) rfl ?_ | refine CALL0.mk _ _ _ _ _ (leL_refl _) (c_f3 _ _ _ _ _ rfl rfl rfl) rfl ?_
  conv => whnf
  split
  · rename_i h
    conv => whnf
    refine ⟨?_, rfl⟩
    rw [orE_pos h]
  · rename_i h
    rw [orE_neg h]
    have h0 : orE (bif (nl : Int) == 0 then 12 else 0) (orE (bif decide ((nl : Int) > 32) then 5 else 0) (bif (nd : Int) != nl then 2 else 0)) = 0 := by simpa using h
    simp only [orE_zero] at h0
    rw [bif_zero (by decide), bif_zero (by decide), bif_zero (by decide)] at h0
    simp at h0
    clear h
    obtain ⟨h1, h2, h3⟩ := h0
    have h3' : nd = nl := by omega
    subst h3'
    conv => whnf
    refine .mk (α := {i : Nat // i ≤ nd ∧ firstS (liftS lf) nd 0 = firstS (liftS lf) (nd - i) i}) (fun i => ⟨[(31, .int .i64 i.1), (30, .int .i64 nd), (29, .lst none 1 nd fun i => [.int .i64 (lf i)]), (1, .ptr 0 1 0)], [(1, [.lst none 1 nd fun i => [.int .i64 (lf i)], .lst none 1 nd fun i => [.int .i64 (df i)]])], up⟩) (fun i => nd - i.1) ⟨0, Nat.zero_le _, rfl⟩ ⟨?_, ?_, rfl, rfl⟩ ?_
    · exact ⟨leV_refl _, leV_refl _, leV_refl _, leV_refl _, trivial⟩
    · exact ⟨leL_refl _, trivial⟩
    · rintro ⟨i, hi, hf⟩
      conv => whnf
      split
      · rename_i hb
        have hlt : i < nd := by simpa using hb
        have hstep : firstS (liftS lf) (nd - i) i = orE (liftS lf i) (firstS (liftS lf) (nd - (i + 1)) (i + 1)) := by
          rw [show nd - i = (nd - (i + 1)) + 1 by omega]; rfl
        conv => whnf
        split
        · conv => whnf
          refine .mk 14 (by kernel_rfl) ?_
          conv => whnf
          first | refine CALLQ.mk _ _ _ (leL_refl _) (c_within _ _ _ _) rfl ?_ | refine CALL0.mk _ _ _ _ _ (leL_refl _) (c_within _ _ _ _) rfl ?_
          conv => whnf
          have hm : (if w64 ((i : Int) - 1) > 0 then w64 ((i : Int) - 1) else 0) = ((i - 1 : Nat) : Int) := by
            rw [w64, wrap_in (by omega) (by omega)]; split <;> omega
          rw [hm]
          split
          rotate_left
          · rename_i h
            have h' : decide (0 ≤ ((i - 1 : Nat) : Int)) = false := h
            simp at h' <;> omega
          conv => whnf
          split
          rotate_left
          · rename_i h
            have h' : decide (((i - 1 : Nat) : Int) < nd) = false := h
            simp at h' <;> omega
          conv => whnf
          first | refine CALLQ.mk _ _ _ (leL_refl _) (c_when _ _ _) rfl ?_ | refine CALL0.mk _ _ _ _ _ (leL_refl _) (c_when _ _ _) rfl ?_
          conv => whnf
          first | refine CALLQ.mk _ _ _ (leL_refl _) (c_f2 _ _ _ _ rfl rfl) rfl ?_ | refine CALL0.mk _ _ _ _ _ (leL_refl _) (c_f2 _ _ _ _ rfl rfl) rfl ?_
          conv => whnf
          split
          · rename_i h
            have h' : (liftS lf i != 0) = true := h
            conv => whnf
            refine ⟨?_, rfl⟩
            show IV.int .i64 (liftS lf i) = _
            rw [hf, hstep, orE_pos h', orE_pos h']
          · rename_i h
            have h' : (liftS lf i != 0) = false := h
            conv => whnf
            refine ⟨⟨i + 1, hlt, by rw [hf, hstep, orE_neg h']⟩, ⟨⟨leV_int ?_, leV_refl _, leV_refl _, leV_refl _, trivial⟩, ⟨leL_refl _, trivial⟩, rfl, rfl⟩, ?_⟩
            · show w64 ((i : Int) + 1) = ((i + 1 : Nat) : Int)
              rw [w64, wrap_in] <;> omega
            · show nd - (i + 1) < nd - i
              omega
        · rename_i h2; rw [hb] at h2; cases h2
      · rename_i hb
        have : i = nd := by simp at hb; omega
        subst this
        rw [Nat.sub_self] at hf
        have hf : firstS (liftS lf) i 0 = 0 := hf
        conv => whnf
        refine .mk _ _ _ _ _ (leL_refl _) (c_mapped _ _ (by omega) df (fun j => withinS (df j) 0 1000) _ (fun up j _ => c_CheckPolar1 up (df j))) rfl ?_
        conv => whnf
        refine .mk _ _ _ _ _ (leL_refl _) (c_first _ _ (by omega) fun j => withinS (df j) 0 1000) rfl ?_
        conv => whnf
        refine ⟨?_, rfl⟩
        rw [hf]; rfl

theorem c_RingCheck' (up : List Ces) (r c t tip : Int) : Cs gl n_rotor_Ring_check up [.agg [.int .i64 r, .int .i64 c, .int .i64 t, .int .i64 tip]] (.int .i64 (ringS r c t tip)) up := by
  have := c_RingCheck (gl := gl) up r c t tip
  have e : firstS ([withinS r 1 200, withinS c 1 100, withinS t (-64) 64, withinS tip 0 256].getD · 0) 4 0 = ringS r c t tip := by rw [← orE_right (ringS r c t tip), ringS, orE_assoc, orE_assoc, orE_assoc]; rfl
  rw [← e]; exact this

theorem c_CheckFlow' (up : List Ces) (w s p : Int) : Cs gl n_rotor_CheckFlow up [flowI w s p] (.int .i64 (flowS w s p)) up := by
  have := c_CheckFlow (gl := gl) up w s p
  have e : (bif withinS w 1 50 != 0 then withinS w 1 50 else bif withinS s 1 1000 != 0 then withinS s 1 1000 else bif withinS p (-64) 64 != 0 then withinS p (-64) 64 else 0) = flowS w s p := by
    show orE _ (orE _ (orE _ 0)) = _
    rw [orE_right]; rfl
  rw [← e]; exact this

theorem bladeS_eq (nl nd nr : Nat) (lf df r1 r2 r3 r4 : Nat → Int) : bladeS nl lf nd df nr r1 r2 r3 r4 =
    orE (orE (polarS nl lf nd df) (orE (bif (nr : Int) == 0 then 12 else 0) (bif decide ((nr : Int) > 16) then 5 else 0))) (firstS (ringAt r1 r2 r3 r4) nr 0) := by
  unfold bladeS
  simp only [orE_assoc]

theorem c_CheckBlade (up : List Ces) (nl nd nr : Nat) (lf df r1 r2 r3 r4 : Nat → Int) : Cs gl n_rotor_CheckBlade up [bladeI nl nd nr lf df r1 r2 r3 r4] (.int .i64 (bladeS nl lf nd df nr r1 r2 r3 r4)) up := by
  refine mk h_rotor_CheckBlade rfl rfl ?_
  rw [bladeS_eq]
  conv => whnf
  refine .mk 15 (by kernel_rfl) ?_
  conv => whnf
  first | refine CALLQ.mk _ _ _ (leL_refl _) (c_CheckPolar _ _ _ _ _) rfl ?_ | refine CALL0.mk _ _ _ _ _ (leL_refl _) (c_CheckPolar _ _ _ _ _) rfl ?_
  conv => whnf
  first | refine CALLQ.mk _ _ _ (leL_refl _) (c_when _ _ _) rfl ?_ | refine CALL0.mk _ _ _ _ _ (leL_refl _) (c_when _ _ _) rfl ?_
  conv => whnf
  first | refine CALLQ.mk _ _ _ (leL_refl _) (c_when _ _ _) rfl ?_ | refine CALL0.mk _ _ _ _ _ (leL_refl _) (c_when _ _ _) rfl ?_
  conv => whnf
  first | refine CALLQ.mk _ _ _ (leL_refl _) (c_f3 _ _ _ _ _ rfl rfl rfl) rfl ?_ | refine CALL0.mk _ _ _ _ _ (leL_refl _) (c_f3 _ _ _ _ _ rfl rfl rfl) rfl ?_
  conv => whnf
  split
  · rename_i h
    conv => whnf
    refine ⟨?_, rfl⟩
    rw [orE_pos h]
  · rename_i h
    rw [orE_neg h]
    have h0 : orE (polarS nl lf nd df) (orE (bif (nr : Int) == 0 then 12 else 0) (bif decide ((nr : Int) > 16) then 5 else 0)) = 0 := by simpa using h
    simp only [orE_zero] at h0
    rw [bif_zero (by decide), bif_zero (by decide)] at h0
    simp at h0
    clear h
    obtain ⟨_, h2, h3⟩ := h0
    conv => whnf
    refine .mk (α := {i : Nat // i ≤ nr ∧ firstS (ringAt r1 r2 r3 r4) nr 0 = firstS (ringAt r1 r2 r3 r4) (nr - i) i}) (fun i => ⟨[(29, .int .i64 i.1), (28, .int .i64 nr), (27, .lst none 4 nr fun i => [.int .i64 (r1 i), .int .i64 (r2 i), .int .i64 (r3 i), .int .i64 (r4 i)]), (1, .ptr 0 1 0)], [(1, [.lst none 1 nl fun i => [.int .i64 (lf i)], .lst none 1 nd fun i => [.int .i64 (df i)], .lst none 4 nr fun i => [.int .i64 (r1 i), .int .i64 (r2 i), .int .i64 (r3 i), .int .i64 (r4 i)]])], up⟩) (fun i => nr - i.1) ⟨0, Nat.zero_le _, rfl⟩ ⟨?_, ?_, rfl, rfl⟩ ?_
    · exact ⟨leV_refl _, leV_refl _, leV_refl _, leV_refl _, trivial⟩
    · exact ⟨leL_refl _, trivial⟩
    · rintro ⟨i, hi, hf⟩
      conv => whnf
      split
      · rename_i hb
        have hlt : i < nr := by simpa using hb
        have hstep : firstS (ringAt r1 r2 r3 r4) (nr - i) i = orE (ringAt r1 r2 r3 r4 i) (firstS (ringAt r1 r2 r3 r4) (nr - (i + 1)) (i + 1)) := by
          rw [show nr - i = (nr - (i + 1)) + 1 by omega]; rfl
        conv => whnf
        split
        · conv => whnf
          refine .mk 15 (by kernel_rfl) ?_
          conv => whnf
          have hm : (if w64 ((i : Int) - 1) > 0 then w64 ((i : Int) - 1) else 0) = ((i - 1 : Nat) : Int) := by
            rw [w64, wrap_in (by omega) (by omega)]; split <;> omega
          split
          · rename_i h0
            conv => whnf
            rw [hm]
            split
            rotate_left
            · rename_i h
              have h' : decide (0 ≤ ((i - 1 : Nat) : Int)) = false := h
              simp at h' <;> omega
            conv => whnf
            split
            rotate_left
            · rename_i h
              have h' : decide (((i - 1 : Nat) : Int) < nr) = false := h
              simp at h' <;> omega
            conv => whnf
            have hq : orE (ringS (r1 i) (r2 i) (r3 i) (r4 i)) (bif decide (r1 i ≤ r1 (i - 1)) then 11 else 0) = ringAt r1 r2 r3 r4 i := by
              unfold ringAt
              rw [show decide (0 < i) = true from decide_eq_true (by simpa using h0), Bool.true_and]
            refine .mk _ _ _ _ _ (leL_refl _) (c_RingCheck' _ _ _ _ _) rfl ?_
            conv => whnf
            refine .mk _ _ _ _ _ (leL_refl _) (c_when _ _ _) rfl ?_
            conv => whnf
            refine .mk _ _ _ _ _ (leL_refl _) (c_f2 _ _ _ _ rfl rfl) rfl ?_
            conv => whnf
            split
            · rename_i h
              have h' : (orE (ringS (r1 i) (r2 i) (r3 i) (r4 i)) (bif decide (r1 i ≤ r1 (i - 1)) then 11 else 0) != 0) = true := h
              rw [hq] at h'
              conv => whnf
              refine ⟨?_, rfl⟩
              show IV.int .i64 (orE (ringS (r1 i) (r2 i) (r3 i) (r4 i)) (bif decide (r1 i ≤ r1 (i - 1)) then 11 else 0)) = _
              rw [hf, hstep, hq, orE_pos h']
            · rename_i h
              have h' : (orE (ringS (r1 i) (r2 i) (r3 i) (r4 i)) (bif decide (r1 i ≤ r1 (i - 1)) then 11 else 0) != 0) = false := h
              rw [hq] at h'
              conv => whnf
              refine ⟨⟨i + 1, hlt, by rw [hf, hstep, orE_neg h']⟩, ⟨⟨leV_int ?_, leV_refl _, leV_refl _, leV_refl _, trivial⟩, ⟨leL_refl _, trivial⟩, rfl, rfl⟩, ?_⟩
              · show w64 ((i : Int) + 1) = ((i + 1 : Nat) : Int)
                rw [w64, wrap_in] <;> omega
              · show nr - (i + 1) < nr - i
                omega
          · rename_i h0
            conv => whnf
            have hq : orE (ringS (r1 i) (r2 i) (r3 i) (r4 i)) (bif false then 11 else 0) = ringAt r1 r2 r3 r4 i := by
              unfold ringAt
              rw [show decide (0 < i) = false from decide_eq_false (by simpa using h0), Bool.false_and]
            refine .mk _ _ _ _ _ (leL_refl _) (c_RingCheck' _ _ _ _ _) rfl ?_
            conv => whnf
            refine .mk _ _ _ _ _ (leL_refl _) (c_when _ _ _) rfl ?_
            conv => whnf
            refine .mk _ _ _ _ _ (leL_refl _) (c_f2 _ _ _ _ rfl rfl) rfl ?_
            conv => whnf
            split
            · rename_i h
              have h' : (orE (ringS (r1 i) (r2 i) (r3 i) (r4 i)) (bif false then 11 else 0) != 0) = true := h
              rw [hq] at h'
              conv => whnf
              refine ⟨?_, rfl⟩
              show IV.int .i64 (orE (ringS (r1 i) (r2 i) (r3 i) (r4 i)) (bif false then 11 else 0)) = _
              rw [hf, hstep, hq, orE_pos h']
            · rename_i h
              have h' : (orE (ringS (r1 i) (r2 i) (r3 i) (r4 i)) (bif false then 11 else 0) != 0) = false := h
              rw [hq] at h'
              conv => whnf
              refine ⟨⟨i + 1, hlt, by rw [hf, hstep, orE_neg h']⟩, ⟨⟨leV_int ?_, leV_refl _, leV_refl _, leV_refl _, trivial⟩, ⟨leL_refl _, trivial⟩, rfl, rfl⟩, ?_⟩
              · show w64 ((i : Int) + 1) = ((i + 1 : Nat) : Int)
                rw [w64, wrap_in] <;> omega
              · show nr - (i + 1) < nr - i
                omega
        · rename_i h2; rw [hb] at h2; cases h2
      · rename_i hb
        have : i = nr := by simp at hb; omega
        subst this
        rw [Nat.sub_self] at hf
        have hf : firstS (ringAt r1 r2 r3 r4) i 0 = 0 := hf
        conv => whnf
        refine ⟨?_, rfl⟩
        rw [hf]
end Go.Proofs.YtllmejkmogepjaaGreatDoor.Ix

/-
  P5: texts as lists of bytes: numerals, lines, the text of a blade.
-/
namespace Go.Proofs.YtllmejkmogepjaaGreatDoor.Ix
set_option linter.unusedVariables false

/-- A string of these bytes. -/
abbrev bytesS (l : List UInt8) : ByteArray := ⟨l.toArray⟩

theorem bytesS_size (l : List UInt8) : (bytesS l).size = l.length := by simp [ByteArray.size]
theorem bytesS_data (l : List UInt8) : (bytesS l).data.toList = l := by simp
theorem bytesS_append (a b : List UInt8) : bytesS a ++ bytesS b = bytesS (a ++ b) := by
  apply ByteArray.ext
  simp [ByteArray.data_append]
theorem bytesS_mk (s : ByteArray) : bytesS s.data.toList = s := by cases s; simp [bytesS]

/-- Numbers, each behind a blank. -/
def numsS (f : Nat → Int) : Nat → List UInt8
  | 0 => []
  | n + 1 => numsS f n ++ 32 :: Go.Lib.itoa (f n)
def lineS (w : List UInt8) (n : Nat) (f : Nat → Int) : List UInt8 := w ++ numsS f n ++ [10]

theorem numsS_eq (f : Nat → Int) : ∀ n, Go.Lib.joinTail [32] ((List.range n).map fun i => Go.Lib.itoa (f i)) = numsS f n
  | 0 => rfl
  | n + 1 => by
    have ih := numsS_eq f n
    unfold Go.Lib.joinTail at *
    rw [List.range_succ]
    simp only [List.map_append, List.flatten_append, numsS, List.map_cons, List.map_nil]
    rw [ih]
    simp

theorem numsS_congr {f g : Nat → Int} : ∀ n, (∀ i, i < n → f i = g i) → numsS f n = numsS g n
  | 0, _ => rfl
  | n + 1, h => by simp only [numsS]; rw [numsS_congr n fun i hi => h i (by omega), h n (by omega)]

def i64 (x : Int) : Prop := -9223372036854775808 ≤ x ∧ x ≤ 9223372036854775807

theorem numsS_len {f : Nat → Int} : ∀ n, (∀ i, i < n → i64 (f i)) → (numsS f n).length ≤ n * 22
  | 0, _ => by simp [numsS]
  | n + 1, h => by
    have ih := numsS_len n fun i hi => h i (by omega)
    have := Go.Lib.itoa_length_le (f n) (h n (by omega)).1 (h n (by omega)).2
    simp only [numsS, List.length_append, List.length_cons]
    omega

/-- The numbers of a ring. -/
def Bl.ring (b : Bl) (i j : Nat) : Int := [b.r1 i, b.r2 i, b.r3 i, b.r4 i].getD j 0
def Bl.pol (b : Bl) (j : Nat) : Int := if j % 2 = 0 then b.lf (j / 2) else b.df (j / 2)
/-- polar, ring -/
abbrev polarW : List UInt8 := [112, 111, 108, 97, 114]
abbrev ringW : List UInt8 := [114, 105, 110, 103]
def ringsS (b : Bl) : Nat → List UInt8
  | 0 => []
  | k + 1 => ringsS b k ++ lineS ringW 4 (b.ring k)
/-- The text of a blade. -/
def Bl.text (b : Bl) : List UInt8 := lineS polarW (2 * b.nl) b.pol ++ ringsS b b.nr

theorem ringsS_len {b : Bl} : ∀ k, (∀ i, i < k → ∀ j, i64 (b.ring i j)) → (ringsS b k).length ≤ k * 93
  | 0, _ => by simp [ringsS]
  | k + 1, h => by
    have ih := ringsS_len k fun i hi => h i (by omega)
    have := numsS_len (f := b.ring k) 4 fun i hi => h k (by omega) i
    simp only [ringsS, List.length_append, lineS, List.length_cons, List.length_nil]
    omega

theorem ring_i64 {b : Bl} {f : Fl} {i : Nat} (h : b.ok f i) (j : Nat) : i64 (b.ring i j) := by
  have h1 := h.r
  have h2 := h.c
  have h3 := h.t
  have h4 := h.tip
  unfold Bl.ring i64
  match j with
  | 0 => simp; omega
  | 1 => simp; omega
  | 2 => simp; omega
  | 3 => simp; omega
  | j + 4 => simp
end Go.Proofs.YtllmejkmogepjaaGreatDoor.Ix

/-
  Ix30: what a caller hands in, as the evaluator tells it: data that a claim reads, of a given shape.
-/
namespace Go.Proofs.YtllmejkmogepjaaGreatDoor.Ix
set_option linter.unusedVariables false

inductive Shp where
  | int (k : IntKind)
  | bool
  | str
  | slice (e : Nat) (s : Shp)
  | agg (l : List (Nat × Shp))

def total : List (Nat × Shp) → Nat
  | [] => 0
  | x :: r => x.1 + total r

mutual
/-- The type 't' has this shape. -/
def ShpOK (P : Program) : Shp → TypeId → Prop
  | .int k, t => P.underlying t = some (.int k)
  | .bool, t => P.underlying t = some .bool
  | .str, t => P.underlying t = some .string
  | .slice e s, t => ∃ u, P.underlying t = some (.slice u) ∧ P.cellsOf u = e ∧ 0 < e ∧ ShpOK P s u
  | .agg l, t => P.cellsOf t = total l ∧ ((∃ fs, P.underlying t = some (.struct fs) ∧ ShpOKs P l 0 (fs.toList.map fun f => (f.offset, f.type))) ∨
      ∃ n e, P.underlying t = some (.array n e) ∧ ShpOKs P l 0 ((List.range n).map fun i => (i * P.cellsOf e, e)))
def ShpOKs (P : Program) : List (Nat × Shp) → Nat → List (Nat × TypeId) → Prop
  | [], _, [] => True
  | (sz, s) :: l, off, (o, u) :: r => o = off ∧ P.cellsOf u = sz ∧ ShpOK P s u ∧ ShpOKs P l (off + sz) r
  | _, _, _ => False
end

mutual
/-- Cells of this shape. -/
def Fit : Shp → List IV → Prop
  | .int k, xs => ∃ n, xs = [.int k n] ∧ (Lit.int k n).wf = true
  | .bool, xs => ∃ b, xs = [.bool b]
  | .str, xs => ∃ s : ByteArray, xs = [.str s] ∧ s.size ≤ maxLen
  | .slice e s, xs => ∃ n f, xs = [.lst none e n f] ∧ n ≤ maxLen ∧ ∀ i, i < n → (f i).length = e ∧ Fit s (f i)
  | .agg l, xs => FitL l xs
def FitL : List (Nat × Shp) → List IV → Prop
  | [], xs => xs = []
  | (sz, s) :: l, xs => ∃ ys zs, xs = ys ++ zs ∧ ys.length = sz ∧ Fit s ys ∧ FitL l zs
end

/-- The cells told. -/
def Tells (I : Imm) (xs : List IV) (cs : List Value) : Prop := xs.length = cs.length ∧ ∀ (j : Nat) y, xs[j]? = some y → D I y (cs.getD j undef) ∧ (cs.getD j undef).oneCell' = true

theorem Tells.one {I : Imm} {x : IV} {v : Value} (h : D I x v) (h1 : v.oneCell' = true) : Tells I [x] [v] := by
  refine ⟨rfl, fun j y hy => ?_⟩
  cases j with
  | zero => simp at hy; subst hy; exact ⟨h, h1⟩
  | succ j => simp at hy

theorem Tells.append {I : Imm} {xs ys : List IV} {cs ds : List Value} (h : Tells I xs cs) (k : Tells I ys ds) : Tells I (xs ++ ys) (cs ++ ds) := by
  refine ⟨by simp [h.1, k.1], fun j y hy => ?_⟩
  by_cases hj : j < xs.length
  · rw [List.getElem?_append_left hj] at hy
    have := h.2 j y hy
    rw [List.getD_eq_getElem?_getD, List.getElem?_append_left (by rw [← h.1]; exact hj), ← List.getD_eq_getElem?_getD]; exact this
  · rw [List.getElem?_append_right (by omega)] at hy
    have := k.2 _ y hy
    rw [List.getD_eq_getElem?_getD, List.getElem?_append_right (by rw [← h.1]; omega), ← h.1, ← List.getD_eq_getElem?_getD]; exact this

section
variable {H : Type} {enc : TypeId × Value → H} {P : Program} {w : World} {spare : Nat → Bool} {held : Bool}

theorem cells_get {base : Nat} {a : Addr} {n : Nat} {cs : List Value} (h : w.cells? base a n = some cs) : cs.length = n ∧ ∀ j, j < n → w.cell? (a.add j) = cs[j]? := by
  unfold World.cells? at h
  split at h
  · exact ⟨by simpa using mapM_some_length h, fun j hj => mapM_some_get h j j (by simp [hj])⟩
  · cases h

theorem cell_spot {a : Addr} {v : Value} (h : w.cell? a = some v) : a.spot = none := by
  unfold World.cell? at h
  split at h
  · cases hs : a.spot with
    | none => rfl
    | some x => simp [hs] at h
  · cases h

mutual
theorem fit_of_trod : ∀ (s : Shp) (t : TypeId), ShpOK P s t → ∀ (fuel : Nat) (cs : List Value) (x : DataW H × List MemPlace), DataW.trod enc P w 0 (fun _ => true) held fuel t cs = some x →
    ∃ xs, Fit s xs ∧ Tells (fun a => w.cell? a) xs cs
  | .int k, t, ht, fuel, cs, x, h => by
    simp only [ShpOK] at ht
    obtain ⟨n, rfl, _, hw⟩ := DataW.trod_int ht h
    exact ⟨_, ⟨n, rfl, hw⟩, .one (.int k n) rfl⟩
  | .bool, t, ht, fuel, cs, x, h => by
    simp only [ShpOK] at ht
    obtain ⟨b, rfl, _⟩ := DataW.trod_bool ht h
    exact ⟨_, ⟨b, rfl⟩, .one (.bool b) rfl⟩
  | .str, t, ht, fuel, cs, x, h => by
    simp only [ShpOK] at ht
    obtain ⟨s, rfl, _, hs⟩ := DataW.trod_string ht h
    exact ⟨_, ⟨s, rfl, hs⟩, .one (.str s) rfl⟩
  | .slice e s, t, ht, fuel, cs, x, h => by
    simp only [ShpOK] at ht
    obtain ⟨u, hu, rfl, he, hs⟩ := ht
    rcases DataW.trod_slice hu h with ⟨rfl, _⟩ | ⟨a, len, cap, elems, rest, n, _, rfl, _, _, hlc, hcm, hlen, hel, hsp, _⟩
    · exact ⟨[.lst none (P.cellsOf u) 0 fun _ => []], ⟨0, _, rfl, Nat.zero_le _, fun i hi => by omega⟩, .one (.lstN _ _) rfl⟩
    · obtain ⟨hr1, hr2⟩ := hsp rfl
      have ex : ∀ i, i < len → ∃ xs, Fit s xs ∧ ∃ vs, w.cells? 0 (a.add (i * P.cellsOf u)) (P.cellsOf u) = some vs ∧ Tells (fun a => w.cell? a) xs vs := by
        intro i hi
        have h1 := hel i hi
        rw [List.getElem?_eq_getElem (by omega), Option.bind_eq_some_iff] at h1
        obtain ⟨vs, hv, ht⟩ := h1
        obtain ⟨xs, k1, k2⟩ := fit_of_trod s u hs n vs _ ht
        exact ⟨xs, k1, vs, hv, k2⟩
      have hspot : 0 < cap → a.spot = none := by
        intro hc
        have : ∃ vs, w.cells? 0 (a.add (0 * P.cellsOf u)) (P.cellsOf u) = some vs := by
          by_cases hl : 0 < len
          · obtain ⟨_, _, vs, hv, _⟩ := ex 0 hl; exact ⟨vs, hv⟩
          · have h1 := hr2 0 (by omega)
            rw [List.getElem?_eq_getElem (by omega), Option.bind_eq_some_iff] at h1
            obtain ⟨vs, hv, _⟩ := h1
            exact ⟨vs, by rw [show len + 0 = 0 by omega] at hv; exact hv⟩
        obtain ⟨vs, hv⟩ := this
        obtain ⟨g1, g2⟩ := cells_get hv
        have := g2 0 he
        rw [List.getElem?_eq_getElem (by omega), Nat.zero_mul] at this
        have h0 : (a.add 0).add 0 = a := by simp [Addr.add]
        rw [h0] at this
        exact cell_spot this
      by_cases hc : cap = 0
      · subst hc
        have : len = 0 := by omega
        subst this
        exact ⟨[.lst none (P.cellsOf u) 0 fun _ => []], ⟨0, _, rfl, Nat.zero_le _, fun i hi => by omega⟩, .one (.lstN _ _) rfl⟩
      · obtain ⟨b, off, spot⟩ := a
        have hs0 := hspot (by omega)
        simp only at hs0
        subst hs0
        let f : Nat → List IV := fun i => if hi : i < len then (ex i hi).choose else []
        have hf : ∀ i (hi : i < len), Fit s (f i) ∧ ∃ vs, w.cells? 0 ((⟨b, off, none⟩ : Addr).add (i * P.cellsOf u)) (P.cellsOf u) = some vs ∧ Tells (fun a => w.cell? a) (f i) vs := by
          intro i hi
          have e : f i = (ex i hi).choose := dif_pos hi
          rw [e]; exact (ex i hi).choose_spec
        have hlen' : ∀ i, i < len → (f i).length = P.cellsOf u := fun i hi => by
          obtain ⟨_, vs, hv, ht⟩ := hf i hi
          rw [ht.1]; exact (cells_get hv).1
        have hcell : ∀ i j, i < len → j < P.cellsOf u → ∃ v, w.cell? ⟨b, off + i * P.cellsOf u + j, none⟩ = some v ∧ v.oneCell' = true ∧ ∀ x, (f i)[j]? = some x → D (fun a => w.cell? a) x v := by
          intro i j hi hj
          obtain ⟨_, vs, hv, ht⟩ := hf i hi
          obtain ⟨g1, g2⟩ := cells_get hv
          have h1 := g2 j hj
          rw [add_none, add_none] at h1
          have hjl : j < (f i).length := by rw [hlen' i hi]; exact hj
          have h3 := ht.2 j _ (List.getElem?_eq_getElem hjl)
          refine ⟨vs.getD j undef, ?_, h3.2, fun x hx => (ht.2 j x hx).1⟩
          rw [h1, List.getD_eq_getElem?_getD, List.getElem?_eq_getElem (by omega)]; rfl
        refine ⟨[.lst none (P.cellsOf u) len f], ⟨len, f, rfl, by omega, fun i hi => ⟨hlen' i hi, (hf i hi).1⟩⟩, .one ?_ rfl⟩
        refine .lst _ len f b off cap (fun i j => (w.cell? ⟨b, off + i * P.cellsOf u + j, none⟩).getD undef) hlc hlen' (fun i j hi hj => ?_) (fun i j hi hj => ?_) (fun i j x hi hx => ?_)
        · obtain ⟨v, hv, _⟩ := hcell i j hi hj
          show w.cell? _ = some ((w.cell? _).getD undef)
          rw [hv]; rfl
        · obtain ⟨v, hv, h1, _⟩ := hcell i j hi hj
          show ((w.cell? _).getD undef).oneCell' = true
          rw [hv]; exact h1
        · have hj : j < P.cellsOf u := by rw [← hlen' i hi]; exact (List.getElem?_eq_some_iff.1 hx).1
          obtain ⟨v, hv, _, hD⟩ := hcell i j hi hj
          show D _ x ((w.cell? _).getD undef)
          rw [hv]; exact hD x hx
  | .agg l, t, ht, fuel, cs, x, h => by
    simp only [ShpOK] at ht
    obtain ⟨hsz, ⟨fs, hu, hfs⟩ | ⟨n, e, hu, hfs⟩⟩ := ht
    · obtain ⟨ys, n, _, _, hcl, hyl, hy⟩ := DataW.trod_struct hu h
      have := fits_of_trod l 0 _ hfs n cs (fun i o u hi => by
        simp only [List.getElem?_map, Option.map_eq_some_iff] at hi
        obtain ⟨f, hf, e⟩ := hi
        simp only [Prod.mk.injEq] at e
        obtain ⟨rfl, rfl⟩ := e
        have hf' : fs[i]? = some f := by simpa using hf
        have hlt : i < ys.length := by rw [hyl]; exact (Array.getElem?_eq_some_iff.1 hf').1
        exact ⟨_, (hy i f hf').trans (List.getElem?_eq_getElem hlt)⟩) (by omega)
      simpa [Fit] using this
    · obtain ⟨ys, m, _, _, hcl, hyl, hy⟩ := DataW.trod_array hu h
      have := fits_of_trod l 0 _ hfs m cs (fun i o u hi => by
        simp only [List.getElem?_map, Option.map_eq_some_iff] at hi
        obtain ⟨f, hf, e⟩ := hi
        simp only [Prod.mk.injEq] at e
        obtain ⟨rfl, rfl⟩ := e
        obtain ⟨hlt, rfl⟩ := List.getElem?_eq_some_iff.1 hf
        simp at hlt ⊢
        have := hy i hlt
        rw [List.getElem?_eq_getElem (by omega)] at this
        exact ⟨_, _, this⟩) (by omega)
      simpa [Fit] using this
theorem fits_of_trod : ∀ (l : List (Nat × Shp)) (off : Nat) (ts : List (Nat × TypeId)), ShpOKs P l off ts → ∀ (fuel : Nat) (cs : List Value),
    (∀ (i : Nat) o u, ts[i]? = some (o, u) → ∃ x, DataW.trod enc P w 0 (fun _ => true) held fuel u ((cs.drop o).take (P.cellsOf u)) = some x) → cs.length = off + total l →
    ∃ xs, FitL l xs ∧ Tells (fun a => w.cell? a) xs (cs.drop off)
  | [], off, ts, h, fuel, cs, hx, hl => ⟨[], rfl, by
      have : cs.drop off = [] := by simp [total] at hl; simp [hl]
      rw [this]; exact ⟨rfl, fun j y hy => by simp at hy⟩⟩
  | (sz, s) :: l, off, [], h, fuel, cs, hx, hl => by simp [ShpOKs] at h
  | (sz, s) :: l, off, (o, u) :: r, h, fuel, cs, hx, hl => by
    simp only [ShpOKs] at h
    obtain ⟨rfl, rfl, h3, h4⟩ := h
    simp only [total] at hl
    obtain ⟨y, hy⟩ := hx 0 o u rfl
    obtain ⟨xs, k1, k2⟩ := fit_of_trod s u h3 fuel _ y hy
    obtain ⟨zs, m1, m2⟩ := fits_of_trod l (o + P.cellsOf u) r h4 fuel cs (fun i o' u' hi => hx (i + 1) o' u' (by simpa using hi)) (by omega)
    have hlen : xs.length = P.cellsOf u := by rw [k2.1]; simp; omega
    refine ⟨xs ++ zs, ?_, ?_⟩
    · simp only [FitL]; exact ⟨xs, zs, rfl, hlen, k1, m1⟩
    · have e : cs.drop o = (cs.drop o).take (P.cellsOf u) ++ cs.drop (o + P.cellsOf u) := by
        rw [← List.drop_drop, List.take_append_drop]
      rw [e]; exact k2.append m2
end
end
end Go.Proofs.YtllmejkmogepjaaGreatDoor.Ix
