/-
  Ix15: a function's contract, out of the evaluator's word on its body.
-/
import Derived.Test.YtllmejkmogepjaaDoorX26
namespace Go.Proofs.YtllmejkmogepjaaDoor.Ix
set_option linter.unusedVariables false

section
variable {Γ : Env} {S : St} {a : Act} {w : World} {I : Imm} {X : Nat → Prop} {β : Beta} {σ : Nat → Sig} {K : St → Prop}

theorem params_look : ∀ (args : List IV) (k i : Nat), look (params k args) i = if k ≤ i then args.getD (i - k) .dead else .dead
  | [], k, i => by simp [params, look]
  | x :: r, k, i => by
    simp only [params, look_cons, params_look r (k + 1) i]
    by_cases h : k = i
    · subst h; simp
    · rw [if_neg h]
      by_cases h2 : k ≤ i
      · rw [if_pos (by omega), if_pos h2, show i - k = (i - (k + 1)) + 1 by omega]; simp
      · rw [if_neg (by omega), if_neg h2]

theorem V.noOwnCell {I : Imm} {β β' : Beta} {s s' : Sig} (hb : ∀ l d b, β (l + 1) d = some b → β' (l + 1) d = some b) (hs : ∀ t g, s t = some g → s' t = some g) {x : IV} {v : Value} (h : V I β s x v) : clV [] x = true → V I β' s' x v := by
  intro hc
  have h1 : V I β' s x v := V.cl (ds := []) (fun l d b hb' hk => by
    cases l with
    | zero => simpa using hk rfl
    | succ l => exact hb l d b hb') h hc
  exact h1.mono (fun _ _ h => h) (fun _ _ _ h => h) hs

theorem freezeL_eq (ce : Ces) : ∀ l, freezeL ce l = l.map (freeze ce)
  | [] => rfl
  | x :: r => by simp only [freezeL, List.map_cons, freezeL_eq ce r]

theorem D.frz {I I2 : Imm} (hI : ∀ a v, I a = some v → I2 a = some v) (ce : Ces) {x : IV} {v : Value} (h : D I x v) : D I2 (freeze ce x) v := by
  induction h with
  | int k n => exact .int k n
  | bool b => exact .bool b
  | str s => exact .str s
  | lit v h => exact .lit v h
  | nilS => exact .nilS
  | lstN e f => exact .lstN e f
  | lst e n f b off c g hc hl hi h1 h _ => exact (D.lst e n f b off c g hc hl hi h1 h).mono hI
  | vptr e n f i j b off g hi0 hl hi h1 h _ => exact (D.vptr e n f i j b off g hi0 hl hi h1 h).mono hI
  | agg xs vs hl h1 _ ih =>
    simp only [freeze, freezeL_eq]
    exact .agg _ vs (by simpa using hl) h1 fun j y hy => by obtain ⟨z, hz, rfl⟩ := map_get hy; exact ih j z hz
  | tup xs vs hl _ ih =>
    simp only [freeze, freezeL_eq]
    exact .tup _ vs (by simpa using hl) fun j y hy => by obtain ⟨z, hz, rfl⟩ := map_get hy; exact ih j z hz
  | fn f xs ys vs us hl hk _ _ ih ih' =>
    simp only [freeze, freezeL_eq]
    exact .fn f _ _ vs us (by simpa using hl) (by simpa using hk) (fun j y hy => by obtain ⟨z, hz, rfl⟩ := map_get hy; exact ih j z hz) (fun j y hy => by obtain ⟨z, hz, rfl⟩ := map_get hy; exact ih' j z hz)
  | dead v => exact .dead v

open Classical in
/-- What the own cells hold from now on, nobody writes any more. -/
theorem Rel.frz (r : Rel Γ S a w I X β σ) : ∃ I2 : Imm, (∀ a v, I a = some v → I2 a = some v) ∧ (∀ x, X x.block → I2 x = I x) ∧ (∀ x v, V I β (σ 0) x v → V I2 β (σ 0) (freeze S.ce x) v) ∧ OwnR w I2 X β (σ 0) ∧
    MemR Γ.gl S.up w I2 X (fun l d => β (l + 1) d) (fun l => σ (l + 1)) := by
  let P : Addr → Prop := fun x => ∃ d c, lookC S.ce d = some c ∧ noPtrL c = true ∧ β 0 d = some x.block ∧ x.spot = none ∧ x.off < c.length
  let I2 : Imm := fun x => if P x then w.cell? x else I x
  have cell : ∀ d c b, lookC S.ce d = some c → β 0 d = some b → ∃ arr el, w.heap[b]? = some (.cells arr el (0, 0)) ∧ arr.size = c.length ∧ (∀ (j : Nat) (u : Value), arr[j]? = some u → u.oneCell' = true) ∧ (∀ (j : Nat) x, c[j]? = some x → V I β (σ 0) x (arr.getD j undef)) ∧ ¬ X b ∧ ∀ j, I ⟨b, j, none⟩ = none := by
    intro d c b hc hb
    obtain ⟨b', arr, el, h1, h2, h3, h4, h5, h6, h7⟩ := r.mem.cell 0 d c hc
    rw [hb] at h1; cases h1
    exact ⟨arr, el, h2, h3, h4, fun j x hx => by simpa using h5 j x hx, h7, h6⟩
  have hI : ∀ x v, I x = some v → I2 x = some v := by
    intro x v hx
    show (if P x then _ else _) = _
    split
    · exact r.mem.im x v hx
    · exact hx
  have hXP : ∀ x, X x.block → ¬ P x := by
    rintro x hx ⟨d, c, hc, _, hb, _⟩
    obtain ⟨_, _, _, _, _, _, h, _⟩ := cell d c _ hc hb
    exact h hx
  have hup : ∀ l d b (x : Addr), β (l + 1) d = some b → x.block = b → ¬ P x := by
    rintro l d b x hb rfl ⟨d', c, hc, _, hb', _⟩
    have := r.mem.inj _ _ _ _ _ hb hb'; omega
  have him : ∀ x v, I2 x = some v → w.cell? x = some v := by
    intro x v hx
    have hx : (if P x then w.cell? x else I x) = some v := hx
    split at hx
    · exact hx
    · exact r.mem.im x v hx
  refine ⟨I2, hI, fun x hx => if_neg (hXP x hx), fun x v hv => ?_, ⟨fun t g hg => ?_, r.own.inj⟩, ⟨fun l d c hc => ?_, fun l d l' d' b h1 h2 => ?_, fun l d b h1 => r.mem.keys (l + 1) d b h1, him, fun g => (r.mem.glo g).mono hI, r.mem.xb⟩⟩
  · induction hv with
    | data h => exact .data (h.frz hI _)
    | ptr l d off b hb =>
      cases l with
      | succ l => exact .ptr (l + 1) d off b hb
      | zero =>
        simp only [freeze]
        split
        · rename_i c hc
          split
          · rename_i hp
            obtain ⟨arr, el, h2, h3, h4, h5, h6, h7⟩ := cell d c b hc hb
            obtain ⟨arr0, hoff⟩ : True ∧ True := ⟨trivial, trivial⟩
            have hcell : ∀ j, j < c.length → I2 ⟨b, j, none⟩ = some (arr.getD j undef) := by
              intro j hj
              show (if P _ then _ else _) = _
              rw [if_pos ⟨d, c, hc, hp, hb, rfl, hj⟩]
              have hlt : j < arr.size := by omega
              simp [World.cell?, h2, Array.getD_eq_getD_getElem?, hlt]
            have := D.vptr (I := I2) c.length 1 (fun _ => noOwnL c) 0 off b 0 (fun _ j => arr.getD j undef) (by omega) (fun i _ => by rw [noOwnL_eq]; simp) (fun i j hi hj => by
              have : i = 0 := by omega
              subst this; simpa using hcell j hj) (fun i j hi hj => h4 j _ (by rw [Array.getD_eq_getD_getElem?]; have : j < arr.size := by omega
                                                                               simp [this])) (fun i j x hi hx => by
              rw [noOwnL_eq] at hx
              obtain ⟨y, hy, rfl⟩ := map_get hx
              exact ((h5 j y hy).data' (noPtrL_get hp j y hy)).mono hI)
            exact .data (by simpa using this)
          · exact .ptr 0 d off b hb
        · exact .ptr 0 d off b hb
    | ownN t e f => exact .ownN t e f
    | raw t e n b el ht => exact .raw t e n b el ht
    | own t e n f b el c g ht hc hl hi h1 h => exact .own t e n f b el c g ht hc hl (fun i j h h' => hI _ _ (hi i j h h')) h1 (fun i j x a b => (h i j x a b).mono hI)
    | agg xs vs hl h1 _ ih =>
      simp only [freeze, freezeL_eq]
      exact .agg _ vs (by simpa using hl) h1 fun j y hy => by obtain ⟨z, hz, rfl⟩ := map_get hy; exact ih j z hz
    | tup xs vs hl _ ih =>
      simp only [freeze, freezeL_eq]
      exact .tup _ vs (by simpa using hl) fun j y hy => by obtain ⟨z, hz, rfl⟩ := map_get hy; exact ih j z hz
    | fn f xs ys vs us hl hk _ _ ih ih' =>
      simp only [freeze, freezeL_eq]
      exact .fn f _ _ vs us (by simpa using hl) (by simpa using hk) (fun j y hy => by obtain ⟨z, hz, rfl⟩ := map_get hy; exact ih j z hz) (fun j y hy => by obtain ⟨z, hz, rfl⟩ := map_get hy; exact ih' j z hz)
  · obtain ⟨cur, c1, c2, c3, c4, c5, c6, c7⟩ := r.own.row t g hg
    refine ⟨cur, c1, c2, c3, c4, fun j hj => ?_, c6, c7⟩
    show (if P _ then _ else _) = _
    rw [if_neg]
    · exact c5 j hj
    · rintro ⟨d, c, hc, _, hb, _⟩; exact c7 0 d hb
  · obtain ⟨b, arr, el, h1, h2, h3, h4, h5, h6, h7⟩ := r.mem.cell (l + 1) d c hc
    refine ⟨b, arr, el, h1, h2, h3, h4, fun j x hx => ?_, fun j => ?_, h7⟩
    · have := (h5 j x hx).mono hI (fun _ _ _ h => h) (fun _ _ h => h)
      have e : (fun l' => β (l + 1 + l')) = fun l' d => β (l + l' + 1) d := by funext l'; rw [show l + 1 + l' = l + l' + 1 by omega]
      rw [e] at this; exact this
    · show (if P _ then _ else _) = _
      rw [if_neg (hup l d b _ h1 rfl)]; exact h6 j
  · have := r.mem.inj (l + 1) d (l' + 1) d' b h1 h2
    exact ⟨by omega, this.2⟩

/-- A block of put-off calls may turn. -/
theorem Rel.putDef {D : Nat} {c : Option (List Deferred)} (r : Rel Γ S a w I X β σ) (hl : w.heap[D]? = some (.deferred c)) {ds : List Deferred} (o' : Obj) (hm : Dfs Γ.ds ds (w.putObj D o') X) : Rel Γ S { a with defers := ds } (w.putObj D o') I X β σ := by
  refine ⟨r.tm, hm, r.nt, ⟨fun l' d c hc => ?_, r.mem.inj, r.mem.keys, fun x v hx => cell_put (r.mem.im x v hx) hl rfl, r.mem.glo, fun b h => by simpa using r.mem.xb b h⟩, ⟨fun t g hg => ?_, r.own.inj⟩⟩
  · obtain ⟨b, arr, el, h1, h2, h3, h4, h5, h6, h7⟩ := r.mem.cell l' d c hc
    exact ⟨b, arr, el, h1, by rw [World.putObj_heap_other (fixed_cells h2 hl rfl)]; exact h2, h3, h4, h5, h6, h7⟩
  · obtain ⟨cur, k1, k2⟩ := r.own.row t g hg
    exact ⟨cur, by rw [World.putObj_heap_other (fixed_cells k1 hl rfl)]; exact k1, k2⟩

/-- On the way out: the marks are taken up. -/
theorem leaves_marks (hds : Γ.ds = none) {n : Nat} {fn : Func} {R : Ending → World → Prop} {w0 : World} {I0 : Imm} {X0 : Nat → Prop} (h0 : ∀ (b : Nat) o, w0.heap[b]? = some o → fixed o = true → X b) (hx : ∀ b, X0 b → X b)
    (hR : ∀ w', Rel Γ S { a with defers := [] } w' I X β σ → Ext I0 X0 w0 I w' → ∃ v, (results fn a.tmps).run Γ.P w' = .ok v w' ∧ R (.returned v) w') :
    ∀ (Ds : List Nat) (w : World), Ds.Nodup → (∀ D ∈ Ds, w.heap[D]? = some (.deferred (some [])) ∧ ¬ X D) → Rel Γ S { a with defers := Ds.map fun D => { target := .collected D, args := #[] } } w I X β σ → Ext I0 X0 w0 I w →
      LeavesInM (Fw none) n Γ.P fn a.tmps R (Ds.map fun D => { target := .collected D, args := #[] }) .returning w
  | [], w, _, _, r, he => hR w r he
  | D :: Ds, w, hn, hD, r, he => by
    obtain ⟨hn1, hn2⟩ := List.nodup_cons.1 hn
    obtain ⟨g1, g2⟩ := hD D (by simp)
    have hD' : ∀ E ∈ Ds, (w.putObj D (.deferred none)).heap[E]? = some (.deferred (some [])) ∧ ¬ X E := fun E hE => by
      have hne : E ≠ D := fun e => hn1 (e ▸ hE)
      rw [World.putObj_heap_other hne]; exact hD E (by simp [hE])
    refine ⟨nofun, .inl ⟨D, _, rfl, run_takeDeferred g1, leaves_marks hds h0 hx hR Ds _ hn2 hD' ?_ ?_⟩⟩
    · exact r.putDef g1 (.deferred none) ⟨⟨Ds, rfl, hn2, hD'⟩, fun d e => (by rw [hds] at e; cases e)⟩
    · refine ⟨he.os, he.tape, he.output, by simpa using he.size, fun b hb => ?_, he.imm, he.new, fun k o hk ho => ?_⟩
      · have hne : b ≠ D := fun e => g2 (e ▸ hx b hb)
        rw [World.putObj_heap_other hne]; exact he.keep b hb
      · have hne : k ≠ D := fun e => g2 (e ▸ h0 k o hk ho)
        rw [World.putObj_heap_other hne]; exact he.fix k o hk ho

theorem comp_of_body {C : Con} (hmo : Γ.P.follows .mixedOrders = true) (hT : TOK Γ.P Γ.T) (hC : ∀ g up args r up', C g up args r up' → Comp Γ.P Γ.gl g up args r up') (hV : ∀ g c n xs, Γ.vis g c n xs → Vis Γ.P Γ.gl g c n xs) {g : Nat} {fn : Func} {c : Code} (hf : Γ.P.funcs[g]? = some fn)
    (hb : fn.body = some c) (hn : (fn.name == "runtime.NumGoroutine") = false) {up up2 : List Ces} {args : List IV} {rv : IV}
    (h : ibody C Γ fn up args fun r up' => r = rv ∧ up' = up2) : Comp Γ.P Γ.gl g up args rv up2 := by
  refine ⟨⟨fn, c, hf, hb, hn⟩, fun vals w I X β σ hm hlen hargs => ?_⟩
  refine (callsIn_wide (n := 1)).1 (callsIn_of_wp_marks (F := Fw none) hf hb trivial ?_)
  simp only [ibody, hb, fps_eq] at h
  let Γ' : Env := ⟨Γ.P, Γ.T, Γ.gl, fn.ntmps, Γ.vis, none, none⟩
  let σu : Nat → Sig := fun l => match l with | 0 => noSig | l + 1 => σ l
  let X1 : Nat → Prop := fun b => X b ∨ ∃ o, w.heap[b]? = some o ∧ fixed o = true
  have r0 : Rel Γ' ⟨params 0 args, [], up⟩ { tmps := vals ++ Array.replicate (fn.ntmps - vals.size) undef, defers := [] } w I X1 (under β) σu := by
    refine ⟨fun i => ?_, ⟨.nil _ _, fun d e => (by cases e)⟩, ?_, ⟨fun l d c hc => ?_, fun l d l' d' b h1 h2 => ?_, fun l d b h1 => ?_, hm.im, hm.glo, fun b hb => ?_⟩, ⟨fun t g h => (by cases h), fun t t' g g' h => (by cases h)⟩⟩
    · rw [params_look]
      simp only [Nat.zero_le, if_true, Nat.sub_zero]
      cases hi : args[i]? with
      | none => simp only [List.getD_eq_getElem?_getD, hi, Option.getD_none]; exact .data (.dead _)
      | some x =>
        have hlt : i < vals.size := by rw [← hlen]; exact (List.getElem?_eq_some_iff.1 hi).1
        have := hargs i x hi
        simp only [List.getD_eq_getElem?_getD, hi, Option.getD_some]
        rw [Array.getD_eq_getD_getElem?] at this ⊢
        rw [Array.getElem?_append_left hlt]; exact this
    · simp only [Array.size_append, Array.size_replicate]; show fn.ntmps ≤ _; omega
    · cases l with
      | zero => simp [upC, lookC] at hc
      | succ l =>
        obtain ⟨b, arr, el, h1, h2, h3, h4, h5, h6, h7⟩ := hm.cell l d c hc
        refine ⟨b, arr, el, h1, h2, h3, h4, fun j x hx => ?_, h6, fun hx => ?_⟩
        · have := h5 j x hx
          have e : (fun l' => under β (l + 1 + l')) = fun l' => β (l + l') := by funext l'; rw [show l + 1 + l' = (l + l') + 1 by omega]; rfl
          rw [e]; exact this
        · rcases hx with hx | ⟨o, ho, hf⟩
          · exact h7 hx
          · rw [h2] at ho; cases ho; cases hf
    · cases l with
      | zero => cases h1
      | succ l => cases l' with
        | zero => cases h2
        | succ l' => have := hm.inj l d l' d' b h1 h2; exact ⟨by omega, this.2⟩
    · cases l with
      | zero => cases h1
      | succ l => exact hm.keys l d b h1
    · rcases hb with hb | ⟨o, ho, _⟩
      · exact hm.xb b hb
      · exact heap_lt ho
  have hw := iwp_sound (X := X1) (Γ := Γ') hmo hT ⟨hC, rfl, rfl⟩ hV 1 c _ _ _ w I (under β) σu h r0
  have fin : ∀ a' w', AftG Γ' (Wn fun _ => true) (fun S => resL Γ' S fn.results.toList fun vs => fv (freeze S.ce (one vs)) fun v => match clV [] v with
      | true => v = rv ∧ S.up = up2
      | false => False) I X1 w (under β) σu { tmps := vals ++ Array.replicate (fn.ntmps - vals.size) undef, defers := [] } a' w' → LeavesInM (Fw none) 1 Γ.P fn a'.tmps (fun e w' => ∃ u I' s, e = .returned u ∧ V I' (under β) s rv u ∧ OwnR w' I' X (under β) s ∧ MemR Γ.gl up2 w' I' X β σ ∧ Ext I X w I' w') a'.defers .returning w' := by
    rintro a' w' ⟨S', I', X', β', σ', hk, r, _, ⟨he, hx'⟩, hab, _⟩
    have r := r.sub hx'
    obtain ⟨Ds, d1, d2, d3⟩ := r.df.m
    rw [d1]
    refine leaves_marks rfl (Γ := Γ') (S := S') (a := a') (I := I') (X := X1) (X0 := X) (w0 := w) (I0 := I) (β := β') (σ := σ') (fun b o h1 h2 => .inr ⟨o, h1, h2⟩) (fun b h => .inl h) ?_ Ds w' d2 d3 (by rw [← d1]; exact r) (he.sub fun b h => .inl h)
    intro w2 r2 he2
    obtain ⟨ivs, us, k1, k2, k3, k4⟩ := resL_sound (Γ := Γ') hT r2 _ _ hk
    rw [fv_eq] at k1
    split at k1
    case h_2 => exact k1.elim
    rename_i hcl
    obtain ⟨rfl, rfl⟩ := k1
    have hbe : ∀ l d, β' (l + 1) d = β l d := fun l d => by rw [hab.1 l]; rfl
    obtain ⟨I3, z1, z2, z3, z4, z5⟩ := r2.frz
    refine ⟨if h : us.toArray.size = 1 then us.toArray[0] else .tuple us.toArray, ?_, _, I3, σ' 0, rfl, ?_, ?_, ?_, ?_⟩
    · have k4' : (fn.results.toList.mapM (resSem a'.tmps)).run Γ.P w2 = .ok us w2 := k4
      show (results fn a'.tmps).run Γ.P w2 = _
      simp only [results_eq, Array.mapM_eq_mapM_toList, Sem.run_bind, Sem.run_map, k4']; rfl
    · refine V.noOwnCell (β := β') (fun l d b hb => by rw [hbe] at hb; exact hb) (fun _ _ h => h) (z3 _ _ ?_) hcl
      cases ivs with
      | nil =>
        have : us = [] := by cases us <;> simp at k2 ⊢
        subst this
        simp only [one]
        exact .tup [] _ rfl (fun j x hx => by simp at hx)
      | cons x ivs =>
        cases ivs with
        | nil =>
          obtain ⟨u, rfl⟩ : ∃ u, us = [u] := by
            cases us with
            | nil => simp at k2
            | cons u us => cases us with
              | nil => exact ⟨u, rfl⟩
              | cons u' us => simp at k2
          simpa [one] using k3 0 x (by simp)
        | cons y ivs =>
          have h2 : ¬ us.toArray.size = 1 := by simp at k2 ⊢; omega
          rw [dif_neg h2]
          simp only [one]
          exact .tup _ _ (by simpa using k2) (fun j z hz => by simpa using k3 j z hz)
    · refine ⟨fun t g h => ?_, z4.inj⟩
      obtain ⟨cur, c1, c2, c3, c4, c5, c6, c7⟩ := z4.row t g h
      refine ⟨cur, c1, c2, c3, c4, c5, fun hx => c6 (.inl hx), fun l d hb => ?_⟩
      cases l with
      | zero => cases hb
      | succ l => exact c7 (l + 1) d (by rw [hbe]; exact hb)
    · have e1 : (fun l d => β' (l + 1) d) = β := by funext l d; exact hbe l d
      have e2 : (fun l => σ' (l + 1)) = σ := by funext l; exact hab.2 l
      rw [e1, e2] at z5
      exact z5.sub fun b h => .inl h
    · exact ⟨he2.os, he2.tape, he2.output, he2.size, he2.keep, fun x v hx => z1 x v (he2.imm x v hx), fun x hx => (z2 x (.inl hx)).trans (he2.new x hx), he2.fix⟩
  refine wpIn_mono hw fun e a' w' h' => ?_
  cases e with
  | normal => exact fin a' w' h'
  | ret => exact fin a' w' h'
  | exit id => obtain ⟨S', I', X', β', σ', hk, _⟩ := h'; exact hk.elim
  | goto l => exact h'.elim
  | panic ch => exact h'.elim
  | outgrown => exact h'.elim

end
end Go.Proofs.YtllmejkmogepjaaDoor.Ix
