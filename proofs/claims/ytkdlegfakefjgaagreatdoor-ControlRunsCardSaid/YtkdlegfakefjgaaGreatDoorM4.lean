/-
  Ix14: code.
-/
import Derived.Test.YtkdlegfakefjgaaGreatDoorM3
namespace Go.Proofs.YtkdlegfakefjgaaGreatDoor.Ix
set_option linter.unusedVariables false

section
variable {Γ : Env} {S : St} {a : Act} {w : World} {I : Imm} {X : Nat → Prop} {β : Beta} {σ : Nat → Sig} {K : St → Prop}

theorem leT_look {S : Tms} : ∀ {T : Tms}, leT S T → ∀ i, look T i = .dead ∨ leV (look S i) (look T i)
  | [], _, i => .inl rfl
  | (k, v) :: r, h, i => by
    simp only [leT] at h
    rw [look_cons]
    split
    · rename_i e; subst e; exact .inr h.1
    · exact leT_look h.2 i

theorem leC_look {S : Ces} : ∀ {T : Ces}, leC S T → ∀ d c, lookC T d = some c → ∃ x, lookC S d = some x ∧ leL x c
  | [], _, d, c, h => by simp [lookC] at h
  | (k, v) :: r, h, d, c, hc => by
    simp only [leC] at h
    rw [lookC_cons] at hc
    split at hc
    · rename_i e; subst e
      simp at hc; subst hc
      obtain ⟨h1, _⟩ := h
      split at h1
      · rename_i x hx; exact ⟨x, hx, h1⟩
      · exact h1.elim
    · exact leC_look h.2 d c hc

theorem mem_keys : ∀ {T : Ces} {d : Nat}, (keys T).any (Nat.beq d) = true ↔ (lookC T d).isSome = true
  | [], d => by simp [keys, lookC]
  | (k, v) :: r, d => by
    rw [lookC_cons]
    simp only [keys, List.any_cons, Bool.or_eq_true, mem_keys (T := r)]
    by_cases h : k = d
    · subst h; simp
    · simp [h]; intro e; exact absurd e.symm h

theorem clL_get {ds : List Nat} : ∀ {xs : List IV}, clL ds xs = true → ∀ (j : Nat) x, xs[j]? = some x → clV ds x = true
  | [], _, j, x, h => by simp at h
  | y :: r, h, j, x, hx => by
    simp [clL] at h
    cases j with
    | zero => simp at hx; subst hx; exact h.1
    | succ j => exact clL_get h.2 j x (by simpa using hx)

theorem V.cl {ds : List Nat} {β' : Beta} {s : Sig} (hb : ∀ l d b, β l d = some b → (l = 0 → ds.any (Nat.beq d) = true) → β' l d = some b) {x : IV} {v : Value} (h : V I β s x v) : clV ds x = true → V I β' s x v := by
  induction h with
  | data h => exact fun _ => .data h
  | ptr l d off b h => exact fun hc => .ptr l d off b (hb l d b h (fun e => by subst e; simpa [clV] using hc))
  | ownN t e f => exact fun _ => .ownN t e f
  | own t e n f b el c g ht hc hl hi h1 h => exact fun _ => .own t e n f b el c g ht hc hl hi h1 h
  | raw t e n b el ht => exact fun _ => .raw t e n b el ht
  | row d e n b k h hk => exact fun hc => .row d e n b k (hb 0 d b h (fun _ => by simpa [clV] using hc)) hk
  | agg xs vs hl h1 _ ih => exact fun hc => .agg xs vs hl h1 fun j x hx => ih j x hx (clL_get (by simpa [clV] using hc) j x hx)
  | tup xs vs hl _ ih => exact fun hc => .tup xs vs hl fun j x hx => ih j x hx (clL_get (by simpa [clV] using hc) j x hx)
  | fn f xs ys vs us hl hk _ _ ih ih' =>
    intro hc
    simp [clV] at hc
    exact .fn f xs ys vs us hl hk (fun j x hx => ih j x hx (clL_get hc.1 j x hx)) (fun j x hx => ih' j x hx (clL_get hc.2 j x hx))

theorem clT_look {ds : List Nat} : ∀ {T : Tms}, clT ds T = true → ∀ i, clV ds (look T i) = true
  | [], _, i => rfl
  | (k, v) :: r, h, i => by
    simp [clT] at h
    rw [look_cons]
    split
    · exact h.1
    · exact clT_look h.2 i
theorem clC_look {ds : List Nat} : ∀ {T : Ces}, clC ds T = true → ∀ d c, lookC T d = some c → clL ds c = true
  | [], _, d, c, h => by simp [lookC] at h
  | (k, v) :: r, h, d, c, hc => by
    simp [clC] at h
    rw [lookC_cons] at hc
    split at hc
    · simp at hc; subst hc; exact h.1
    · exact clC_look h.2 d c hc

/-- A state told as a weaker one. -/
theorem Rel.le {T : St} (h : leS S T) (r : Rel Γ S a w I X β σ) : ∃ β', Rel Γ T a w I X β' σ ∧ Above β β' σ σ := by
  have hcl := h.cl
  simp only [Bool.and_eq_true] at hcl
  let β' : Beta := fun l d => if l = 0 ∧ (lookC T.ce d).isSome = false then none else β l d
  have hsub : ∀ l d b, β' l d = some b → β l d = some b ∧ (l = 0 → (lookC T.ce d).isSome = true) := by
    intro l d b hb
    replace hb : (if l = 0 ∧ (lookC T.ce d).isSome = false then none else β l d) = some b := hb
    split at hb
    · cases hb
    · rename_i hn
      exact ⟨hb, fun e => by
        subst e
        cases hs : (lookC T.ce d).isSome with
        | true => rfl
        | false => exact absurd ⟨rfl, hs⟩ hn⟩
  have hmk : ∀ l d b, β l d = some b → (l = 0 → (keys T.ce).any (Nat.beq d) = true) → β' l d = some b := by
    intro l d b hb hk
    show (if _ then _ else _) = _
    rw [if_neg]; exact hb
    rintro ⟨rfl, h0⟩
    rw [mem_keys.1 (hk rfl)] at h0; cases h0
  refine ⟨β', ⟨fun i => ?_, r.df, r.nt, ⟨fun l d c hc => ?_, fun l d l' d' b hb hb' => r.mem.inj l d l' d' b (hsub _ _ _ hb).1 (hsub _ _ _ hb').1, fun l d b hb => ?_, r.mem.im, r.mem.glo, r.mem.xb, r.mem.gz⟩,
    ⟨fun t g hg => ?_, r.own.inj⟩⟩, fun l => ?_, fun l => rfl⟩
  · refine V.cl hmk ?_ (clT_look hcl.1 i)
    rcases leT_look h.tm i with e | e
    · rw [e]; exact .data (.dead _)
    · exact leV_sound _ _ _ e (r.tm i)
  · cases l with
    | zero =>
      simp only [upC] at hc
      obtain ⟨x, hx, hle⟩ := leC_look h.ce d c hc
      obtain ⟨b, arr, el, h1, h2, h3, h4, h5, h6⟩ := r.mem.cell 0 d x hx
      obtain ⟨g1, g2⟩ := leL_sound x c hle (fun j => arr.getD j undef) h5
      refine ⟨b, arr, el, hmk 0 d b h1 (fun _ => mem_keys.2 (by rw [hc]; rfl)), h2, by rw [h3, g1], h4, fun j y hy => ?_, h6⟩
      refine V.cl (ds := keys T.ce) (fun l' d' b' hb' hk => hmk (0 + l') d' b' hb' (fun e => hk (by omega))) (g2 j y hy) (clL_get (clC_look hcl.2 d c hc) j y hy)
    | succ l =>
      simp only [upC] at hc
      rw [← h.up] at hc
      obtain ⟨b, arr, el, h1, h2, h3, h4, h5, h6⟩ := r.mem.cell (l + 1) d c hc
      refine ⟨b, arr, el, hmk _ d b h1 (fun e => by omega), h2, h3, h4, fun j y hy => (h5 j y hy).mono (fun _ _ h => h) (fun l' d' b' hb' => hmk (l + 1 + l') d' b' hb' (fun e => by omega)) (fun _ _ h => h), h6⟩
  · obtain ⟨hb1, hb2⟩ := hsub l d b hb
    cases l with
    | zero =>
      have := hb2 rfl
      simp only [upC]
      exact ⟨_, (Option.some_get this).symm⟩
    | succ l =>
      obtain ⟨c, hc⟩ := r.mem.keys (l + 1) d b hb1
      exact ⟨c, by simp only [upC] at hc ⊢; rw [← h.up]; exact hc⟩
  · obtain ⟨cur, k1, k2, k3, k4, k5, k6, k7⟩ := r.own.row t g hg
    exact ⟨cur, k1, k2, k3, k4, k5, k6, fun l d hb => k7 l d (hsub _ _ _ hb).1⟩
  · funext d
    show (if _ then _ else _) = _
    rw [if_neg (by omega)]

def resSem (tmps : Array Value) (v : ResultVar) : Sem Value := match v with
  | .tmp t => pure (tmps.getD t undef)
  | .cell x t => do loadVar t (← asAddr (tmps.getD x undef))

theorem results_eq (fn : Func) (tmps : Array Value) : results fn tmps = (do let vs ← fn.results.mapM (resSem tmps); pure (if h : vs.size = 1 then vs[0] else .tuple vs)) := by
  unfold results
  have : (fun v => match v with
    | ResultVar.tmp t => pure (tmps.getD t undef)
    | ResultVar.cell a t => do loadVar t (← asAddr (tmps.getD a undef)) : ResultVar → Sem Value) = resSem tmps := by
    funext x; cases x <;> rfl
  rw [← this]; rfl

theorem resI_sound (hT : TOK Γ.P Γ.T) {v : ResultVar} {K : IV → Prop} (h : resI Γ S v K) (r : Rel Γ S a w I X β σ) :
    ∃ iv u, K iv ∧ V I β (σ 0) iv u ∧ (resSem a.tmps v).run Γ.P w = .ok u w := by
  cases v with
  | tmp t => simp only [resI, fv_eq] at h; exact ⟨_, _, h, r.tm t, rfl⟩
  | cell x t =>
    simp only [resI, fv_eq] at h
    obtain ⟨h0, h⟩ := tyK_spec h
    obtain ⟨inf, dd, z, tk⟩ := TOK.get hT (t := t) (.inl (by omega))
    obtain ⟨v, u, hk, hv, hr⟩ := loadI_sound tk.msize tk.agg h0 tk.one h r (r.tm x)
    refine ⟨v, u, hk, hv, ?_⟩
    have : ∀ (p : Value), (Instr.loadAt t p).run Γ.P w = .ok u w → (do loadVar t (← asAddr p) : Sem Value).run Γ.P w = .ok u w := by
      intro p hp
      cases p with
      | pointer q =>
        cases q with
        | none => simp [Instr.loadAt, Instr.sureAddr] at hp
        | some q => simpa [Instr.loadAt, Instr.sureAddr, asAddr] using hp
      | _ => simp [Instr.loadAt, Instr.sureAddr] at hp
    exact this _ hr

theorem resL_sound (hT : TOK Γ.P Γ.T) (r : Rel Γ S a w I X β σ) : ∀ (rs : List ResultVar) (K : List IV → Prop), resL Γ S rs K →
    ∃ ivs us, K ivs ∧ ivs.length = us.length ∧ (∀ (j : Nat) x, ivs[j]? = some x → V I β (σ 0) x (us.getD j undef)) ∧
      (rs.mapM (resSem a.tmps)).run Γ.P w = .ok us w
  | [], K, h => ⟨[], [], h, rfl, fun j x hx => by simp at hx, rfl⟩
  | v :: rs, K, h => by
    simp only [resL] at h
    obtain ⟨iv, u, h1, h2, h3⟩ := resI_sound hT h r
    obtain ⟨ivs, us, g1, g2, g3, g4⟩ := resL_sound hT r rs _ h1
    refine ⟨iv :: ivs, u :: us, g1, by simp [g2], fun j x hx => ?_, ?_⟩
    · cases j with
      | zero => simp at hx; subst hx; simpa using h2
      | succ j => simpa using g3 j x (by simpa using hx)
    · simp only [List.mapM_cons, Sem.run_bind, h3, Result.andThen_ok, g4]; rfl

end
end Go.Proofs.YtkdlegfakefjgaaGreatDoor.Ix
