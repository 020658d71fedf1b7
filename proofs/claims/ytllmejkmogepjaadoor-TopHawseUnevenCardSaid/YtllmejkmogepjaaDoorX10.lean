/-
  Ix10: every operation of the evaluator but calls and appends.
-/
import Derived.Test.YtllmejkmogepjaaDoorX9
import Derived.Laws.MakeOwn
namespace Go.Proofs.YtllmejkmogepjaaDoor.Ix
set_option linter.unusedVariables false

section
variable {Γ : Env} {S : St} {a : Act} {w : World} {I : Imm} {X : Nat → Prop} {β : Beta} {σ : Nat → Sig} {K : St → Prop}

theorem Aft.mono {K K' : St → Prop} (hk : ∀ S, K S → K' S) {a' : Act} {w' : World} (h : Aft Γ K I X w β σ a' w') : Aft Γ K' I X w β σ a' w' :=
  let ⟨S', I', β', σ', h1, h2⟩ := h
  ⟨S', I', β', σ', hk _ h1, h2⟩

theorem Aft.sig {σ' : Nat → Sig} (hs : ∀ l, σ' (l + 1) = σ (l + 1)) {a' : Act} {w' : World} (h : Aft Γ K I X w β σ' a' w') : Aft Γ K I X w β σ a' w' :=
  let ⟨S', I', β', σ'', h1, h2, h3, h4⟩ := h
  ⟨S', I', β', σ'', h1, h2, h3, h4.1, fun l => (h4.2 l).trans (hs l)⟩

theorem litF_spec {e : Nat} {xs : List IV} {n : Nat} (hl : xs.length = n * e) (i : Nat) (hi : i < n) : (litF e xs i).length = e ∧ ∀ j, (litF e xs i)[j]? = if j < e then xs[i * e + j]? else none := by
  have hb : i * e + e ≤ n * e := by
    have := Nat.mul_le_mul_right e (show i + 1 ≤ n by omega)
    rw [Nat.add_mul] at this; omega
  unfold litF
  rw [dropN_eq]
  split
  · rename_i t ht
    obtain ⟨rfl, hn⟩ := takeN_spec _ _ _ ht
    refine ⟨by simp at hn ⊢; omega, fun j => ?_⟩
    rw [List.getElem?_take, List.getElem?_drop]
  · rename_i hnone
    exfalso
    have : ∀ (n : Nat) (l : List IV), takeN n l = none → l.length < n := by
      intro n
      induction n with
      | zero => intro l h; simp [takeN] at h
      | succ n ih =>
        intro l h
        cases l with
        | nil => simp
        | cons x r =>
          simp only [takeN] at h
          split at h
          · cases h
          · rename_i h2; have := ih r h2; simp; omega
    have := this _ _ hnone
    simp at this; omega

theorem run_mapM_places {P : Program} (fs : List Field) (szs : List Nat) (hl : fs.length = szs.length) (h : ∀ (i : Nat) f s, fs[i]? = some f → szs[i]? = some s → (P.info? f.type).map (·.size) = some s) (w : World) :
    (fs.mapM (fun f => do pure (f.offset, ← sizeOf f.type) : Field → Sem (Nat × Nat))).run P w = .ok ((fs.zip szs).map fun (f, s) => (f.offset, s)) w := by
  induction fs generalizing szs with
  | nil => cases szs <;> simp at hl ⊢
  | cons f fs ih =>
    cases szs with
    | nil => simp at hl
    | cons s szs =>
      have h0 := h 0 f s (by simp) (by simp)
      have := ih szs (by simpa using hl) (fun i f s hf hs => h (i + 1) f s (by simpa using hf) (by simpa using hs))
      simp only [List.mapM_cons, Sem.run_bind, run_sz h0, Result.andThen_ok, Sem.run_pure, this]
      rfl

theorem evoL_eq (Γ : Env) (S : St) : ∀ l, evoL Γ S l = l.map (evo Γ S)
  | [] => rfl
  | x :: r => by simp [evoL, evoL_eq Γ S r]

theorem fill_size {place : Nat → Option (Nat × Nat)} : ∀ {parts : List (Nat × Value)} {cells cs : Array Value}, Instr.fill place cells parts = some cs → cs.size = cells.size
  | [], cells, cs, h => by simp [Instr.fill] at h; rw [h]
  | (i, v) :: rest, cells, cs, h => by
    simp only [Instr.fill] at h
    split at h
    · cases h
    · split at h
      · cases h
      · rename_i off size _ _
        rw [fill_size h]
        have := (fill_foldl off v.cells.toList 0 cells).1
        rw [← Array.foldl_toList, Array.toList_zipIdx]; exact this

theorem noPtrL_get : ∀ {xs : List IV}, noPtrL xs = true → ∀ (j : Nat) x, xs[j]? = some x → noPtr x = true
  | [], _, j, x, h => by simp at h
  | y :: r, h, j, x, hx => by
    simp [noPtrL] at h
    cases j with
    | zero => simp at hx; subst hx; exact h.1
    | succ j => exact noPtrL_get h.2 j x (by simpa using hx)

theorem V.data' {I : Imm} {β : Beta} {σ : Sig} {x : IV} {v : Value} (h : V I β σ x v) : noPtr x = true → D I (Ix.noOwn x) v := by
  induction h with
  | data h => exact fun _ => h.noOwn
  | ptr l d off b h => intro hn; simp [noPtr] at hn
  | ownN t e f => exact fun _ => .lstN e f
  | own t e n f b el c g ht hc hl hi h1 h => exact fun _ => .lst e n f b 0 c g hc hl (fun i j a b => by simpa using hi i j a b) h1 h
  | raw t e n b el ht => exact fun _ => .dead _
  | agg xs vs hl h1 _ ih =>
    intro hn
    simp only [Ix.noOwn, noOwnL_eq]
    exact .agg _ vs (by simpa using hl) h1 fun j x hx => by obtain ⟨y, hy, rfl⟩ := map_get hx; exact ih j y hy (noPtrL_get (by simpa [noPtr] using hn) j y hy)
  | tup xs vs hl _ ih =>
    intro hn
    simp only [Ix.noOwn, noOwnL_eq]
    exact .tup _ vs (by simpa using hl) fun j x hx => by obtain ⟨y, hy, rfl⟩ := map_get hx; exact ih j y hy (noPtrL_get (by simpa [noPtr] using hn) j y hy)
  | fn f xs ys vs us hl hk _ _ ih ih' =>
    intro hn
    simp [noPtr] at hn
    simp only [Ix.noOwn, noOwnL_eq]
    exact .fn f _ _ vs us (by simpa using hl) (by simpa using hk) (fun j x hx => by obtain ⟨y, hy, rfl⟩ := map_get hx; exact ih j y hy (noPtrL_get hn.1 j y hy))
      (fun j x hx => by obtain ⟨y, hy, rfl⟩ := map_get hx; exact ih' j y hy (noPtrL_get hn.2 j y hy))

theorem bnd_run {P : Program} (r : Rel Γ S a w I X β σ) (x : Option Operand) (d : Int) {n : Int} (h : bnd d (x.map (evo Γ S)) = some n) :
    (x = none ∧ n = d) ∨ ∃ y k, x = some y ∧ a.eval y = .int k n := by
  cases x with
  | none => simp [bnd] at h; exact .inl ⟨rfl, h.symm⟩
  | some y =>
    right
    have hv := evo_V r y
    simp only [Option.map_some] at h
    unfold bnd at h
    split at h
    · rename_i he; cases he
    · rename_i k m he
      simp at he h; subst h
      rw [he] at hv
      exact ⟨y, k, rfl, hv.int_inv⟩
    · cases h

theorem run_sliceBound {P : Program} {k : IntKind} {n : Int} {y : Nat} (h0 : 0 ≤ n) (h1 : n ≤ y) (code : BoundsCode) (w : World) : (Instr.sliceBound (.int k n) y code).run P w = .ok n.toNat w := by
  simp [Instr.sliceBound, asIntOf, h0, h1]

theorem run_sliceBounds {P : Program} (r : Rel Γ S a w I X β σ) (lo hi : Option Operand) (isS : Bool) (len cap : Nat) {l h : Int} (hl : bnd 0 (lo.map (evo Γ S)) = some l) (hh : bnd len (hi.map (evo Γ S)) = some h)
    (h0 : 0 ≤ l) (h1 : l ≤ h) (h2 : h ≤ len) (hlc : len ≤ cap) (hsame : isS = false → cap = len) :
    (Instr.sliceBounds isS len cap (lo.map a.eval) (hi.map a.eval) none).run P w = .ok (l.toNat, h.toNat, cap) w := by
  have hhi : h ≤ (cap : Int) := by omega
  rcases bnd_run (P := P) r hi len hh with ⟨rfl, rfl⟩ | ⟨y, k, rfl, hy⟩
  · rcases bnd_run (P := P) r lo 0 hl with ⟨rfl, rfl⟩ | ⟨y', k', rfl, hy'⟩
    · simp [Instr.sliceBounds]
    · have e1 := fun c => run_sliceBound (P := P) (k := k') (n := l) (y := len) h0 (by omega) c w
      simp [Instr.sliceBounds, hy', e1]
  · have e2 := fun c => run_sliceBound (P := P) (k := k) (n := h) (y := cap) (by omega) hhi c w
    rcases bnd_run (P := P) r lo 0 hl with ⟨rfl, rfl⟩ | ⟨y', k', rfl, hy'⟩
    · simp [Instr.sliceBounds, hy, e2]
    · have e1 := fun c => run_sliceBound (P := P) (k := k') (n := l) (y := h.toNat) h0 (by omega) c w
      simp [Instr.sliceBounds, hy, hy', e2, e1]

theorem sliceI_sound {t : Nat} {x : Operand} {lo hi : Option Operand} {K : IV → Prop} (hT : TOK Γ.P Γ.T) (h : sliceI Γ (Γ.T t) (evo Γ S x) (lo.map (evo Γ S)) (hi.map (evo Γ S)) K) (r : Rel Γ S a w I X β σ) :
    ∃ iv v, K iv ∧ V I β (σ 0) iv v ∧ (Instr.sliceAt t (a.eval x) (lo.map a.eval) (hi.map a.eval) none).run Γ.P w = .ok v w := by
  have hv := evo_V r x
  unfold sliceI at h
  split at h
  · rename_i s hk hx
    rw [hx] at hv
    split at h
    · rename_i l hh e1 e2
      obtain ⟨h0, h⟩ := chk_spec h
      obtain ⟨h1, h⟩ := chk_spec h
      obtain ⟨h2, h⟩ := chk_spec h
      simp at h0 h1 h2
      obtain ⟨inf, d, z, tk⟩ := TOK.get hT (t := t) (.inr (by rw [hk]; simp))
      have kd := tk.kind
      rw [hk] at kd
      subst kd
      have hb := run_sliceBounds (P := Γ.P) r lo hi false s.size s.size e1 e2 h0 h1 h2 (Nat.le_refl _) (fun _ => rfl)
      refine ⟨_, .string (s.extract l.toNat hh.toNat), h, .data (.str _), ?_⟩
      simp [Instr.sliceAt, Instr.slice, run_underlying tk.und, hv.str_inv, hb]
    · exact h.elim
  · rename_i el o e n f hk hx
    rw [hx] at hv
    split at h
    · rename_i l hh e1 e2 e3
      have e3 := (beq_iff _ _).1 e3
      obtain ⟨h0, h⟩ := chk_spec h
      obtain ⟨h1, h⟩ := chk_spec h
      obtain ⟨h2, h⟩ := chk_spec h
      simp at h0 h1 h2
      obtain ⟨inf, d, z, tk⟩ := TOK.get hT (t := t) (.inr (by rw [hk]; simp))
      have kd := tk.kind
      rw [hk] at kd
      obtain ⟨rfl, he⟩ := kd
      obtain ⟨inf', d', z', tk'⟩ := TOK.get hT (t := el) (.inl he)
      rcases hv.lst_inv with ⟨px, hvx, hn0⟩ | ⟨b, off, c, g, hvx, hnc, hown, hl, hI, ho, hD⟩
      · subst hn0
        have hb := run_sliceBounds (P := Γ.P) r lo hi true 0 0 e1 e2 h0 h1 h2 (Nat.le_refl _) (fun h => by cases h)
        have l0 : l = 0 := by omega
        have hh0 : hh = 0 := by omega
        subst l0 hh0
        refine ⟨_, .slice px 0 0, h, .data (.lstN _ _), ?_⟩
        simp at hb
        simp [Instr.sliceAt, Instr.slice, run_underlying tk.und, hvx, hb, run_sz tk'.msize]
      · have hb := run_sliceBounds (P := Γ.P) r lo hi true n c e1 e2 h0 h1 h2 hnc (fun h => by cases h)
        by_cases hcl : c = l.toNat
        · have hz : hh.toNat - l.toNat = 0 := by omega
          refine ⟨_, .slice (some ⟨b, off, none⟩) (hh.toNat - l.toNat) (c - l.toNat), h, ?_, ?_⟩
          · rw [hz]
            exact .data (.lst e 0 _ b off _ g (by omega) (fun i hi => by omega) (fun i j hi => by omega) (fun i j hi => by omega) (fun i j x hi => by omega))
          · subst hcl
            simp [Instr.sliceAt, Instr.slice, run_underlying tk.und, hvx, hb, run_sz tk'.msize]
        · refine ⟨_, .slice (some ⟨b, off + l.toNat * e, none⟩) (hh.toNat - l.toNat) (c - l.toNat), h, ?_, ?_⟩
          · refine .data (.lst e _ _ b _ _ (fun i j => g (l.toNat + i) j) (by omega) (fun i hi => hl _ (by omega)) (fun i j hi hj => ?_) (fun i j hi hj => ho _ _ (by omega) hj) (fun i j x hi hx => hD _ j x (by omega) hx))
            have := hI (l.toNat + i) j (by omega) hj
            rw [show off + l.toNat * e + i * e + j = off + (l.toNat + i) * e + j by rw [Nat.add_mul]; omega]
            exact this
          · simp [Instr.sliceAt, Instr.slice, run_underlying tk.und, hvx, hb, run_sz tk'.msize, hcl, add_none, e3]
    · exact h.elim
  · exact h.elim

theorem mentL_get {c : Nat} : ∀ {xs : List IV}, mentL c xs = false → ∀ (j : Nat) x, xs[j]? = some x → ment c x = false
  | [], _, j, x, h => by simp at h
  | y :: r, h, j, x, hx => by
    simp [mentL] at h
    cases j with
    | zero => simp at hx; subst hx; exact h.1
    | succ j => exact mentL_get h.2 j x (by simpa using hx)

theorem V.nomen {I I2 : Imm} {β β' : Beta} {s : Sig} {c : Nat} (hI : ∀ a v, I a = some v → I2 a = some v) (hb : ∀ l d b, β l d = some b → (l = 0 → d ≠ c) → β' l d = some b) {x : IV} {v : Value} (h : V I β s x v) : ment c x = false → V I2 β' s x v := by
  induction h with
  | data h => exact fun _ => .data (h.mono hI)
  | ptr l d off b h => exact fun hc => .ptr l d off b (hb l d b h (fun e => by subst e; simp only [ment] at hc; exact beq_false hc))
  | ownN t e f => exact fun _ => .ownN t e f
  | own t e n f b el c g ht hc hl hi h1 h => exact fun _ => .own t e n f b el c g ht hc hl (fun i j h h' => hI _ _ (hi i j h h')) h1 (fun i j x a b => (h i j x a b).mono hI)
  | raw t e n b el ht => exact fun _ => .raw t e n b el ht
  | agg xs vs hl h1 _ ih => exact fun hc => .agg xs vs hl h1 fun j x hx => ih j x hx (mentL_get (by simpa [ment] using hc) j x hx)
  | tup xs vs hl _ ih => exact fun hc => .tup xs vs hl fun j x hx => ih j x hx (mentL_get (by simpa [ment] using hc) j x hx)
  | fn f xs ys vs us hl hk _ _ ih ih' =>
    intro hc
    simp [ment] at hc
    exact .fn f xs ys vs us hl hk (fun j x hx => ih j x hx (mentL_get hc.1 j x hx)) (fun j x hx => ih' j x hx (mentL_get hc.2 j x hx))

theorem V.kill {I I2 : Imm} {β β' : Beta} {s : Sig} {c : Nat} (hI : ∀ a v, I a = some v → I2 a = some v) (hb : ∀ l d b, β l d = some b → (l = 0 → d ≠ c) → β' l d = some b) {x : IV} {v : Value} (h : V I β s x v) : V I2 β' s (kill c x) v := by
  unfold Ix.kill
  cases hm : ment c x with
  | true => exact .data (.dead _)
  | false => exact h.nomen hI hb hm

theorem killT_look (c : Nat) : ∀ (l : Tms) i, look (killT c l) i = kill c (look l i)
  | [], i => by simp [killT, look, kill, ment]
  | (k, v) :: r, i => by
    simp only [killT, look_cons, killT_look c r]
    split <;> rfl
theorem killL_eq (c : Nat) : ∀ l, killL c l = l.map (kill c)
  | [] => rfl
  | x :: r => by simp only [killL, List.map_cons, killL_eq c r]
theorem killC_look (c : Nat) : ∀ (l : Ces) d, lookC (killC c l) d = if d = c then none else (lookC l d).map (killL c)
  | [], d => by simp [killC, lookC]
  | (k, v) :: r, d => by
    have ih := killC_look c r d
    by_cases hk : k = c
    · subst hk
      have : Nat.beq k k = true := by simp
      simp only [killC, this, lookC_cons, ih]
      by_cases hd : d = k
      · simp [hd]
      · simp [hd, Ne.symm hd]
    · have : Nat.beq k c = false := by rw [Bool.eq_false_iff]; intro e; exact hk (Nat.eq_of_beq_eq_true e)
      simp only [killC, this, lookC_cons, ih]
      by_cases hd : k = d
      · subst hd; simp [hk]
      · simp [hd]

open Classical in
theorem sliceA_sound {n e : Nat} {o : Option Nat} {x : Operand} (h : sliceA Γ S o n e (evo Γ S x) K) (r : Rel Γ S a w I X β σ) :
    ∃ b, a.eval x = .pointer (some ⟨b, 0, none⟩) ∧ Aft Γ K I X w β σ (a.put o (.slice (some ⟨b, 0, none⟩) n n)) w := by
  obtain ⟨tm, ce, up⟩ := S
  have hv := evo_V r x
  unfold sliceA at h
  split at h
  case h_2 => exact h.elim
  rename_i tm' ce' up' c heq hx
  cases heq
  rw [hx] at hv
  obtain ⟨b, hb, hβ⟩ := hv.ptr_inv
  refine ⟨b, hb, ?_⟩
  split at h
  case h_2 => exact h.elim
  rename_i xs hxs
  split at h
  case h_2 => exact h.elim
  rename_i hok
  simp only [Bool.and_eq_true, beq_iff] at hok
  obtain ⟨hlen, hnp⟩ := hok
  rw [fvL_eq, fps_eq, fcs_eq] at h
  obtain ⟨b', arr, el, h1, h2, h3, h4, h5, h6, h7⟩ := r.mem.cell 0 c xs hxs
  rw [hβ] at h1; cases h1
  let P : Addr → Prop := fun x => x.block = b ∧ x.spot = none ∧ x.off < xs.length
  let I2 : Imm := fun x => if P x then w.cell? x else I x
  let β' : Beta := fun l d => if l = 0 ∧ d = c then none else β l d
  have hI : ∀ x v, I x = some v → I2 x = some v := by
    intro x v hx
    show (if P x then _ else _) = _
    split
    · exact r.mem.im x v hx
    · exact hx
  have hsub : ∀ l d b0, β' l d = some b0 → β l d = some b0 ∧ (l = 0 → d ≠ c) := by
    intro l d b0 hb0
    replace hb0 : (if l = 0 ∧ d = c then none else β l d) = some b0 := hb0
    split at hb0
    · cases hb0
    · rename_i hn; exact ⟨hb0, fun e1 e2 => hn ⟨e1, e2⟩⟩
  have hmk : ∀ l d b0, β l d = some b0 → (l = 0 → d ≠ c) → β' l d = some b0 := by
    intro l d b0 hb0 hk
    show (if _ then _ else _) = _
    rw [if_neg]; exact hb0
    rintro ⟨e1, e2⟩; exact hk e1 e2
  have hne : ∀ l d b0, β' l d = some b0 → b0 ≠ b := by
    intro l d b0 hb0 e
    subst e
    obtain ⟨g1, g2⟩ := hsub l d b0 hb0
    have := r.mem.inj _ _ _ _ _ g1 hβ
    exact g2 this.1 this.2
  have hIn : ∀ x, x.block ≠ b → I2 x = I x := fun x hx => if_neg fun hp => hx hp.1
  have him : ∀ x v, I2 x = some v → w.cell? x = some v := by
    intro x v hx
    have hx : (if P x then w.cell? x else I x) = some v := hx
    split at hx
    · exact hx
    · exact r.mem.im x v hx
  have hnl : (noOwnL xs).length = n * e := by rw [noOwnL_eq, List.length_map, hlen]
  have hcell : ∀ j, j < xs.length → I2 ⟨b, 0 + j, none⟩ = some (arr.getD j undef) := by
    intro j hj
    show (if P _ then _ else _) = _
    rw [if_pos ⟨rfl, rfl, by simpa using hj⟩]
    have hlt : j < arr.size := by omega
    simp [World.cell?, h2, Array.getD_eq_getD_getElem?, hlt]
  have hin : ∀ i j, i < n → j < e → i * e + j < xs.length := by
    intro i j hi hj
    have := Nat.mul_le_mul_right e (show i + 1 ≤ n by omega)
    rw [Nat.add_mul] at this; omega
  have r2 : Rel Γ ⟨killT c tm, killC c ce, up⟩ a w I2 X β' σ := by
    refine ⟨fun i => ?_, r.df, r.nt, ⟨fun l d c' hc => ?_, fun l d l' d' b0 k1 k2 => r.mem.inj l d l' d' b0 (hsub _ _ _ k1).1 (hsub _ _ _ k2).1, fun l d b0 hb0 => ?_, him, fun g => (r.mem.glo g).mono hI, r.mem.xb⟩, ⟨fun t g hg => ?_, r.own.inj⟩⟩
    · rw [killT_look]; exact (r.tm i).kill hI hmk
    · cases l with
      | zero =>
        simp only [upC, killC_look] at hc
        split at hc
        · cases hc
        · rename_i hdc
          simp only [Option.map_eq_some_iff] at hc
          obtain ⟨y, hy, rfl⟩ := hc
          obtain ⟨b0, arr0, el0, k1, k2, k3, k4, k5, k6, k7⟩ := r.mem.cell 0 d y hy
          have hbb : β' 0 d = some b0 := hmk 0 d b0 k1 fun _ => hdc
          refine ⟨b0, arr0, el0, hbb, k2, by simp [killL_eq, k3], k4, fun j z hz => ?_, fun j => by rw [hIn _ (hne _ _ _ hbb)]; exact k6 j, k7⟩
          rw [killL_eq] at hz
          obtain ⟨z0, hz0, rfl⟩ := map_get hz
          exact (k5 j z0 hz0).kill hI fun l' d' b' hb' hk => hmk (0 + l') d' b' hb' fun e => hk (by omega)
      | succ l =>
        obtain ⟨b0, arr0, el0, k1, k2, k3, k4, k5, k6, k7⟩ := r.mem.cell (l + 1) d c' hc
        have hbb : β' (l + 1) d = some b0 := hmk _ d b0 k1 fun e => by omega
        exact ⟨b0, arr0, el0, hbb, k2, k3, k4, fun j z hz => (k5 j z hz).mono hI (fun l' d' b' hb' => hmk (l + 1 + l') d' b' hb' (fun e => by omega)) (fun _ _ h => h), fun j => by rw [hIn _ (hne _ _ _ hbb)]; exact k6 j, k7⟩
    · obtain ⟨g1, g2⟩ := hsub l d b0 hb0
      obtain ⟨y, hy⟩ := r.mem.keys l d b0 g1
      cases l with
      | zero =>
        simp only [upC] at hy
        simp only [upC, killC_look, if_neg (g2 rfl), hy]
        exact ⟨_, rfl⟩
      | succ l => exact ⟨y, hy⟩
    · obtain ⟨cur, k1, k2, k3, k4, k5, k6, k7⟩ := r.own.row t g hg
      refine ⟨cur, k1, k2, k3, k4, fun j hj => ?_, k6, fun l d hb => k7 l d (hsub _ _ _ hb).1⟩
      rw [hIn _ (fun e => k7 0 c (by rw [hβ]; exact congrArg some e.symm))]; exact k5 j hj
  have hres : V I2 β' (σ 0) (.lst none e n (litF e (noOwnL xs))) (.slice (some ⟨b, 0, none⟩) n n) := by
    refine .data (.lst e n _ b 0 n (fun i j => arr.getD (i * e + j) undef) (Nat.le_refl _) (fun i hi => (litF_spec hnl i hi).1) (fun i j hi hj => ?_) (fun i j hi hj => ?_) (fun i j z hi hz => ?_))
    · have := hcell (i * e + j) (hin i j hi hj)
      rw [show 0 + i * e + j = 0 + (i * e + j) by omega]; exact this
    · have hlt : i * e + j < arr.size := by have := hin i j hi hj; omega
      exact h4 (i * e + j) _ (by simp [Array.getD_eq_getD_getElem?, hlt])
    · rw [(litF_spec hnl i hi).2] at hz
      split at hz
      · rw [noOwnL_eq] at hz
        obtain ⟨y, hy, rfl⟩ := map_get hz
        exact ((h5 _ y hy).data' (noPtrL_get hnp _ _ hy)).mono hI
      · cases hz
  obtain ⟨S', hk, r3⟩ := putT_sound h r2 hres
  refine ⟨S', I2, β', σ, hk, r3, ⟨rfl, rfl, rfl, Nat.le_refl _, fun _ _ => rfl, hI, fun x hx => hIn x (fun e => h7 (e ▸ hx)), fun _ _ h _ => h⟩, fun l => ?_, fun l => rfl⟩
  funext d
  show (if _ then _ else _) = _
  rw [if_neg (by omega)]

theorem settleL_eq (t e n : Nat) (g : Nat → List IV) : ∀ l, settleL t e n g l = l.map (settle t e n g)
  | [] => rfl
  | x :: r => by simp only [settleL, List.map_cons, settleL_eq t e n g r]
theorem settleT_look (t e n : Nat) (g : Nat → List IV) : ∀ (l : Tms) i, look (settleT t e n g l) i = settle t e n g (look l i)
  | [], i => rfl
  | (k, v) :: r, i => by
    simp only [settleT, look_cons, settleT_look t e n g r]
    split <;> rfl
theorem settleC_look (t e n : Nat) (g : Nat → List IV) : ∀ (l : Ces) d, lookC (settleC t e n g l) d = (lookC l d).map (settleL t e n g)
  | [], d => rfl
  | (k, v) :: r, d => by
    simp only [settleC, lookC_cons, settleC_look t e n g r]
    split <;> rfl

theorem D.settle {I : Imm} (t e n : Nat) (g : Nat → List IV) {x : IV} {v : Value} (h : D I x v) : D I (settle t e n g x) v := by
  induction h with
  | int k n => exact .int k n
  | bool b => exact .bool b
  | str s => exact .str s
  | lit v h => exact .lit v h
  | nilS => exact .nilS
  | lstN e f => exact .lstN e f
  | lst e n f b off c g hc hl hi h1 h ih => exact .lst e n f b off c g hc hl hi h1 h
  | vptr e n f i j b off g hi0 hl hi h1 h ih => exact .vptr e n f i j b off g hi0 hl hi h1 h
  | agg xs vs hl h1 _ ih =>
    simp only [Ix.settle, settleL_eq]
    exact .agg _ vs (by simpa using hl) h1 fun j x hx => by obtain ⟨y, hy, rfl⟩ := map_get hx; exact ih j y hy
  | tup xs vs hl _ ih =>
    simp only [Ix.settle, settleL_eq]
    exact .tup _ vs (by simpa using hl) fun j x hx => by obtain ⟨y, hy, rfl⟩ := map_get hx; exact ih j y hy
  | fn f xs ys vs us hl hk _ _ ih ih' =>
    simp only [Ix.settle, settleL_eq]
    exact .fn f _ _ vs us (by simpa using hl) (by simpa using hk) (fun j x hx => by obtain ⟨y, hy, rfl⟩ := map_get hx; exact ih j y hy)
      (fun j x hx => by obtain ⟨y, hy, rfl⟩ := map_get hx; exact ih' j y hy)
  | dead v => exact .dead v

theorem V.settle {I I' : Imm} {β : Beta} {s s' : Sig} {t e n b0 el0 : Nat} {g : Nat → List IV} (hI : ∀ a v, I a = some v → I' a = some v) (hs : ∀ u g0, u ≠ t → s u = some g0 → s' u = some g0)
    (ht0 : s t = some ⟨b0, el0, e, 0, n⟩) (hv : V I' β s' (.lst (some t) e n g) (.slice (some ⟨b0, 0, none⟩) n n)) {x : IV} {v : Value} (h : V I β s x v) : V I' β s' (settle t e n g x) v := by
  induction h with
  | data h => exact .data ((h.settle t e n g).mono hI)
  | ptr l d off b h => exact .ptr l d off b h
  | ownN u e' f =>
    simp only [Ix.settle]
    split
    · exact .data (.dead _)
    · exact .ownN u e' f
  | own u e' n' f b el c g' ht hc hl hi h1 h =>
    simp only [Ix.settle]
    split
    · exact .data (.dead _)
    · rename_i hne
      exact .own u e' n' f b el c g' (hs _ _ (beq_false hne) ht) hc hl (fun i j h h' => hI _ _ (hi i j h h')) h1 (fun i j x a b => (h i j x a b).mono hI)
  | raw u e' n' b el ht =>
    simp only [Ix.settle]
    split
    · rename_i he
      have he := (beq_iff _ _).1 he
      subst he
      rw [ht0] at ht
      cases ht
      exact hv
    · rename_i hne
      exact .raw u e' n' b el (hs _ _ (beq_false hne) ht)
  | agg xs vs hl h1 _ ih =>
    simp only [Ix.settle, settleL_eq]
    exact .agg _ vs (by simpa using hl) h1 fun j x hx => by obtain ⟨y, hy, rfl⟩ := map_get hx; exact ih j y hy
  | tup xs vs hl _ ih =>
    simp only [Ix.settle, settleL_eq]
    exact .tup _ vs (by simpa using hl) fun j x hx => by obtain ⟨y, hy, rfl⟩ := map_get hx; exact ih j y hy
  | fn f xs ys vs us hl hk _ _ ih ih' =>
    simp only [Ix.settle, settleL_eq]
    exact .fn f _ _ vs us (by simpa using hl) (by simpa using hk) (fun j x hx => by obtain ⟨y, hy, rfl⟩ := map_get hx; exact ih j y hy)
      (fun j x hx => by obtain ⟨y, hy, rfl⟩ := map_get hx; exact ih' j y hy)

/-- A row just made is filled: from now on nobody writes what is in it. -/
theorem settle_sound {t e n el b : Nat} {g : Nat → List IV} {vs : Array Value} (r : Rel Γ S a w I X β σ) (ht : σ 0 t = some ⟨b, el, e, 0, n⟩)
    (hs : vs.size = n * e) (h1 : ∀ (j : Nat) u, vs[j]? = some u → u.oneCell' = true)
    (hf : ∀ i, i < n → (g i).length = e) (hD : ∀ i (j : Nat) x, i < n → (g i)[j]? = some x → D I x (vs.getD (i * e + j) undef)) (w' : World)
    (hh : w'.heap[b]? = some (.cells vs el (0, 0))) (hold : ∀ (k : Nat) (o : Obj), k ≠ b → w.heap[k]? = some o → w'.heap[k]? = some o) (hsz : w.heap.size ≤ w'.heap.size)
    (hos : w'.os = w.os) (hta : w'.tape = w.tape) (hou : w'.output = w.output) :
    ∃ I' σ', Rel Γ ⟨settleT t e n g S.tm, settleC t e n g S.ce, S.up⟩ a w' I' X β σ' ∧ Ext I X w I' w' ∧ Above β β σ σ' := by
  obtain ⟨cur, c1, c2, c3, c4, c5, c6, c7⟩ := r.own.row t _ ht
  simp only at c1 c2 c3 c4 c5 c6 c7
  have hfix : ∀ (k : Nat) o, w.heap[k]? = some o → fixed o = true → w'.heap[k]? = some o := fun k o hk ho => by
    by_cases e : k = b
    · subst e; rw [c1] at hk; cases hk; cases ho
    · exact hold k o e hk
  let I' : Imm := fun x => if x.block = b then (if x.off < n * e ∧ x.spot = none then some (vs.getD x.off undef) else none) else I x
  have hno : ∀ x v, I x = some v → x.block ≠ b := by
    intro x v hx hb
    have h0 := r.mem.im x v hx
    obtain ⟨xb, xo, xs⟩ := x
    simp only at hb; subst hb
    have hsp : xs = none := by
      unfold World.cell? at h0
      split at h0
      · split at h0
        · cases h0
        · rename_i h; simpa using h
      · cases h0
    subst hsp
    rw [c5 xo (by omega)] at hx; cases hx
  have hI : ∀ x v, I x = some v → I' x = some v := by
    intro x v hx
    show (if _ then _ else _) = _
    rw [if_neg (hno x v hx)]; exact hx
  let σ' := setSig σ fun u => if u = t then some ⟨b, el, e, n, n⟩ else σ 0 u
  have hσ : ∀ u g0, u ≠ t → σ 0 u = some g0 → σ' 0 u = some g0 := by
    intro u g0 hu hg
    show (if _ then _ else _) = _
    rw [if_neg hu]; exact hg
  have hlt : ∀ i j, i < n → j < e → i * e + j < n * e := by
    intro i j hi hj
    have := Nat.mul_le_mul_right e (show i + 1 ≤ n by omega)
    rw [Nat.add_mul] at this; omega
  have hv : V I' β (σ' 0) (.lst (some t) e n g) (.slice (some ⟨b, 0, none⟩) n n) := by
    refine .own t e n g b el n (fun i j => vs.getD (i * e + j) undef) (by show (if _ then _ else _) = _; simp) (Nat.le_refl _) hf (fun i j hi hj => ?_) (fun i j hi hj => ?_) (fun i j x hi hx => (hD i j x hi hx).mono hI)
    · show (if _ then _ else _) = _
      rw [if_pos rfl, if_pos ⟨hlt i j hi hj, rfl⟩]
    · have hl := hlt i j hi hj
      have hl2 : i * e + j < vs.size := by omega
      exact h1 (i * e + j) _ (by simp [hl2])
  have hst : ∀ {x : IV} {v : Value}, V I β (σ 0) x v → V I' β (σ' 0) (settle t e n g x) v := fun h => V.settle hI hσ ht hv h
  refine ⟨I', σ', ⟨fun i => ?_, r.df.to hfix (fun _ _ h => h), r.nt, ⟨fun l d' c0 hc0 => ?_, r.mem.inj, fun l d' b' hb' => ?_, fun x v hx => ?_, fun g => (r.mem.glo g).mono hI, fun k hk => by have := r.mem.xb k hk; omega⟩, ⟨fun u g0 hg => ?_, fun u u' g0 g0' hg hg' hb => ?_⟩⟩,
    ⟨hos, hta, hou, hsz, fun k hk => ?_, hI, fun x hx => ?_, hfix⟩, .setSig β σ _⟩
  · rw [settleT_look]; exact hst (r.tm i)
  · cases l with
    | zero =>
      simp only [upC, settleC_look, Option.map_eq_some_iff] at hc0
      obtain ⟨y, hy, rfl⟩ := hc0
      obtain ⟨b', arr, el', g1, g2, g3, g4, g5, g6, g7⟩ := r.mem.cell 0 d' y hy
      have hne : b' ≠ b := fun e => c7 0 d' (e ▸ g1)
      refine ⟨b', arr, el', g1, hold _ _ hne g2, by simp [settleL_eq, g3], g4, fun j x hx => ?_, fun j => ?_, g7⟩
      · rw [settleL_eq] at hx
        obtain ⟨z, hz, rfl⟩ := map_get hx
        have := hst (by simpa using g5 j z hz)
        simpa using this
      · show (if _ then _ else _) = _
        rw [if_neg hne]; exact g6 j
    | succ l =>
      obtain ⟨b', arr, el', g1, g2, g3, g4, g5, g6, g7⟩ := r.mem.cell (l + 1) d' c0 hc0
      have hne : b' ≠ b := fun e => c7 (l + 1) d' (e ▸ g1)
      refine ⟨b', arr, el', g1, hold _ _ hne g2, g3, g4, fun j x hx => (g5 j x hx).mono hI (fun _ _ _ h => h) (fun _ _ h => h), fun j => ?_, g7⟩
      show (if _ then _ else _) = _
      rw [if_neg hne]; exact g6 j
  · obtain ⟨y, hy⟩ := r.mem.keys l d' b' hb'
    cases l with
    | zero =>
      simp only [upC] at hy
      exact ⟨_, by simp only [upC, settleC_look, hy]; rfl⟩
    | succ l => exact ⟨y, hy⟩
  · replace hx : (if x.block = b then (if x.off < n * e ∧ x.spot = none then some (vs.getD x.off undef) else none) else I x) = some v := hx
    split at hx
    · rename_i hb
      split at hx
      · rename_i ho
        obtain ⟨xb, xo, xs⟩ := x
        simp only at hb ho hx; subst hb; obtain ⟨ho, rfl⟩ := ho
        rw [cell_of_row w' xb xo vs el _ hh]
        have : xo < vs.size := by omega
        simpa [this] using hx
      · cases hx
    · rename_i hb
      have h0 := r.mem.im x v hx
      have hlt := World.block_lt_of_cell? w _ h0
      have hsame : w'.heap[x.block]? = w.heap[x.block]? := by
        rw [Array.getElem?_eq_getElem hlt]
        exact hold _ _ hb (Array.getElem?_eq_getElem hlt)
      rw [World.cell?_of_block hsame]; exact h0
  · have hg : (if u = t then some _ else σ 0 u) = some g0 := hg
    split at hg
    · simp at hg; subst hg
      refine ⟨vs, hh, Nat.le_refl _, c3, hs, fun j hj => ?_, c6, c7⟩
      show (if _ then _ else _) = _
      rw [if_pos rfl, if_neg (by simp at hj ⊢; omega)]
    · rename_i hut
      obtain ⟨cur', k1, k2, k3, k4, k5, k6, k7⟩ := r.own.row u g0 hg
      have hne : g0.b ≠ b := fun e => hut (r.own.inj u t g0 _ hg ht e)
      refine ⟨cur', hold _ _ hne k1, k2, k3, k4, fun j hj => ?_, k6, k7⟩
      show (if _ then _ else _) = _
      rw [if_neg hne]; exact k5 j hj
  · have hg : (if u = t then some _ else σ 0 u) = some g0 := hg
    have hg' : (if u' = t then some _ else σ 0 u') = some g0' := hg'
    split at hg <;> split at hg'
    · subst_vars; rfl
    · rename_i h1 h2
      simp at hg; subst hg
      exact absurd (r.own.inj u' t g0' _ hg' ht hb.symm) h2
    · rename_i h1 h2
      simp at hg'; subst hg'
      exact absurd (r.own.inj u t g0 _ hg ht hb) h1
    · exact r.own.inj u u' g0 g0' hg hg' hb
  · have := r.mem.xb k hk
    have hne : k ≠ b := fun e => c6 (e ▸ hk)
    rw [Array.getElem?_eq_getElem this]
    exact hold _ _ hne (Array.getElem?_eq_getElem this)
  · show (if _ then _ else _) = _
    rw [if_neg (fun (e : x.block = b) => c6 (e ▸ hx))]

/-- A row just made. -/
theorem raw_sound {d e n el : Nat} {vs : Array Value} (r : Rel Γ S a w I X β σ) (htag : σ 0 d = none) (h : putT Γ S (some d) (.raw d e n) K) (hc : n ≤ maxLen) (hs : vs.size = n * e) :
    Aft Γ K I X w β σ (a.put (some d) (.slice (some ⟨w.heap.size, 0, none⟩) n n)) (w.alloc (.cells vs el)) := by
  obtain ⟨f1, f2, f3, f4⟩ := fresh_block r
  let σ' := setSig σ fun u => if u = d then some ⟨w.heap.size, el, e, 0, n⟩ else σ 0 u
  have hσ : ∀ u g, σ 0 u = some g → σ' 0 u = some g := by
    intro u g hu
    show (if _ then _ else _) = _
    rw [if_neg]; exact hu
    rintro rfl; rw [htag] at hu; cases hu
  have r0 := r.alloc (.cells vs el)
  have r1 : Rel Γ S a (w.alloc (.cells vs el)) I X β σ' := by
    refine ⟨fun i => (r0.tm i).mono (fun _ _ h => h) (fun _ _ _ h => h) hσ, r0.df, r0.nt, ⟨fun l d' c0 hc0 => ?_, r0.mem.inj, r0.mem.keys, r0.mem.im, r0.mem.glo, r0.mem.xb⟩, ⟨fun t g hg => ?_, fun t t' g g' hg hg' hb => ?_⟩⟩
    · obtain ⟨b', arr, el', g1, g2, g3, g4, g5, g6, g7⟩ := r0.mem.cell l d' c0 hc0
      refine ⟨b', arr, el', g1, g2, g3, g4, fun j x hx => (g5 j x hx).mono (fun _ _ h => h) (fun _ _ _ h => h) (fun t g h => ?_), g6, g7⟩
      cases l with
      | zero => exact hσ t g h
      | succ l => exact h
    · have hg : (if t = d then some _ else σ 0 t) = some g := hg
      split at hg
      · simp at hg; subst hg
        refine ⟨vs, heap_alloc_new w _, Nat.zero_le _, hc, hs, fun j _ => ?_, f1, f2⟩
        cases hj : I ⟨w.heap.size, j, none⟩ with
        | none => rfl
        | some v => exact absurd rfl (f4 _ _ hj)
      · exact r0.own.row t g hg
    · have hg : (if t = d then some _ else σ 0 t) = some g := hg
      have hg' : (if t' = d then some _ else σ 0 t') = some g' := hg'
      split at hg <;> split at hg'
      · subst_vars; rfl
      · simp at hg; subst hg
        exact absurd hb.symm (f3 t' g' hg')
      · simp at hg'; subst hg'
        exact absurd hb (f3 t g hg)
      · exact r0.own.inj t t' g g' hg hg' hb
  obtain ⟨S', hk, r'⟩ := putT_sound h r1 (.raw d e n w.heap.size el (if_pos rfl))
  exact ⟨S', I, β, σ', hk, r', .alloc _ _ _ _ r.mem.xb, .setSig β σ _⟩

/-- What the evaluator says of an operation, but for calls and appends. -/
theorem iop_sound {C : Con} (hT : TOK Γ.P Γ.T) (o : Oper) (hnc : ∀ c, o.op ≠ .call c) (h : iop C Γ S o K) (r : Rel Γ S a w I X β σ) (Q : Exit → Act → World → Prop) :
    o.wp Γ.P a w (Aft Γ K I X w β σ) Q := by
  obtain ⟨dst, op, type, pos, after, guard⟩ := o
  cases op with
  | move x => simp only [iop, ival, ev_eq] at h; exact wp_val (v := a.eval x) rfl (put_aft h r (evo_V r x))
  | assign x => simp only [iop, ival, ev_eq] at h; exact wp_val (v := a.eval x) rfl (put_aft h r (evo_V r x))
  | pick c x y =>
    simp only [iop, ival, ev_eq] at h
    split at h
    · rename_i b hb
      have hc := evo_V r c
      rw [hb] at hc
      have hc := hc.bool_inv
      split at h
      · exact wp_val (v := a.eval x) (by simp [execOp, hc, asBool]) (put_aft h r (evo_V r x))
      · exact wp_val (v := a.eval y) (by simp [execOp, hc, asBool]) (put_aft h r (evo_V r y))
    · exact h.elim
  | alloc t =>
    simp only [iop, ival, fvL_eq] at h
    split at h
    · rename_i d
      obtain ⟨h0, h⟩ := tyK_spec h
      obtain ⟨inf, dd, z, tk⟩ := TOK.get hT (t := t) (.inl (by omega))
      refine wp_val (w' := w.alloc (.cells z.cells t)) ?_ (newC_sound h r (zero_CV tk I β _))
      simp [execOp, Instr.alloc, zeroValue, typeInfo, tk.info, tk.zero, newVar, newRow]
    · exact h.elim
  | box t x =>
    simp only [iop, ival, ev_eq] at h
    split at h
    · rename_i d
      split at h
      · rename_i c hc
        refine wp_val (w' := w.alloc (.cells (a.eval x).cells t)) ?_ (newC_sound h r ((evo_V r x).cells hc))
        simp [execOp, Instr.box, newVar, newRow]
      · exact h.elim
    · exact h.elim
  | build t parts =>
    simp only [iop, ival] at h
    split at h
    · rename_i fs hk
      obtain ⟨inf, d, z, tk⟩ := TOK.get hT (t := t) (.inr (by rw [hk]; simp))
      have kd := tk.kind
      rw [hk] at kd
      obtain ⟨fields, rfl, hfl, hf⟩ := kd
      obtain ⟨xs, cs, hk', hcs, hfill⟩ := buildI_sound r (placeR := fun i => ((fields.toList.zip (fs.map (·.2.1))).map fun (f, s) => (f.offset, s))[i]?) (fun i x hx => by
        rw [fieldAt_eq] at hx
        split at hx
        · rename_i f hfi
          obtain ⟨off, sz, ag⟩ := f
          simp at hx; subst hx
          obtain ⟨f', g1, g2, g3, g4⟩ := hf i off sz ag hfi
          simp [List.getElem?_zip_eq_some, g1, hfi, g2]
        · cases hx) parts.toList _ z.cells _ h (zero_CV tk I β _)
      have hm := run_mapM_places (P := Γ.P) fields.toList (fs.map (·.2.1)) (by simp [hfl]) (fun i f s h1 h2 => by
        simp only [List.getElem?_map, Option.map_eq_some_iff] at h2
        obtain ⟨⟨off, sz', ag⟩, h2, rfl⟩ := h2
        obtain ⟨f', g1, g2, g3, g4⟩ := hf i off sz' ag h2
        simp at h1; rw [h1] at g1; cases g1; exact g3) w
      refine wp_val (v := .agg cs) ?_ (put_aft hk' r hcs.val)
      simp only [execOp, Instr.build, Sem.run_bind, zeroValue, typeInfo, run_program, Result.andThen_ok, tk.info, Sem.run_pure, tk.zero, run_underlying tk.und, Array.mapM_eq_mapM_toList, Sem.run_map, hm, List.getElem?_toArray, Array.toList_map, hfill]
    · rename_i n e hk
      obtain ⟨inf, d, z, tk⟩ := TOK.get hT (t := t) (.inr (by rw [hk]; simp))
      have kd := tk.kind
      rw [hk] at kd
      obtain ⟨rfl, he⟩ := kd
      obtain ⟨inf', d', z', tk'⟩ := TOK.get hT (t := e) (.inl he)
      obtain ⟨xs, cs, hk', hcs, hfill⟩ := buildI_sound r (placeR := fun i => some (i * (Γ.T e).size, (Γ.T e).size)) (fun i x hx => hx) parts.toList _ z.cells _ h (zero_CV tk I β _)
      refine wp_val (v := .agg cs) ?_ (put_aft hk' r hcs.val)
      simp only [execOp, Instr.build, Sem.run_bind, zeroValue, typeInfo, run_program, Result.andThen_ok, tk.info, Sem.run_pure, tk.zero, run_underlying tk.und, run_sz tk'.msize, Array.toList_map, hfill]
    · exact h.elim
  | buildSlice t len parts =>
    simp only [iop, ival] at h
    split at h
    · rename_i e d hk
      split at h
      · rename_i hb1 hb2
        have hb1 := Nat.le_of_ble_eq_true hb1
        have hb2 := blt_lt hb2
        obtain ⟨inf, dd, z, tk⟩ := TOK.get hT (t := t) (.inr (by rw [hk]; simp))
        have kd := tk.kind
        rw [hk] at kd
        obtain ⟨rfl, he⟩ := kd
        obtain ⟨inf', d', z', tk'⟩ := TOK.get hT (t := e) (.inl he)
        have hz := repZ_CV (zero_CV tk' I β (σ 0)) (by rw [tk'.zsize]; exact hb2) len
        obtain ⟨xs, cs, hk', hcs, hfill⟩ := buildI_sound r (placeR := fun i => some (i * (Γ.T e).size, (Γ.T e).size)) (fun i x hx => hx) parts.toList _ _ _ h hz
        rw [tk'.zsize] at hfill
        split at hk'
        · rename_i hnp
          have hrun : ∀ dd, (execOp a.eval ({ dst := dd, op := .buildSlice t len parts, type := type, pos := pos, after := after, guard := guard } : Oper)).run Γ.P w = .ok (.value (.slice (some ⟨w.heap.size, 0, none⟩) len len)) (w.alloc (.cells cs e)) := by
            intro dd
            by_cases h0 : len * (Γ.T e).size = 0
            · have hr0 : ∀ (g : Nat → Value), (Array.range 0).map g = #[] := fun g => by simp
              have hbig : ¬ (len * (Γ.T e).size > 16777216) := by omega
              rw [h0, hr0] at hfill
              simp only [execOp, Instr.buildSlice, Sem.run_bind, run_underlying tk.und, Result.andThen_ok, run_sz tk'.msize]
              simp [newRow, h0, hr0, hfill]
            · have hbig : ¬ (len * (Γ.T e).size > 16777216) := by omega
              simp only [execOp, Instr.buildSlice, Sem.run_bind, run_underlying tk.und, Result.andThen_ok, run_sz tk'.msize]
              simp [newRow, h0, hbig, zeroValue, typeInfo, tk'.info, tk'.zero, tk'.zsize, hfill]
          split at hk'
          · exact wp_val (hrun _) ⟨_, I, β, σ, (putT_sound hk' (r.alloc _) (.data .nilS)).choose_spec.1, (putT_sound hk' (r.alloc _) (.data .nilS)).choose_spec.2, .alloc _ _ _ _ r.mem.xb, .refl _ _⟩
          · rw [fvL_eq] at hk'
            obtain ⟨S', hk2, r2, hup, hce⟩ := untag_sound hk' r
            obtain ⟨f1, f2, f3, f4⟩ := fresh_block r2
            have hlen : xs.length = len * (Γ.T e).size := by rw [hcs.1]; have := fill_size hfill; simp [this]
            have hnl : (noOwnL xs).length = len * (Γ.T e).size := by rw [noOwnL_eq, List.length_map, hlen]
            refine wp_val (hrun _) (Aft.sig (σ' := setSig σ fun u => if u = d then none else σ 0 u) (fun _ => rfl)
              (row_sound r2 (by simp [setSig]) hk2 (Nat.le_refl _) (by unfold maxLen; have : 1 ≤ (Γ.T e).size := hb2; have := Nat.le_mul_of_pos_right len hb2; omega)
                (by rw [← hcs.1, hlen]) (fun j u hu _ => hcs.2.1 j u hu) (fun i hi => (litF_spec hnl i hi).1) (fun i j x hi hx => ?_) _ (heap_alloc_new w _)
                (fun k o hk ho => by rw [heap_alloc_old w _ k (heap_lt ho)]; exact ho) (by simp) f1 f2 f3 (fun x v hx hb => absurd hb (f4 x v hx)) rfl rfl rfl (fresh_fix w)))
            rw [(litF_spec hnl i hi).2] at hx
            split at hx
            · rw [noOwnL_eq] at hx
              obtain ⟨y, hy, rfl⟩ := map_get hx
              exact (hcs.2.2 _ y hy).data' (noPtrL_get hnp _ _ hy)
            · cases hx
        · exact hk'.elim
      · exact h.elim
    · exact h.elim
  | load t x =>
    simp only [iop, ival, fv_eq] at h
    obtain ⟨h0, h⟩ := tyK_spec h
    obtain ⟨inf, dd, z, tk⟩ := TOK.get hT (t := t) (.inl (by omega))
    obtain ⟨v, u, hk, hv, hr⟩ := loadI_sound tk.msize tk.agg h0 tk.one h r (evo_V r x)
    exact wp_val (v := u) (by simp [execOp, hr]) (put_aft hk r hv)
  | store t x y =>
    simp only [iop, ival, ev_eq] at h
    cases dst with
    | none =>
      obtain ⟨h0, h⟩ := tyK_spec h
      obtain ⟨inf, dd, z, tk⟩ := TOK.get hT (t := t) (.inl (by omega))
      obtain ⟨w', hr, haft⟩ := storeI_sound (inf := inf) tk.msize h r (evo_V r x) (evo_V r y)
      exact wp_skp (w' := w') (by simp [execOp, hr]) haft
    | some d => exact h.elim
  | nilCheck x =>
    simp only [iop, ival, ev_eq] at h
    have hv := evo_V r x
    split at h
    · rename_i l d off hx
      rw [hx] at hv
      obtain ⟨b, hb, _⟩ := hv.ptr_inv
      exact wp_val (v := a.eval x) (by simp [execOp, hb]) (put_aft h r hv)
    · rename_i e n f i j hx
      rw [hx] at hv
      obtain ⟨b, off, g, hb, _⟩ := hv.vptr_inv
      exact wp_val (v := a.eval x) (by simp [execOp, hb]) (put_aft h r hv)
    · rename_i f xs ys hx
      rw [hx] at hv
      obtain ⟨vs, us, hb, _⟩ := hv.fn_inv
      exact wp_val (v := a.eval x) (by simp [execOp, hb]) (put_aft h r hv)
    · exact h.elim
  | binOp op t x y t' =>
    simp only [iop, ival] at h
    obtain ⟨iv, v, hk, hv, hr⟩ := bin_sound (P := Γ.P) (t := t) (w := w) h (evo_V r x) (evo_V r y) (fun he => by
      rcases hT t with h1 | ⟨inf, d, z, tk⟩
      · rw [h1] at he; exact absurd rfl he
      · exact tk.eqs he) (fun hk b hz => by
      rcases hT t with h1 | ⟨inf, d, z, tk⟩
      · rw [h1] at hz; cases hz
      · rw [tk.und, tk.boo hk b hz]) x y
    exact wp_val (v := v) (by simp only [execOp]; rw [Sem.run_bind, hr]; rfl) (put_aft hk r hv)
  | unOp op t x =>
    simp only [iop, ival] at h
    split at h
    · rename_i b hb
      have hv := evo_V r x
      rw [hb] at hv
      exact wp_val (v := .bool !b) (by simp [execOp, hv.bool_inv, Op.unary]) (put_aft h r (.data (.bool _)))
    · rename_i k n hb
      have hv := evo_V r x
      rw [hb] at hv
      exact wp_val (v := .int k (k.wrap (0 - n))) (by simp [execOp, hv.int_inv, Op.unary, Op.intArith]) (put_aft h r (.data (.int _ _)))
    · exact h.elim
  | convert t t' x =>
    simp only [iop, ival] at h
    obtain ⟨h0, h⟩ := tyK_spec h
    obtain ⟨inf0, d0, z0, tk0⟩ := TOK.get hT (t := t) (.inl (by omega))
    split at h
    · rename_i k0 n hk hx
      split at h
      · rename_i k m hz
        have hv := evo_V r x
        rw [hx] at hv
        rcases hT t' with h1 | ⟨inf, d, z, tk⟩
        · rw [h1] at hz; cases hz
        have hd := tk.int hk k m hz
        subst hd
        refine wp_val (v := .int k (k.wrap n)) ?_ (put_aft h r (.data (.int _ _)))
        simp only [execOp, hv.int_inv, convert, Sem.run_bind, run_underlying tk0.und, run_underlying tk.und, Result.andThen_ok, Conv.intToInt]
        rfl
      · exact h.elim
    · exact h.elim
  | fieldAddr t x i =>
    simp only [iop, ival] at h
    split at h
    · rename_i fs hk
      split at h
      · rename_i f hf
        obtain ⟨off, sz, ag⟩ := f
        rw [fieldAt_eq] at hf
        obtain ⟨inf, d, z, tk⟩ := TOK.get hT (t := t) (.inr (by rw [hk]; simp))
        have kd := tk.kind
        rw [hk] at kd
        obtain ⟨fields, rfl, hfl, hff⟩ := kd
        obtain ⟨f', g1, g2, g3, g4, g5, g6⟩ := hff i off sz ag hf
        obtain ⟨b, o, q, hp, hk', hq⟩ := addI_spec h (evo_V r x)
        refine wp_val (v := .pointer (some ⟨b, o + off, none⟩)) ?_ (put_aft hk' r hq)
        have hz : ¬ sz = 0 := by omega
        simp [execOp, Instr.fieldAt, run_underlying tk.und, g1, hp, Instr.sureAddr, fieldPlace, run_sz g3, hz, add_none, g2]
      · exact h.elim
    · exact h.elim
  | field t x i =>
    simp only [iop, ival, fv_eq] at h
    split at h
    · rename_i fs xs hk hx
      split at h
      · rename_i f hf
        obtain ⟨off, sz, ag⟩ := f
        rw [fieldAt_eq] at hf
        obtain ⟨inf, d, z, tk⟩ := TOK.get hT (t := t) (.inr (by rw [hk]; simp))
        have kd := tk.kind
        rw [hk] at kd
        obtain ⟨fields, rfl, hfl, hff⟩ := kd
        obtain ⟨f', g1, g2, g3, g4, g5, g6⟩ := hff i off sz ag hf
        have hv := evo_V r x
        rw [hx] at hv
        obtain ⟨vs, hvs, c1, c2, c3⟩ := hv.agg_inv
        obtain ⟨v, u, hk', hv', hr⟩ := part_sound (P := Γ.P) (w := w) g3 g5 g4 g6 h ⟨c1, c2, c3⟩
        exact wp_val (v := u) (by simp [execOp, Instr.field, run_underlying tk.und, g1, hvs, asAgg, g2, hr]) (put_aft hk' r hv')
      · exact h.elim
    · exact h.elim
  | indexAddr t x i =>
    simp only [iop, ival] at h
    split at h
    · rename_i n e hk
      obtain ⟨k, m, hi, h1, h2, h⟩ := idx_spec h (evo_V r i)
      obtain ⟨b, off, q, hp, hk', hq⟩ := addI_spec h (evo_V r x)
      obtain ⟨inf, d, z, tk⟩ := TOK.get hT (t := t) (.inr (by rw [hk]; simp))
      have kd := tk.kind
      rw [hk] at kd
      obtain ⟨rfl, he⟩ := kd
      obtain ⟨inf', d', z', tk'⟩ := TOK.get hT (t := e) (.inl he)
      refine wp_val (v := .pointer (some ⟨b, off + m.toNat * (Γ.T e).size, none⟩)) ?_ (put_aft hk' r hq)
      have hc : 0 ≤ m ∧ m < (n : Int) := ⟨h1, h2⟩
      simp [execOp, Instr.indexAt, hi, asIntOf, run_underlying tk.und, hp, Instr.sureAddr, hc, run_sz tk'.msize, add_none]
    · rename_i e oo e' n f hk hx
      obtain ⟨k, m, hi, h1, h2, h⟩ := idx_spec h (evo_V r i)
      split at h
      · rename_i he'
        have he' := (beq_iff _ _).1 he'
        obtain ⟨inf, d, z, tk⟩ := TOK.get hT (t := t) (.inr (by rw [hk]; simp))
        have kd := tk.kind
        rw [hk] at kd
        obtain ⟨rfl, he⟩ := kd
        obtain ⟨inf', d', z', tk'⟩ := TOK.get hT (t := e) (.inl he)
        have hv := evo_V r x
        rw [hx] at hv
        rcases hv.lst_inv with ⟨_, _, h0⟩ | ⟨b, off, c, g, hvx, hnc', hown, hl, hI, ho, hD⟩
        · omega
        · refine wp_val (v := .pointer (some ⟨b, off + m.toNat * (Γ.T e).size, none⟩)) ?_ (put_aft h r ?_)
          · have hc : 0 ≤ m ∧ m < (n : Int) := ⟨h1, h2⟩
            simp [execOp, Instr.indexAt, hi, asIntOf, run_underlying tk.und, hvx, hc, run_sz tk'.msize, add_none]
          · rw [← he']
            exact .data (.vptr e' n f m.toNat 0 b off g (by omega) hl hI ho hD)
      · exact h.elim
    · exact h.elim
  | index t x i =>
    simp only [iop, ival, fv_eq] at h
    split at h
    · rename_i n e xs hk hx
      obtain ⟨k, m, hi, h1, h2, h⟩ := idx_spec h (evo_V r i)
      obtain ⟨inf, d, z, tk⟩ := TOK.get hT (t := t) (.inr (by rw [hk]; simp))
      have kd := tk.kind
      rw [hk] at kd
      obtain ⟨rfl, he⟩ := kd
      obtain ⟨inf', d', z', tk'⟩ := TOK.get hT (t := e) (.inl he)
      have hv := evo_V r x
      rw [hx] at hv
      obtain ⟨vs, hvs, c1, c2, c3⟩ := hv.agg_inv
      obtain ⟨v, u, hk', hv', hr⟩ := part_sound (P := Γ.P) (w := w) tk'.msize tk'.agg tk'.pos tk'.one h ⟨c1, c2, c3⟩
      refine wp_val (v := u) ?_ (put_aft hk' r hv')
      have hc : 0 ≤ m ∧ m < (n : Int) := ⟨h1, h2⟩
      simp [execOp, Instr.index, hi, asIntOf, run_underlying tk.und, hvs, hc, run_sz tk'.msize, hr]
    · rename_i s hk hx
      obtain ⟨k, m, hi, h1, h2, h⟩ := idx_spec h (evo_V r i)
      obtain ⟨inf, d, z, tk⟩ := TOK.get hT (t := t) (.inr (by rw [hk]; simp))
      have kd := tk.kind
      rw [hk] at kd
      subst kd
      have hv := evo_V r x
      rw [hx] at hv
      refine wp_val (v := .int .u8 ((s.data.toList.getD m.toNat 0).toNat : Int)) ?_ (put_aft h r (.data (.int _ _)))
      have hlt : m.toNat < s.size := by omega
      have hg : s[m.toNat]? = some s[m.toNat] := getElem?_pos s m.toNat hlt
      have hd : s.data.toList.getD m.toNat 0 = s[m.toNat] := by
        have : m.toNat < s.data.size := hlt
        show s.data.toList.getD m.toNat 0 = s.data[m.toNat]
        simp only [List.getD_eq_getElem?_getD, Array.getElem?_toList]
        rw [Array.getElem?_eq_getElem this]; rfl
      rw [hd]
      simp only [execOp, Instr.index, hi, Sem.run_bind, asIntOf, Sem.run_pure, Result.andThen_ok, run_underlying tk.und, hv.str_inv, if_pos h1, hg]
    · exact h.elim
  | makeSlice t len cap =>
    simp only [iop] at h
    split at h
    · rename_i e d hk
      split at h
      · rename_i hpos
        have hpos := blt_lt hpos
        obtain ⟨inf, dd, z, tk⟩ := TOK.get hT (t := t) (.inr (by rw [hk]; simp))
        have kd := tk.kind
        rw [hk] at kd
        obtain ⟨rfl, he⟩ := kd
        obtain ⟨inf', d', z', tk'⟩ := TOK.get hT (t := e) (.inl he)
        unfold makeI at h
        split at h
        · rename_i kl l kc c hl hc
          have vl := evo_V r len
          have vc := evo_V r cap
          rw [hl] at vl
          rw [hc] at vc
          obtain ⟨h1, h⟩ := chk_spec h
          obtain ⟨h2, h⟩ := chk_spec h
          simp at h1 h2
          have hb : (inf'.bytes : Int) * c ≤ 281474976710656 := by
            have hb1 := tk'.bytes
            have : (inf'.bytes : Int) * c ≤ 131072 * 1073741824 := Int.le_trans (Int.mul_le_mul_of_nonneg_right (by omega) h1) (Int.mul_le_mul_of_nonneg_left h2 (by omega))
            omega
          have hsz : ∀ k, (madeCells z'.cells (k * inf'.size)).size = k * (Γ.T e).size := fun k => by rw [size_madeCells, tk'.size]
          split at h
          · obtain ⟨S', hk2, r2, _, _⟩ := untag_sound h r
            obtain ⟨f1, f2, f3, f4⟩ := fresh_block r2
            have l0 : l = 0 := by
              have : evo Γ S (.const (.int _ 0)) = .int _ l := hl
              simp [evo, ofConst] at this
              exact this.2.symm
            subst l0
            have hr := run_make (P := Γ.P) w t e inf' z' tk.und tk'.info tk'.zero kl kc 0 c (by omega) h1 hb (by omega)
            refine wp_val (v := .slice (some ⟨w.heap.size, 0, none⟩) (Int.toNat 0) c.toNat) (w' := w.alloc (.cells (madeCells z'.cells (c.toNat * inf'.size)) e)) (by simp only [execOp, vl.int_inv, vc.int_inv]; rw [Sem.run_bind, hr]; rfl) (Aft.sig (σ' := setSig σ fun u => if u = d then none else σ 0 u) (fun _ => rfl) ?_)
            simp only [Int.toNat_zero]
            refine row_sound (el := e) (vs := madeCells z'.cells (c.toNat * inf'.size)) (e := (Γ.T e).size) r2 (by simp [setSig]) hk2 (Nat.zero_le _) (by unfold maxLen; omega) (hsz _) (fun j u hu hj => by omega) (fun i hi => by omega) (fun i j x hi => by omega) _ (heap_alloc_new w _)
              (fun k o hk ho => by rw [heap_alloc_old w _ k (heap_lt ho)]; exact ho) (by simp) f1 f2 f3 (fun x v hx hb => absurd hb (f4 x v hx)) rfl rfl rfl (fresh_fix w)
          · obtain ⟨h3, h⟩ := chk_spec h
            simp at h3
            subst h3
            obtain ⟨S', hk2, r2, _, _⟩ := untag_sound h r
            have hr := run_make (P := Γ.P) w t e inf' z' tk.und tk'.info tk'.zero kl kc l l h1 (Int.le_refl _) hb (by omega)
            refine wp_val (v := .slice (some ⟨w.heap.size, 0, none⟩) l.toNat l.toNat) (w' := w.alloc (.cells (madeCells z'.cells (l.toNat * inf'.size)) e)) (by simp only [execOp, vl.int_inv, vc.int_inv]; rw [Sem.run_bind, hr]; rfl) (Aft.sig (σ' := setSig σ fun u => if u = d then none else σ 0 u) (fun _ => rfl) ?_)
            exact raw_sound r2 (by simp [setSig]) hk2 (by unfold maxLen; omega) (hsz _)
        · exact h.elim
      · exact h.elim
    · exact h.elim
  | slice t x lo hi mx =>
    have pure : ival Γ S ⟨dst, .slice t x lo hi mx, type, pos, after, guard⟩ (fun v => putT Γ S dst v K) → Oper.wp Γ.P ⟨dst, .slice t x lo hi mx, type, pos, after, guard⟩ a w (Aft Γ K I X w β σ) Q := fun h => by
      cases mx with
      | some m => simp [ival] at h
      | none =>
        simp only [ival] at h
        obtain ⟨iv, v, hk, hv, hr⟩ := sliceI_sound hT h r
        exact wp_val (v := v) (by simp [execOp, hr]) (put_aft hk r hv)
    simp only [iop] at h
    split at h
    · rename_i n e hk
      obtain ⟨b, hb, haft⟩ := sliceA_sound h r
      obtain ⟨inf, d, z, tk⟩ := TOK.get hT (t := t) (.inr (by rw [hk]; simp))
      have kd := tk.kind
      rw [hk] at kd
      obtain ⟨rfl, he⟩ := kd
      obtain ⟨inf', d', z', tk'⟩ := TOK.get hT (t := e) (.inl he)
      refine wp_val (v := .slice (some ⟨b, 0, none⟩) n n) ?_ haft
      by_cases hn : n = 0
      · simp [execOp, Instr.sliceAt, run_underlying tk.und, hb, Instr.sureAddr, Instr.sliceBounds, run_sz tk'.msize, hn]
      · simp [execOp, Instr.sliceAt, run_underlying tk.und, hb, Instr.sureAddr, Instr.sliceBounds, run_sz tk'.msize, hn, add_none]
    · exact pure h
  | extract x i =>
    simp only [iop, ival, fv_eq] at h
    split at h
    · rename_i xs hx
      rw [nthI_eq] at h
      split at h
      · rename_i v hv
        have hvx := evo_V r x
        rw [hx] at hvx
        obtain ⟨vs, hvs, hl, hV⟩ := hvx.tup_inv
        have hlt : i < vs.size := by rw [← hl]; exact (List.getElem?_eq_some_iff.1 hv).1
        have := hV i v hv
        exact wp_val (v := vs.getD i undef) (by simp [execOp, Instr.extract, hvs, hlt]) (put_aft h r this)
      · exact h.elim
    · exact h.elim
  | makeFunc fn first captured =>
    cases fn with
    | func f =>
      simp only [iop, ival, fvL_eq] at h
      refine wp_val (v := .func (.func f) (first.map a.eval) (captured.map a.eval)) (by simp [execOp, Instr.makeFunc]) (put_aft h r ?_)
      refine .fn f _ _ _ _ (by simp [evoL_eq]) (by simp [evoL_eq]) (fun j x hx => ?_) (fun j x hx => ?_)
      · rw [evoL_eq] at hx
        simp only [List.getElem?_map, Option.map_eq_some_iff] at hx
        obtain ⟨y, hy, rfl⟩ := hx
        have := evo_V r y
        simp only [Array.getElem?_toList] at hy
        simpa [Array.getD_eq_getD_getElem?, hy] using this
      · rw [evoL_eq] at hx
        simp only [List.getElem?_map, Option.map_eq_some_iff] at hx
        obtain ⟨y, hy, rfl⟩ := hx
        have := evo_V r y
        simp only [Array.getElem?_toList] at hy
        simpa [Array.getD_eq_getD_getElem?, hy] using this
    | _ => simp [iop, ival] at h
  | call c => exact absurd rfl (hnc c)
  | _ => simp [iop, ival] at h

end
end Go.Proofs.YtllmejkmogepjaaDoor.Ix
