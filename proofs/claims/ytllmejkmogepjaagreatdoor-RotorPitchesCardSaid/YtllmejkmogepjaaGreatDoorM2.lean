/-
  Ix10: every operation of the evaluator but calls and appends.
-/
import Derived.Test.YtllmejkmogepjaaGreatDoorM1
import Derived.Laws.MakeOwn
import Derived.Laws.IdiomStrings
import Derived.Orders
namespace Go.Proofs.YtllmejkmogepjaaGreatDoor.Ix
set_option linter.unusedVariables false

section
variable {Γ : Env} {S : St} {a : Act} {w : World} {I : Imm} {X : Nat → Prop} {β : Beta} {σ : Nat → Sig} {K : St → Prop}

theorem Aft.mono {K K' : St → Prop} (hk : ∀ S, K S → K' S) {a' : Act} {w' : World} (h : Aft Γ K I X w β σ a' w') : Aft Γ K' I X w β σ a' w' :=
  let ⟨S', I', β', σ', h1, h2⟩ := h
  ⟨S', I', β', σ', hk _ h1, h2⟩

theorem Aft.sig {σ' : Nat → Sig} (hs : ∀ l, σ' (l + 1) = σ (l + 1)) {a' : Act} {w' : World} (h : Aft Γ K I X w β σ' a' w') : Aft Γ K I X w β σ a' w' :=
  let ⟨S', I', β', σ'', h1, h2, h3, h4⟩ := h
  ⟨S', I', β', σ'', h1, h2, h3, h4.1, fun l => (h4.2 l).trans (hs l)⟩

theorem litF_spec {e : Nat} {xs : List IV} {n : Nat} (hl : xs.length = n * e) (i : Nat) (hi : i < n) : (litF e xs i).length = e ∧ ∀ j, (litF e xs i)[j]? = if j < e then xs[i * e + j]? else none := by
  have hb : i * e + e ≤ n * e := by
    have := Nat.mul_le_mul_right e (show i + 1 ≤ n by omega)
    rw [Nat.add_mul] at this; omega
  unfold litF
  rw [dropN_eq]
  split
  · rename_i t ht
    obtain ⟨rfl, hn⟩ := takeN_spec _ _ _ ht
    refine ⟨by simp at hn ⊢; omega, fun j => ?_⟩
    rw [List.getElem?_take, List.getElem?_drop]
  · rename_i hnone
    exfalso
    have : ∀ (n : Nat) (l : List IV), takeN n l = none → l.length < n := by
      intro n
      induction n with
      | zero => intro l h; simp [takeN] at h
      | succ n ih =>
        intro l h
        cases l with
        | nil => simp
        | cons x r =>
          simp only [takeN] at h
          split at h
          · cases h
          · rename_i h2; have := ih r h2; simp; omega
    have := this _ _ hnone
    simp at this; omega

theorem run_mapM_places {P : Program} (fs : List Field) (szs : List Nat) (hl : fs.length = szs.length) (h : ∀ (i : Nat) f s, fs[i]? = some f → szs[i]? = some s → (P.info? f.type).map (·.size) = some s) (w : World) :
    (fs.mapM (fun f => do pure (f.offset, ← sizeOf f.type) : Field → Sem (Nat × Nat))).run P w = .ok ((fs.zip szs).map fun (f, s) => (f.offset, s)) w := by
  induction fs generalizing szs with
  | nil => cases szs <;> simp at hl ⊢
  | cons f fs ih =>
    cases szs with
    | nil => simp at hl
    | cons s szs =>
      have h0 := h 0 f s (by simp) (by simp)
      have := ih szs (by simpa using hl) (fun i f s hf hs => h (i + 1) f s (by simpa using hf) (by simpa using hs))
      simp only [List.mapM_cons, Sem.run_bind, run_sz h0, Result.andThen_ok, Sem.run_pure, this]
      rfl

theorem evoL_eq (Γ : Env) (S : St) : ∀ l, evoL Γ S l = l.map (evo Γ S)
  | [] => rfl
  | x :: r => by simp [evoL, evoL_eq Γ S r]

theorem fill_size {place : Nat → Option (Nat × Nat)} : ∀ {parts : List (Nat × Value)} {cells cs : Array Value}, Instr.fill place cells parts = some cs → cs.size = cells.size
  | [], cells, cs, h => by simp [Instr.fill] at h; rw [h]
  | (i, v) :: rest, cells, cs, h => by
    simp only [Instr.fill] at h
    split at h
    · cases h
    · split at h
      · cases h
      · rename_i off size _ _
        rw [fill_size h]
        have := (fill_foldl off v.cells.toList 0 cells).1
        rw [← Array.foldl_toList, Array.toList_zipIdx]; exact this

theorem noPtrL_get : ∀ {xs : List IV}, noPtrL xs = true → ∀ (j : Nat) x, xs[j]? = some x → noPtr x = true
  | [], _, j, x, h => by simp at h
  | y :: r, h, j, x, hx => by
    simp [noPtrL] at h
    cases j with
    | zero => simp at hx; subst hx; exact h.1
    | succ j => exact noPtrL_get h.2 j x (by simpa using hx)

theorem V.data' {I : Imm} {β : Beta} {σ : Sig} {x : IV} {v : Value} (h : V I β σ x v) : noPtr x = true → D I (Ix.noOwn x) v := by
  induction h with
  | data h => exact fun _ => h.noOwn
  | ptr l d off b h => intro hn; simp [noPtr] at hn
  | ownN t e f => exact fun _ => .lstN e f
  | own t e n f b el c g ht hc hl hi h1 h => exact fun _ => .lst e n f b 0 c g hc hl (fun i j a b => by simpa using hi i j a b) h1 h
  | raw t e n b el ht => exact fun _ => .dead _
  | agg xs vs hl h1 _ ih =>
    intro hn
    simp only [Ix.noOwn, noOwnL_eq]
    exact .agg _ vs (by simpa using hl) h1 fun j x hx => by obtain ⟨y, hy, rfl⟩ := map_get hx; exact ih j y hy (noPtrL_get (by simpa [noPtr] using hn) j y hy)
  | tup xs vs hl _ ih =>
    intro hn
    simp only [Ix.noOwn, noOwnL_eq]
    exact .tup _ vs (by simpa using hl) fun j x hx => by obtain ⟨y, hy, rfl⟩ := map_get hx; exact ih j y hy (noPtrL_get (by simpa [noPtr] using hn) j y hy)
  | fn f xs ys vs us hl hk _ _ ih ih' =>
    intro hn
    simp [noPtr] at hn
    simp only [Ix.noOwn, noOwnL_eq]
    exact .fn f _ _ vs us (by simpa using hl) (by simpa using hk) (fun j x hx => by obtain ⟨y, hy, rfl⟩ := map_get hx; exact ih j y hy (noPtrL_get hn.1 j y hy))
      (fun j x hx => by obtain ⟨y, hy, rfl⟩ := map_get hx; exact ih' j y hy (noPtrL_get hn.2 j y hy))

theorem bnd_run {P : Program} (r : Rel Γ S a w I X β σ) (x : Option Operand) (d : Int) {n : Int} (h : bnd d (x.map (evo Γ S)) = some n) :
    (x = none ∧ n = d) ∨ ∃ y k, x = some y ∧ a.eval y = .int k n := by
  cases x with
  | none => simp [bnd] at h; exact .inl ⟨rfl, h.symm⟩
  | some y =>
    right
    have hv := evo_V r y
    simp only [Option.map_some] at h
    unfold bnd at h
    split at h
    · rename_i he; cases he
    · rename_i k m he
      simp at he h; subst h
      rw [he] at hv
      exact ⟨y, k, rfl, hv.int_inv⟩
    · cases h

theorem run_sliceBound {P : Program} {k : IntKind} {n : Int} {y : Nat} (h0 : 0 ≤ n) (h1 : n ≤ y) (code : BoundsCode) (w : World) : (Instr.sliceBound (.int k n) y code).run P w = .ok n.toNat w := by
  simp [Instr.sliceBound, asIntOf, h0, h1]

theorem run_sliceBounds {P : Program} (r : Rel Γ S a w I X β σ) (lo hi : Option Operand) (isS : Bool) (len cap : Nat) {l h : Int} (hl : bnd 0 (lo.map (evo Γ S)) = some l) (hh : bnd len (hi.map (evo Γ S)) = some h)
    (h0 : 0 ≤ l) (h1 : l ≤ h) (h2 : h ≤ len) (hlc : len ≤ cap) (hsame : isS = false → cap = len) :
    (Instr.sliceBounds isS len cap (lo.map a.eval) (hi.map a.eval) none).run P w = .ok (l.toNat, h.toNat, cap) w := by
  have hhi : h ≤ (cap : Int) := by omega
  rcases bnd_run (P := P) r hi len hh with ⟨rfl, rfl⟩ | ⟨y, k, rfl, hy⟩
  · rcases bnd_run (P := P) r lo 0 hl with ⟨rfl, rfl⟩ | ⟨y', k', rfl, hy'⟩
    · simp [Instr.sliceBounds]
    · have e1 := fun c => run_sliceBound (P := P) (k := k') (n := l) (y := len) h0 (by omega) c w
      simp [Instr.sliceBounds, hy', e1]
  · have e2 := fun c => run_sliceBound (P := P) (k := k) (n := h) (y := cap) (by omega) hhi c w
    rcases bnd_run (P := P) r lo 0 hl with ⟨rfl, rfl⟩ | ⟨y', k', rfl, hy'⟩
    · simp [Instr.sliceBounds, hy, e2]
    · have e1 := fun c => run_sliceBound (P := P) (k := k') (n := l) (y := h.toNat) h0 (by omega) c w
      simp [Instr.sliceBounds, hy, hy', e2, e1]

theorem sliceI_sound {t : Nat} {x : Operand} {lo hi : Option Operand} {K : IV → Prop} (hT : TOK Γ.P Γ.T) (h : sliceI Γ (Γ.T t) (evo Γ S x) (lo.map (evo Γ S)) (hi.map (evo Γ S)) K) (r : Rel Γ S a w I X β σ) :
    ∃ iv v, K iv ∧ V I β (σ 0) iv v ∧ (Instr.sliceAt t (a.eval x) (lo.map a.eval) (hi.map a.eval) none).run Γ.P w = .ok v w := by
  have hv := evo_V r x
  unfold sliceI at h
  split at h
  · rename_i s hk hx
    rw [hx] at hv
    split at h
    · rename_i l hh e1 e2
      obtain ⟨h0, h⟩ := chk_spec h
      obtain ⟨h1, h⟩ := chk_spec h
      obtain ⟨h2, h⟩ := chk_spec h
      simp at h0 h1 h2
      obtain ⟨inf, d, z, tk⟩ := TOK.get hT (t := t) (.inr (by rw [hk]; simp))
      have kd := tk.kind
      rw [hk] at kd
      subst kd
      have hb := run_sliceBounds (P := Γ.P) r lo hi false s.size s.size e1 e2 h0 h1 h2 (Nat.le_refl _) (fun _ => rfl)
      refine ⟨_, .string (s.extract l.toNat hh.toNat), h, .data (.str _), ?_⟩
      simp [Instr.sliceAt, Instr.slice, run_underlying tk.und, hv.str_inv, hb]
    · exact h.elim
  · rename_i el o e n f hk hx
    rw [hx] at hv
    split at h
    · rename_i l hh e1 e2 e3
      have e3 := (beq_iff _ _).1 e3
      obtain ⟨h0, h⟩ := chk_spec h
      obtain ⟨h1, h⟩ := chk_spec h
      obtain ⟨h2, h⟩ := chk_spec h
      simp at h0 h1 h2
      obtain ⟨inf, d, z, tk⟩ := TOK.get hT (t := t) (.inr (by rw [hk]; simp))
      have kd := tk.kind
      rw [hk] at kd
      obtain ⟨rfl, he⟩ := kd
      obtain ⟨inf', d', z', tk'⟩ := TOK.get hT (t := el) (.inl he)
      rcases hv.lst_inv with ⟨px, hvx, hn0⟩ | ⟨b, off, c, g, hvx, hnc, hown, hl, hI, ho, hD⟩
      · subst hn0
        have hb := run_sliceBounds (P := Γ.P) r lo hi true 0 0 e1 e2 h0 h1 h2 (Nat.le_refl _) (fun h => by cases h)
        have l0 : l = 0 := by omega
        have hh0 : hh = 0 := by omega
        subst l0 hh0
        refine ⟨_, .slice px 0 0, h, .data (.lstN _ _), ?_⟩
        simp at hb
        simp [Instr.sliceAt, Instr.slice, run_underlying tk.und, hvx, hb, run_sz tk'.msize]
      · have hb := run_sliceBounds (P := Γ.P) r lo hi true n c e1 e2 h0 h1 h2 hnc (fun h => by cases h)
        by_cases hcl : c = l.toNat
        · have hz : hh.toNat - l.toNat = 0 := by omega
          refine ⟨_, .slice (some ⟨b, off, none⟩) (hh.toNat - l.toNat) (c - l.toNat), h, ?_, ?_⟩
          · rw [hz]
            exact .data (.lst e 0 _ b off _ g (by omega) (fun i hi => by omega) (fun i j hi => by omega) (fun i j hi => by omega) (fun i j x hi => by omega))
          · subst hcl
            simp [Instr.sliceAt, Instr.slice, run_underlying tk.und, hvx, hb, run_sz tk'.msize]
        · refine ⟨_, .slice (some ⟨b, off + l.toNat * e, none⟩) (hh.toNat - l.toNat) (c - l.toNat), h, ?_, ?_⟩
          · refine .data (.lst e _ _ b _ _ (fun i j => g (l.toNat + i) j) (by omega) (fun i hi => hl _ (by omega)) (fun i j hi hj => ?_) (fun i j hi hj => ho _ _ (by omega) hj) (fun i j x hi hx => hD _ j x (by omega) hx))
            have := hI (l.toNat + i) j (by omega) hj
            rw [show off + l.toNat * e + i * e + j = off + (l.toNat + i) * e + j by rw [Nat.add_mul]; omega]
            exact this
          · simp [Instr.sliceAt, Instr.slice, run_underlying tk.und, hvx, hb, run_sz tk'.msize, hcl, add_none, e3]
    · exact h.elim
  · exact h.elim

theorem mentL_get {c : Nat} : ∀ {xs : List IV}, mentL c xs = false → ∀ (j : Nat) x, xs[j]? = some x → ment c x = false
  | [], _, j, x, h => by simp at h
  | y :: r, h, j, x, hx => by
    simp [mentL] at h
    cases j with
    | zero => simp at hx; subst hx; exact h.1
    | succ j => exact mentL_get h.2 j x (by simpa using hx)

theorem V.nomen {I I2 : Imm} {β β' : Beta} {s : Sig} {c : Nat} (hI : ∀ a v, I a = some v → I2 a = some v) (hb : ∀ l d b, β l d = some b → (l = 0 → d ≠ c) → β' l d = some b) {x : IV} {v : Value} (h : V I β s x v) : ment c x = false → V I2 β' s x v := by
  induction h with
  | data h => exact fun _ => .data (h.mono hI)
  | ptr l d off b h => exact fun hc => .ptr l d off b (hb l d b h (fun e => by subst e; simp only [ment] at hc; exact beq_false hc))
  | ownN t e f => exact fun _ => .ownN t e f
  | own t e n f b el c g ht hc hl hi h1 h => exact fun _ => .own t e n f b el c g ht hc hl (fun i j h h' => hI _ _ (hi i j h h')) h1 (fun i j x a b => (h i j x a b).mono hI)
  | raw t e n b el ht => exact fun _ => .raw t e n b el ht
  | agg xs vs hl h1 _ ih => exact fun hc => .agg xs vs hl h1 fun j x hx => ih j x hx (mentL_get (by simpa [ment] using hc) j x hx)
  | tup xs vs hl _ ih => exact fun hc => .tup xs vs hl fun j x hx => ih j x hx (mentL_get (by simpa [ment] using hc) j x hx)
  | fn f xs ys vs us hl hk _ _ ih ih' =>
    intro hc
    simp [ment] at hc
    exact .fn f xs ys vs us hl hk (fun j x hx => ih j x hx (mentL_get hc.1 j x hx)) (fun j x hx => ih' j x hx (mentL_get hc.2 j x hx))

theorem V.kill {I I2 : Imm} {β β' : Beta} {s : Sig} {c : Nat} (hI : ∀ a v, I a = some v → I2 a = some v) (hb : ∀ l d b, β l d = some b → (l = 0 → d ≠ c) → β' l d = some b) {x : IV} {v : Value} (h : V I β s x v) : V I2 β' s (kill c x) v := by
  unfold Ix.kill
  cases hm : ment c x with
  | true => exact .data (.dead _)
  | false => exact h.nomen hI hb hm

theorem killT_look (c : Nat) : ∀ (l : Tms) i, look (killT c l) i = kill c (look l i)
  | [], i => by simp [killT, look, kill, ment]
  | (k, v) :: r, i => by
    simp only [killT, look_cons, killT_look c r]
    split <;> rfl
theorem killL_eq (c : Nat) : ∀ l, killL c l = l.map (kill c)
  | [] => rfl
  | x :: r => by simp only [killL, List.map_cons, killL_eq c r]
theorem killC_look (c : Nat) : ∀ (l : Ces) d, lookC (killC c l) d = if d = c then none else (lookC l d).map (killL c)
  | [], d => by simp [killC, lookC]
  | (k, v) :: r, d => by
    have ih := killC_look c r d
    by_cases hk : k = c
    · subst hk
      have : Nat.beq k k = true := by simp
      simp only [killC, this, lookC_cons, ih]
      by_cases hd : d = k
      · simp [hd]
      · simp [hd, Ne.symm hd]
    · have : Nat.beq k c = false := by rw [Bool.eq_false_iff]; intro e; exact hk (Nat.eq_of_beq_eq_true e)
      simp only [killC, this, lookC_cons, ih]
      by_cases hd : k = d
      · subst hd; simp [hk]
      · simp [hd]

open Classical in
theorem sliceA_sound {n e : Nat} {o : Option Nat} {x : Operand} (h : sliceA Γ S o n e (evo Γ S x) K) (r : Rel Γ S a w I X β σ) :
    ∃ b, a.eval x = .pointer (some ⟨b, 0, none⟩) ∧ Aft Γ K I X w β σ (a.put o (.slice (some ⟨b, 0, none⟩) n n)) w := by
  obtain ⟨tm, ce, up⟩ := S
  have hv := evo_V r x
  unfold sliceA at h
  split at h
  case h_2 => exact h.elim
  rename_i tm' ce' up' c heq hx
  cases heq
  rw [hx] at hv
  obtain ⟨b, hb, hβ⟩ := hv.ptr_inv
  refine ⟨b, hb, ?_⟩
  split at h
  case h_2 => exact h.elim
  rename_i xs hxs
  split at h
  case h_2 => exact h.elim
  rename_i hok
  simp only [Bool.and_eq_true, beq_iff] at hok
  obtain ⟨hlen, hnp⟩ := hok
  rw [fvL_eq, fps_eq, fcs_eq] at h
  obtain ⟨b', arr, el, h1, h2, h3, h4, h5, h6, h7⟩ := r.mem.cell 0 c xs hxs
  rw [hβ] at h1; cases h1
  let P : Addr → Prop := fun x => x.block = b ∧ x.spot = none ∧ x.off < xs.length
  let I2 : Imm := fun x => if P x then w.cell? x else I x
  let β' : Beta := fun l d => if l = 0 ∧ d = c then none else β l d
  have hI : ∀ x v, I x = some v → I2 x = some v := by
    intro x v hx
    show (if P x then _ else _) = _
    split
    · exact r.mem.im x v hx
    · exact hx
  have hsub : ∀ l d b0, β' l d = some b0 → β l d = some b0 ∧ (l = 0 → d ≠ c) := by
    intro l d b0 hb0
    replace hb0 : (if l = 0 ∧ d = c then none else β l d) = some b0 := hb0
    split at hb0
    · cases hb0
    · rename_i hn; exact ⟨hb0, fun e1 e2 => hn ⟨e1, e2⟩⟩
  have hmk : ∀ l d b0, β l d = some b0 → (l = 0 → d ≠ c) → β' l d = some b0 := by
    intro l d b0 hb0 hk
    show (if _ then _ else _) = _
    rw [if_neg]; exact hb0
    rintro ⟨e1, e2⟩; exact hk e1 e2
  have hne : ∀ l d b0, β' l d = some b0 → b0 ≠ b := by
    intro l d b0 hb0 e
    subst e
    obtain ⟨g1, g2⟩ := hsub l d b0 hb0
    have := r.mem.inj _ _ _ _ _ g1 hβ
    exact g2 this.1 this.2
  have hIn : ∀ x, x.block ≠ b → I2 x = I x := fun x hx => if_neg fun hp => hx hp.1
  have him : ∀ x v, I2 x = some v → w.cell? x = some v := by
    intro x v hx
    have hx : (if P x then w.cell? x else I x) = some v := hx
    split at hx
    · exact hx
    · exact r.mem.im x v hx
  have hnl : (noOwnL xs).length = n * e := by rw [noOwnL_eq, List.length_map, hlen]
  have hcell : ∀ j, j < xs.length → I2 ⟨b, 0 + j, none⟩ = some (arr.getD j undef) := by
    intro j hj
    show (if P _ then _ else _) = _
    rw [if_pos ⟨rfl, rfl, by simpa using hj⟩]
    have hlt : j < arr.size := by omega
    simp [World.cell?, h2, Array.getD_eq_getD_getElem?, hlt]
  have hin : ∀ i j, i < n → j < e → i * e + j < xs.length := by
    intro i j hi hj
    have := Nat.mul_le_mul_right e (show i + 1 ≤ n by omega)
    rw [Nat.add_mul] at this; omega
  have r2 : Rel Γ ⟨killT c tm, killC c ce, up⟩ a w I2 X β' σ := by
    refine ⟨fun i => ?_, r.df, r.nt, ⟨fun l d c' hc => ?_, fun l d l' d' b0 k1 k2 => r.mem.inj l d l' d' b0 (hsub _ _ _ k1).1 (hsub _ _ _ k2).1, fun l d b0 hb0 => ?_, him, fun g => (r.mem.glo g).mono hI, r.mem.xb, r.mem.gz⟩, ⟨fun t g hg => ?_, r.own.inj⟩⟩
    · rw [killT_look]; exact (r.tm i).kill hI hmk
    · cases l with
      | zero =>
        simp only [upC, killC_look] at hc
        split at hc
        · cases hc
        · rename_i hdc
          simp only [Option.map_eq_some_iff] at hc
          obtain ⟨y, hy, rfl⟩ := hc
          obtain ⟨b0, arr0, el0, k1, k2, k3, k4, k5, k6, k7⟩ := r.mem.cell 0 d y hy
          have hbb : β' 0 d = some b0 := hmk 0 d b0 k1 fun _ => hdc
          refine ⟨b0, arr0, el0, hbb, k2, by simp [killL_eq, k3], k4, fun j z hz => ?_, fun j => by rw [hIn _ (hne _ _ _ hbb)]; exact k6 j, k7⟩
          rw [killL_eq] at hz
          obtain ⟨z0, hz0, rfl⟩ := map_get hz
          exact (k5 j z0 hz0).kill hI fun l' d' b' hb' hk => hmk (0 + l') d' b' hb' fun e => hk (by omega)
      | succ l =>
        obtain ⟨b0, arr0, el0, k1, k2, k3, k4, k5, k6, k7⟩ := r.mem.cell (l + 1) d c' hc
        have hbb : β' (l + 1) d = some b0 := hmk _ d b0 k1 fun e => by omega
        exact ⟨b0, arr0, el0, hbb, k2, k3, k4, fun j z hz => (k5 j z hz).mono hI (fun l' d' b' hb' => hmk (l + 1 + l') d' b' hb' (fun e => by omega)) (fun _ _ h => h), fun j => by rw [hIn _ (hne _ _ _ hbb)]; exact k6 j, k7⟩
    · obtain ⟨g1, g2⟩ := hsub l d b0 hb0
      obtain ⟨y, hy⟩ := r.mem.keys l d b0 g1
      cases l with
      | zero =>
        simp only [upC] at hy
        simp only [upC, killC_look, if_neg (g2 rfl), hy]
        exact ⟨_, rfl⟩
      | succ l => exact ⟨y, hy⟩
    · obtain ⟨cur, k1, k2, k3, k4, k5, k6, k7⟩ := r.own.row t g hg
      refine ⟨cur, k1, k2, k3, k4, fun j hj => ?_, k6, fun l d hb => k7 l d (hsub _ _ _ hb).1⟩
      rw [hIn _ (fun e => k7 0 c (by rw [hβ]; exact congrArg some e.symm))]; exact k5 j hj
  have hres : V I2 β' (σ 0) (.lst none e n (litF e (noOwnL xs))) (.slice (some ⟨b, 0, none⟩) n n) := by
    refine .data (.lst e n _ b 0 n (fun i j => arr.getD (i * e + j) undef) (Nat.le_refl _) (fun i hi => (litF_spec hnl i hi).1) (fun i j hi hj => ?_) (fun i j hi hj => ?_) (fun i j z hi hz => ?_))
    · have := hcell (i * e + j) (hin i j hi hj)
      rw [show 0 + i * e + j = 0 + (i * e + j) by omega]; exact this
    · have hlt : i * e + j < arr.size := by have := hin i j hi hj; omega
      exact h4 (i * e + j) _ (by simp [Array.getD_eq_getD_getElem?, hlt])
    · rw [(litF_spec hnl i hi).2] at hz
      split at hz
      · rw [noOwnL_eq] at hz
        obtain ⟨y, hy, rfl⟩ := map_get hz
        exact ((h5 _ y hy).data' (noPtrL_get hnp _ _ hy)).mono hI
      · cases hz
  obtain ⟨S', hk, r3⟩ := putT_sound h r2 hres
  refine ⟨S', I2, β', σ, hk, r3, ⟨rfl, rfl, rfl, Nat.le_refl _, fun _ _ => rfl, hI, fun x hx => hIn x (fun e => h7 (e ▸ hx)), fun _ _ h _ => h⟩, fun l => ?_, fun l => rfl⟩
  funext d
  show (if _ then _ else _) = _
  rw [if_neg (by omega)]

theorem settleL_eq (t e n : Nat) (g : Nat → List IV) : ∀ l, settleL t e n g l = l.map (settle t e n g)
  | [] => rfl
  | x :: r => by simp only [settleL, List.map_cons, settleL_eq t e n g r]
theorem settleT_look (t e n : Nat) (g : Nat → List IV) : ∀ (l : Tms) i, look (settleT t e n g l) i = settle t e n g (look l i)
  | [], i => rfl
  | (k, v) :: r, i => by
    simp only [settleT, look_cons, settleT_look t e n g r]
    split <;> rfl
theorem settleC_look (t e n : Nat) (g : Nat → List IV) : ∀ (l : Ces) d, lookC (settleC t e n g l) d = (lookC l d).map (settleL t e n g)
  | [], d => rfl
  | (k, v) :: r, d => by
    simp only [settleC, lookC_cons, settleC_look t e n g r]
    split <;> rfl

theorem D.settle {I : Imm} (t e n : Nat) (g : Nat → List IV) {x : IV} {v : Value} (h : D I x v) : D I (settle t e n g x) v := by
  induction h with
  | int k n => exact .int k n
  | bool b => exact .bool b
  | str s => exact .str s
  | lit v h => exact .lit v h
  | nilS => exact .nilS
  | lstN e f => exact .lstN e f
  | lst e n f b off c g hc hl hi h1 h ih => exact .lst e n f b off c g hc hl hi h1 h
  | vptr e n f i j b off g hi0 hl hi h1 h ih => exact .vptr e n f i j b off g hi0 hl hi h1 h
  | agg xs vs hl h1 _ ih =>
    simp only [Ix.settle, settleL_eq]
    exact .agg _ vs (by simpa using hl) h1 fun j x hx => by obtain ⟨y, hy, rfl⟩ := map_get hx; exact ih j y hy
  | tup xs vs hl _ ih =>
    simp only [Ix.settle, settleL_eq]
    exact .tup _ vs (by simpa using hl) fun j x hx => by obtain ⟨y, hy, rfl⟩ := map_get hx; exact ih j y hy
  | fn f xs ys vs us hl hk _ _ ih ih' =>
    simp only [Ix.settle, settleL_eq]
    exact .fn f _ _ vs us (by simpa using hl) (by simpa using hk) (fun j x hx => by obtain ⟨y, hy, rfl⟩ := map_get hx; exact ih j y hy)
      (fun j x hx => by obtain ⟨y, hy, rfl⟩ := map_get hx; exact ih' j y hy)
  | dead v => exact .dead v

theorem V.settle {I I' : Imm} {β : Beta} {s s' : Sig} {t e n b0 el0 : Nat} {g : Nat → List IV} (hI : ∀ a v, I a = some v → I' a = some v) (hs : ∀ u g0, u ≠ t → s u = some g0 → s' u = some g0)
    (ht0 : s t = some ⟨b0, el0, e, 0, n⟩) (hv : V I' β s' (.lst (some t) e n g) (.slice (some ⟨b0, 0, none⟩) n n)) {x : IV} {v : Value} (h : V I β s x v) : V I' β s' (settle t e n g x) v := by
  induction h with
  | data h => exact .data ((h.settle t e n g).mono hI)
  | ptr l d off b h => exact .ptr l d off b h
  | ownN u e' f =>
    simp only [Ix.settle]
    split
    · exact .data (.dead _)
    · exact .ownN u e' f
  | own u e' n' f b el c g' ht hc hl hi h1 h =>
    simp only [Ix.settle]
    split
    · exact .data (.dead _)
    · rename_i hne
      exact .own u e' n' f b el c g' (hs _ _ (beq_false hne) ht) hc hl (fun i j h h' => hI _ _ (hi i j h h')) h1 (fun i j x a b => (h i j x a b).mono hI)
  | raw u e' n' b el ht =>
    simp only [Ix.settle]
    split
    · rename_i he
      have he := (beq_iff _ _).1 he
      subst he
      rw [ht0] at ht
      cases ht
      exact hv
    · rename_i hne
      exact .raw u e' n' b el (hs _ _ (beq_false hne) ht)
  | agg xs vs hl h1 _ ih =>
    simp only [Ix.settle, settleL_eq]
    exact .agg _ vs (by simpa using hl) h1 fun j x hx => by obtain ⟨y, hy, rfl⟩ := map_get hx; exact ih j y hy
  | tup xs vs hl _ ih =>
    simp only [Ix.settle, settleL_eq]
    exact .tup _ vs (by simpa using hl) fun j x hx => by obtain ⟨y, hy, rfl⟩ := map_get hx; exact ih j y hy
  | fn f xs ys vs us hl hk _ _ ih ih' =>
    simp only [Ix.settle, settleL_eq]
    exact .fn f _ _ vs us (by simpa using hl) (by simpa using hk) (fun j x hx => by obtain ⟨y, hy, rfl⟩ := map_get hx; exact ih j y hy)
      (fun j x hx => by obtain ⟨y, hy, rfl⟩ := map_get hx; exact ih' j y hy)

/-- A list of one byte. -/
theorem one_byte {w : World} {s : Sig} {I : Imm} (him : ∀ a v, I a = some v → w.cell? a = some v) {o : Option Nat} {f : Nat → List IV} {b : Int} {v : Value} (h : V I β s (.lst o 1 1 f) v) (hf : f 0 = [.int .u8 b]) :
    ∃ ad cp, v = .slice (some ad) 1 cp ∧ w.cell? ad = some (.int .u8 b) := by
  rcases h.lst_inv with ⟨p, _, h0⟩ | ⟨b', off, c, g, hv, hc, _, hl, hI, h1, hD⟩
  · cases h0
  · have hd := hD 0 0 (.int .u8 b) (by decide) (by rw [hf]; rfl)
    have hg : g 0 0 = .int .u8 b := by generalize g 0 0 = u at hd; cases hd; rfl
    have := him _ _ (hI 0 0 (by decide) (by decide))
    rw [hg] at this
    exact ⟨_, _, hv, by simpa using this⟩

/-- A row just made is filled: from now on nobody writes what is in it. -/
theorem settle_sound {t e n el b : Nat} {g : Nat → List IV} {vs : Array Value} (r : Rel Γ S a w I X β σ) (ht : σ 0 t = some ⟨b, el, e, 0, n⟩)
    (hs : vs.size = n * e) (h1 : ∀ (j : Nat) u, vs[j]? = some u → u.oneCell' = true)
    (hf : ∀ i, i < n → (g i).length = e) (hD : ∀ i (j : Nat) x, i < n → (g i)[j]? = some x → D I x (vs.getD (i * e + j) undef)) (w' : World)
    (hh : w'.heap[b]? = some (.cells vs el (0, 0))) (hold : ∀ (k : Nat) (o : Obj), k ≠ b → w.heap[k]? = some o → w'.heap[k]? = some o) (hsz : w.heap.size ≤ w'.heap.size)
    (hos : w'.os = w.os) (hta : w'.tape = w.tape) (hou : w'.output = w.output) :
    ∃ I' σ', Rel Γ ⟨settleT t e n g S.tm, settleC t e n g S.ce, S.up⟩ a w' I' X β σ' ∧ Ext I X w I' w' ∧ Above β β σ σ' := by
  obtain ⟨cur, c1, c2, c3, c4, c5, c6, c7⟩ := r.own.row t _ ht
  simp only at c1 c2 c3 c4 c5 c6 c7
  have hfix : ∀ (k : Nat) o, w.heap[k]? = some o → fixed o = true → w'.heap[k]? = some o := fun k o hk ho => by
    by_cases e : k = b
    · subst e; rw [c1] at hk; cases hk; cases ho
    · exact hold k o e hk
  let I' : Imm := fun x => if x.block = b then (if x.off < n * e ∧ x.spot = none then some (vs.getD x.off undef) else none) else I x
  have hno : ∀ x v, I x = some v → x.block ≠ b := by
    intro x v hx hb
    have h0 := r.mem.im x v hx
    obtain ⟨xb, xo, xs⟩ := x
    simp only at hb; subst hb
    have hsp : xs = none := by
      unfold World.cell? at h0
      split at h0
      · split at h0
        · cases h0
        · rename_i h; simpa using h
      · cases h0
    subst hsp
    rw [c5 xo (by omega)] at hx; cases hx
  have hI : ∀ x v, I x = some v → I' x = some v := by
    intro x v hx
    show (if _ then _ else _) = _
    rw [if_neg (hno x v hx)]; exact hx
  let σ' := setSig σ fun u => if u = t then some ⟨b, el, e, n, n⟩ else σ 0 u
  have hσ : ∀ u g0, u ≠ t → σ 0 u = some g0 → σ' 0 u = some g0 := by
    intro u g0 hu hg
    show (if _ then _ else _) = _
    rw [if_neg hu]; exact hg
  have hlt : ∀ i j, i < n → j < e → i * e + j < n * e := by
    intro i j hi hj
    have := Nat.mul_le_mul_right e (show i + 1 ≤ n by omega)
    rw [Nat.add_mul] at this; omega
  have hv : V I' β (σ' 0) (.lst (some t) e n g) (.slice (some ⟨b, 0, none⟩) n n) := by
    refine .own t e n g b el n (fun i j => vs.getD (i * e + j) undef) (by show (if _ then _ else _) = _; simp) (Nat.le_refl _) hf (fun i j hi hj => ?_) (fun i j hi hj => ?_) (fun i j x hi hx => (hD i j x hi hx).mono hI)
    · show (if _ then _ else _) = _
      rw [if_pos rfl, if_pos ⟨hlt i j hi hj, rfl⟩]
    · have hl := hlt i j hi hj
      have hl2 : i * e + j < vs.size := by omega
      exact h1 (i * e + j) _ (by simp [hl2])
  have hst : ∀ {x : IV} {v : Value}, V I β (σ 0) x v → V I' β (σ' 0) (settle t e n g x) v := fun h => V.settle hI hσ ht hv h
  refine ⟨I', σ', ⟨fun i => ?_, r.df.to hfix (fun _ _ h => h), r.nt, ⟨fun l d' c0 hc0 => ?_, r.mem.inj, fun l d' b' hb' => ?_, fun x v hx => ?_, fun g => (r.mem.glo g).mono hI, fun k hk => by have := r.mem.xb k hk; omega, r.mem.gz.of fun g0 arr0 el0 m0 hg0 => by
      by_cases q : g0 = b
      · subst q; rw [c1] at hg0; cases hg0; exact ⟨vs, el, _, hh, hs.trans c4.symm⟩
      · exact ⟨_, _, _, hold _ _ q hg0, rfl⟩⟩, ⟨fun u g0 hg => ?_, fun u u' g0 g0' hg hg' hb => ?_⟩⟩,
    ⟨hos, hta, hou, hsz, fun k hk => ?_, hI, fun x hx => ?_, hfix⟩, .setSig β σ _⟩
  · rw [settleT_look]; exact hst (r.tm i)
  · cases l with
    | zero =>
      simp only [upC, settleC_look, Option.map_eq_some_iff] at hc0
      obtain ⟨y, hy, rfl⟩ := hc0
      obtain ⟨b', arr, el', g1, g2, g3, g4, g5, g6, g7⟩ := r.mem.cell 0 d' y hy
      have hne : b' ≠ b := fun e => c7 0 d' (e ▸ g1)
      refine ⟨b', arr, el', g1, hold _ _ hne g2, by simp [settleL_eq, g3], g4, fun j x hx => ?_, fun j => ?_, g7⟩
      · rw [settleL_eq] at hx
        obtain ⟨z, hz, rfl⟩ := map_get hx
        have := hst (by simpa using g5 j z hz)
        simpa using this
      · show (if _ then _ else _) = _
        rw [if_neg hne]; exact g6 j
    | succ l =>
      obtain ⟨b', arr, el', g1, g2, g3, g4, g5, g6, g7⟩ := r.mem.cell (l + 1) d' c0 hc0
      have hne : b' ≠ b := fun e => c7 (l + 1) d' (e ▸ g1)
      refine ⟨b', arr, el', g1, hold _ _ hne g2, g3, g4, fun j x hx => (g5 j x hx).mono hI (fun _ _ _ h => h) (fun _ _ h => h), fun j => ?_, g7⟩
      show (if _ then _ else _) = _
      rw [if_neg hne]; exact g6 j
  · obtain ⟨y, hy⟩ := r.mem.keys l d' b' hb'
    cases l with
    | zero =>
      simp only [upC] at hy
      exact ⟨_, by simp only [upC, settleC_look, hy]; rfl⟩
    | succ l => exact ⟨y, hy⟩
  · replace hx : (if x.block = b then (if x.off < n * e ∧ x.spot = none then some (vs.getD x.off undef) else none) else I x) = some v := hx
    split at hx
    · rename_i hb
      split at hx
      · rename_i ho
        obtain ⟨xb, xo, xs⟩ := x
        simp only at hb ho hx; subst hb; obtain ⟨ho, rfl⟩ := ho
        rw [cell_of_row w' xb xo vs el _ hh]
        have : xo < vs.size := by omega
        simpa [this] using hx
      · cases hx
    · rename_i hb
      have h0 := r.mem.im x v hx
      have hlt := World.block_lt_of_cell? w _ h0
      have hsame : w'.heap[x.block]? = w.heap[x.block]? := by
        rw [Array.getElem?_eq_getElem hlt]
        exact hold _ _ hb (Array.getElem?_eq_getElem hlt)
      rw [World.cell?_of_block hsame]; exact h0
  · have hg : (if u = t then some _ else σ 0 u) = some g0 := hg
    split at hg
    · simp at hg; subst hg
      refine ⟨vs, hh, Nat.le_refl _, c3, hs, fun j hj => ?_, c6, c7⟩
      show (if _ then _ else _) = _
      rw [if_pos rfl, if_neg (by simp at hj ⊢; omega)]
    · rename_i hut
      obtain ⟨cur', k1, k2, k3, k4, k5, k6, k7⟩ := r.own.row u g0 hg
      have hne : g0.b ≠ b := fun e => hut (r.own.inj u t g0 _ hg ht e)
      refine ⟨cur', hold _ _ hne k1, k2, k3, k4, fun j hj => ?_, k6, k7⟩
      show (if _ then _ else _) = _
      rw [if_neg hne]; exact k5 j hj
  · have hg : (if u = t then some _ else σ 0 u) = some g0 := hg
    have hg' : (if u' = t then some _ else σ 0 u') = some g0' := hg'
    split at hg <;> split at hg'
    · subst_vars; rfl
    · rename_i h1 h2
      simp at hg; subst hg
      exact absurd (r.own.inj u' t g0' _ hg' ht hb.symm) h2
    · rename_i h1 h2
      simp at hg'; subst hg'
      exact absurd (r.own.inj u t g0 _ hg ht hb) h1
    · exact r.own.inj u u' g0 g0' hg hg' hb
  · have := r.mem.xb k hk
    have hne : k ≠ b := fun e => c6 (e ▸ hk)
    rw [Array.getElem?_eq_getElem this]
    exact hold _ _ hne (Array.getElem?_eq_getElem this)
  · show (if _ then _ else _) = _
    rw [if_neg (fun (e : x.block = b) => c6 (e ▸ hx))]

/-- A row just made. -/
theorem raw_sound {d e n el : Nat} {vs : Array Value} (r : Rel Γ S a w I X β σ) (htag : σ 0 d = none) (h : putT Γ S (some d) (.raw d e n) K) (hc : n ≤ maxLen) (hs : vs.size = n * e) :
    Aft Γ K I X w β σ (a.put (some d) (.slice (some ⟨w.heap.size, 0, none⟩) n n)) (w.alloc (.cells vs el)) := by
  obtain ⟨f1, f2, f3, f4⟩ := fresh_block r
  let σ' := setSig σ fun u => if u = d then some ⟨w.heap.size, el, e, 0, n⟩ else σ 0 u
  have hσ : ∀ u g, σ 0 u = some g → σ' 0 u = some g := by
    intro u g hu
    show (if _ then _ else _) = _
    rw [if_neg]; exact hu
    rintro rfl; rw [htag] at hu; cases hu
  have r0 := r.alloc (.cells vs el)
  have r1 : Rel Γ S a (w.alloc (.cells vs el)) I X β σ' := by
    refine ⟨fun i => (r0.tm i).mono (fun _ _ h => h) (fun _ _ _ h => h) hσ, r0.df, r0.nt, ⟨fun l d' c0 hc0 => ?_, r0.mem.inj, r0.mem.keys, r0.mem.im, r0.mem.glo, r0.mem.xb, r0.mem.gz⟩, ⟨fun t g hg => ?_, fun t t' g g' hg hg' hb => ?_⟩⟩
    · obtain ⟨b', arr, el', g1, g2, g3, g4, g5, g6, g7⟩ := r0.mem.cell l d' c0 hc0
      refine ⟨b', arr, el', g1, g2, g3, g4, fun j x hx => (g5 j x hx).mono (fun _ _ h => h) (fun _ _ _ h => h) (fun t g h => ?_), g6, g7⟩
      cases l with
      | zero => exact hσ t g h
      | succ l => exact h
    · have hg : (if t = d then some _ else σ 0 t) = some g := hg
      split at hg
      · simp at hg; subst hg
        refine ⟨vs, heap_alloc_new w _, Nat.zero_le _, hc, hs, fun j _ => ?_, f1, f2⟩
        cases hj : I ⟨w.heap.size, j, none⟩ with
        | none => rfl
        | some v => exact absurd rfl (f4 _ _ hj)
      · exact r0.own.row t g hg
    · have hg : (if t = d then some _ else σ 0 t) = some g := hg
      have hg' : (if t' = d then some _ else σ 0 t') = some g' := hg'
      split at hg <;> split at hg'
      · subst_vars; rfl
      · simp at hg; subst hg
        exact absurd hb.symm (f3 t' g' hg')
      · simp at hg'; subst hg'
        exact absurd hb (f3 t g hg)
      · exact r0.own.inj t t' g g' hg hg' hb
  obtain ⟨S', hk, r'⟩ := putT_sound h r1 (.raw d e n w.heap.size el (if_pos rfl))
  exact ⟨S', I, β, σ', hk, r', .alloc _ _ _ _ r.mem.xb, .setSig β σ _⟩

/-- What the evaluator says of an operation, but for calls and appends. -/
theorem iop_sound {C : Con} (hT : TOK Γ.P Γ.T) (o : Oper) (hnc : ∀ c, o.op ≠ .call c) (h : iop C Γ S o K) (r : Rel Γ S a w I X β σ) (Q : Exit → Act → World → Prop) :
    o.wp Γ.P a w (Aft Γ K I X w β σ) Q := by
  obtain ⟨dst, op, type, pos, after, guard⟩ := o
  cases op with
  | move x => simp only [iop, ival, ev_eq] at h; exact wp_val (v := a.eval x) rfl (put_aft h r (evo_V r x))
  | assign x => simp only [iop, ival, ev_eq] at h; exact wp_val (v := a.eval x) rfl (put_aft h r (evo_V r x))
  | pick c x y =>
    simp only [iop, ival, ev_eq] at h
    split at h
    · rename_i b hb
      have hc := evo_V r c
      rw [hb] at hc
      have hc := hc.bool_inv
      split at h
      · exact wp_val (v := a.eval x) (by simp [execOp, hc, asBool]) (put_aft h r (evo_V r x))
      · exact wp_val (v := a.eval y) (by simp [execOp, hc, asBool]) (put_aft h r (evo_V r y))
    · exact h.elim
  | alloc t =>
    simp only [iop, fvL_eq] at h
    split at h
    · rename_i d
      obtain ⟨h0, h⟩ := tyK_spec h
      obtain ⟨inf, dd, z, tk⟩ := TOK.get hT (t := t) (.inl (by omega))
      refine wp_val (w' := w.alloc (.cells z.cells t)) ?_ (newC_sound h r (zero_CV tk I β _))
      simp [execOp, Instr.alloc, zeroValue, typeInfo, tk.info, tk.zero, newVar, newRow]
    · exact h.elim
  | box t x =>
    simp only [iop, ev_eq] at h
    split at h
    · rename_i d
      split at h
      · rename_i c hc
        refine wp_val (w' := w.alloc (.cells (a.eval x).cells t)) ?_ (newC_sound h r ((evo_V r x).cells hc))
        simp [execOp, Instr.box, newVar, newRow]
      · exact h.elim
    · exact h.elim
  | build t parts =>
    simp only [iop, ival] at h
    split at h
    · rename_i fs hk
      obtain ⟨inf, d, z, tk⟩ := TOK.get hT (t := t) (.inr (by rw [hk]; simp))
      have kd := tk.kind
      rw [hk] at kd
      obtain ⟨fields, rfl, hfl, hf⟩ := kd
      obtain ⟨xs, cs, hk', hcs, hfill⟩ := buildI_sound r (placeR := fun i => ((fields.toList.zip (fs.map (·.2.1))).map fun (f, s) => (f.offset, s))[i]?) (fun i x hx => by
        rw [fieldAt_eq] at hx
        split at hx
        · rename_i f hfi
          obtain ⟨off, sz, ag⟩ := f
          simp at hx; subst hx
          obtain ⟨f', g1, g2, g3, g4⟩ := hf i off sz ag hfi
          simp [List.getElem?_zip_eq_some, g1, hfi, g2]
        · cases hx) parts.toList _ z.cells _ h (zero_CV tk I β _)
      have hm := run_mapM_places (P := Γ.P) fields.toList (fs.map (·.2.1)) (by simp [hfl]) (fun i f s h1 h2 => by
        simp only [List.getElem?_map, Option.map_eq_some_iff] at h2
        obtain ⟨⟨off, sz', ag⟩, h2, rfl⟩ := h2
        obtain ⟨f', g1, g2, g3, g4⟩ := hf i off sz' ag h2
        simp at h1; rw [h1] at g1; cases g1; exact g3) w
      refine wp_val (v := .agg cs) ?_ (put_aft hk' r hcs.val)
      simp only [execOp, Instr.build, Sem.run_bind, zeroValue, typeInfo, run_program, Result.andThen_ok, tk.info, Sem.run_pure, tk.zero, run_underlying tk.und, Array.mapM_eq_mapM_toList, Sem.run_map, hm, List.getElem?_toArray, Array.toList_map, hfill]
    · rename_i n e hk
      obtain ⟨inf, d, z, tk⟩ := TOK.get hT (t := t) (.inr (by rw [hk]; simp))
      have kd := tk.kind
      rw [hk] at kd
      obtain ⟨rfl, he⟩ := kd
      obtain ⟨inf', d', z', tk'⟩ := TOK.get hT (t := e) (.inl he)
      obtain ⟨xs, cs, hk', hcs, hfill⟩ := buildI_sound r (placeR := fun i => some (i * (Γ.T e).size, (Γ.T e).size)) (fun i x hx => hx) parts.toList _ z.cells _ h (zero_CV tk I β _)
      refine wp_val (v := .agg cs) ?_ (put_aft hk' r hcs.val)
      simp only [execOp, Instr.build, Sem.run_bind, zeroValue, typeInfo, run_program, Result.andThen_ok, tk.info, Sem.run_pure, tk.zero, run_underlying tk.und, run_sz tk'.msize, Array.toList_map, hfill]
    · exact h.elim
  | buildSlice t len parts =>
    simp only [iop] at h
    split at h
    · rename_i e d hk
      split at h
      · rename_i hb1 hb2
        have hb1 := Nat.le_of_ble_eq_true hb1
        have hb2 := blt_lt hb2
        obtain ⟨inf, dd, z, tk⟩ := TOK.get hT (t := t) (.inr (by rw [hk]; simp))
        have kd := tk.kind
        rw [hk] at kd
        obtain ⟨rfl, he⟩ := kd
        obtain ⟨inf', d', z', tk'⟩ := TOK.get hT (t := e) (.inl he)
        have hz := repZ_CV (zero_CV tk' I β (σ 0)) (by rw [tk'.zsize]; exact hb2) len
        obtain ⟨xs, cs, hk', hcs, hfill⟩ := buildI_sound r (placeR := fun i => some (i * (Γ.T e).size, (Γ.T e).size)) (fun i x hx => hx) parts.toList _ _ _ h hz
        rw [tk'.zsize] at hfill
        split at hk'
        · rename_i hnp
          have hrun : ∀ dd, (execOp a.eval ({ dst := dd, op := .buildSlice t len parts, type := type, pos := pos, after := after, guard := guard } : Oper)).run Γ.P w = .ok (.value (.slice (some ⟨w.heap.size, 0, none⟩) len len)) (w.alloc (.cells cs e)) := by
            intro dd
            by_cases h0 : len * (Γ.T e).size = 0
            · have hr0 : ∀ (g : Nat → Value), (Array.range 0).map g = #[] := fun g => by simp
              have hbig : ¬ (len * (Γ.T e).size > 16777216) := by omega
              rw [h0, hr0] at hfill
              simp only [execOp, Instr.buildSlice, Sem.run_bind, run_underlying tk.und, Result.andThen_ok, run_sz tk'.msize]
              simp [newRow, h0, hr0, hfill]
            · have hbig : ¬ (len * (Γ.T e).size > 16777216) := by omega
              simp only [execOp, Instr.buildSlice, Sem.run_bind, run_underlying tk.und, Result.andThen_ok, run_sz tk'.msize]
              simp [newRow, h0, hbig, zeroValue, typeInfo, tk'.info, tk'.zero, tk'.zsize, hfill]
          split at hk'
          · exact wp_val (hrun _) ⟨_, I, β, σ, (putT_sound hk' (r.alloc _) (.data .nilS)).choose_spec.1, (putT_sound hk' (r.alloc _) (.data .nilS)).choose_spec.2, .alloc _ _ _ _ r.mem.xb, .refl _ _⟩
          · rw [fvL_eq] at hk'
            obtain ⟨S', hk2, r2, hup, hce⟩ := untag_sound hk' r
            obtain ⟨f1, f2, f3, f4⟩ := fresh_block r2
            have hlen : xs.length = len * (Γ.T e).size := by rw [hcs.1]; have := fill_size hfill; simp [this]
            have hnl : (noOwnL xs).length = len * (Γ.T e).size := by rw [noOwnL_eq, List.length_map, hlen]
            refine wp_val (hrun _) (Aft.sig (σ' := setSig σ fun u => if u = d then none else σ 0 u) (fun _ => rfl)
              (row_sound r2 (by simp [setSig]) hk2 (Nat.le_refl _) (by unfold maxLen; have : 1 ≤ (Γ.T e).size := hb2; have := Nat.le_mul_of_pos_right len hb2; omega)
                (by rw [← hcs.1, hlen]) (fun j u hu _ => hcs.2.1 j u hu) (fun i hi => (litF_spec hnl i hi).1) (fun i j x hi hx => ?_) _ (heap_alloc_new w _)
                (fun k o hk ho => by rw [heap_alloc_old w _ k (heap_lt ho)]; exact ho) (by simp) f1 f2 f3 (fun x v hx hb => absurd hb (f4 x v hx)) rfl rfl rfl (fresh_fix w)))
            rw [(litF_spec hnl i hi).2] at hx
            split at hx
            · rw [noOwnL_eq] at hx
              obtain ⟨y, hy, rfl⟩ := map_get hx
              exact (hcs.2.2 _ y hy).data' (noPtrL_get hnp _ _ hy)
            · cases hx
        · exact hk'.elim
      · exact h.elim
    · exact h.elim
  | load t x =>
    simp only [iop, ival, fv_eq] at h
    obtain ⟨h0, h⟩ := tyK_spec h
    obtain ⟨inf, dd, z, tk⟩ := TOK.get hT (t := t) (.inl (by omega))
    obtain ⟨v, u, hk, hv, hr⟩ := loadI_sound tk.msize tk.agg h0 tk.one h r (evo_V r x)
    exact wp_val (v := u) (by simp [execOp, hr]) (put_aft hk r hv)
  | store t x y =>
    simp only [iop, ev_eq] at h
    cases dst with
    | none =>
      obtain ⟨h0, h⟩ := tyK_spec h
      obtain ⟨inf, dd, z, tk⟩ := TOK.get hT (t := t) (.inl (by omega))
      obtain ⟨w', hr, haft⟩ := storeI_sound tk.msize h r (evo_V r x) (evo_V r y)
      exact wp_skp (w' := w') (by simp [execOp, hr]) haft
    | some d => exact h.elim
  | nilCheck x =>
    simp only [iop, ival, ev_eq] at h
    have hv := evo_V r x
    split at h
    · rename_i l d off hx
      rw [hx] at hv
      obtain ⟨b, hb, _⟩ := hv.ptr_inv
      exact wp_val (v := a.eval x) (by simp [execOp, hb]) (put_aft h r hv)
    · rename_i e n f i j hx
      rw [hx] at hv
      obtain ⟨b, off, g, hb, _⟩ := hv.vptr_inv
      exact wp_val (v := a.eval x) (by simp [execOp, hb]) (put_aft h r hv)
    · rename_i f xs ys hx
      rw [hx] at hv
      obtain ⟨vs, us, hb, _⟩ := hv.fn_inv
      exact wp_val (v := a.eval x) (by simp [execOp, hb]) (put_aft h r hv)
    · exact h.elim
  | binOp op t x y t' =>
    simp only [iop, ival] at h
    obtain ⟨iv, v, hk, hv, hr⟩ := bin_sound (P := Γ.P) (t := t) (w := w) h (evo_V r x) (evo_V r y) (fun he => by
      rcases hT t with h1 | ⟨inf, d, z, tk⟩
      · rw [h1] at he; exact absurd rfl he
      · exact tk.eqs he) (fun hk b hz => by
      rcases hT t with h1 | ⟨inf, d, z, tk⟩
      · rw [h1] at hz; cases hz
      · rw [tk.und, tk.boo hk b hz]) x y
    exact wp_val (v := v) (by simp only [execOp]; rw [Sem.run_bind, hr]; rfl) (put_aft hk r hv)
  | unOp op t x =>
    simp only [iop, ival] at h
    split at h
    · rename_i b hb
      have hv := evo_V r x
      rw [hb] at hv
      exact wp_val (v := .bool !b) (by simp [execOp, hv.bool_inv, Op.unary]) (put_aft h r (.data (.bool _)))
    · rename_i k n hb
      have hv := evo_V r x
      rw [hb] at hv
      exact wp_val (v := .int k (k.wrap (0 - n))) (by simp [execOp, hv.int_inv, Op.unary, Op.intArith]) (put_aft h r (.data (.int _ _)))
    · exact h.elim
  | convert t t' x =>
    simp only [iop, ival] at h
    obtain ⟨h0, h⟩ := tyK_spec h
    obtain ⟨inf0, d0, z0, tk0⟩ := TOK.get hT (t := t) (.inl (by omega))
    split at h
    · rename_i k0 n hk hx
      split at h
      · rename_i k m hz
        have hv := evo_V r x
        rw [hx] at hv
        rcases hT t' with h1 | ⟨inf, d, z, tk⟩
        · rw [h1] at hz; cases hz
        have hd := tk.int hk k m hz
        subst hd
        refine wp_val (v := .int k (k.wrap n)) ?_ (put_aft h r (.data (.int _ _)))
        simp only [execOp, hv.int_inv, convert, Sem.run_bind, run_underlying tk0.und, run_underlying tk.und, Result.andThen_ok, Conv.intToInt]
        rfl
      · exact h.elim
    · rename_i o f hk hx
      split at h
      · rename_i e he
        split at h
        · rename_i m hke hz
          have hv := evo_V r x
          rw [hx] at hv
          rcases hT t' with h1 | ⟨inf, d, z, tk⟩
          · rw [h1] at hk; cases hk
          have kd := tk.kind
          rw [hk] at kd
          have k0 := tk0.kind
          rw [he] at k0
          rcases hT e with h1 | ⟨infe, de, ze, tke⟩
          · rw [h1] at hz; cases hz
          have hde := tke.int hke _ m hz
          have hb : byteK (f 0) fun v => putT Γ S dst v K := h
          unfold byteK at hb
          split at hb
          · rename_i b hf0
            obtain ⟨b0, hb⟩ := chk_spec hb
            obtain ⟨b1, hb⟩ := chk_spec hb
            have b0 := of_decide_eq_true b0
            have b1 := of_decide_eq_true b1
            obtain ⟨ad, cp, hval, hcell⟩ := one_byte r.mem.im hv hf0
            refine wp_val (v := .string ⟨#[UInt8.ofNat b.toNat]⟩) ?_ (put_aft hb r (.data (.str _)))
            have hr := run_convert_bytes_back (P := Γ.P) w t t' e ad cp [UInt8.ofNat b.toNat] (k0.1 ▸ tk0.und) (hde ▸ tke.und) (kd ▸ tk.und) (fun j hj => by
              have : j = 0 := by simpa using hj
              subst this
              rw [Addr.add_zero', hcell]
              simp only [List.getElem_cons_zero]
              congr 2
              rw [show (UInt8.ofNat b.toNat).toNat = b.toNat by rw [UInt8.toNat_ofNat']; exact Nat.mod_eq_of_lt (by omega)]
              omega)
            simp only [execOp, hval, Sem.run_bind]
            rw [show (1 : Nat) = [UInt8.ofNat b.toNat].length from rfl, hr]
            rfl
          · exact hb.elim
        · exact h.elim
      · exact h.elim
    · exact h.elim
  | fieldAddr t x i =>
    simp only [iop, ival] at h
    split at h
    · rename_i fs hk
      split at h
      · rename_i f hf
        obtain ⟨off, sz, ag⟩ := f
        rw [fieldAt_eq] at hf
        obtain ⟨inf, d, z, tk⟩ := TOK.get hT (t := t) (.inr (by rw [hk]; simp))
        have kd := tk.kind
        rw [hk] at kd
        obtain ⟨fields, rfl, hfl, hff⟩ := kd
        obtain ⟨f', g1, g2, g3, g4, g5, g6⟩ := hff i off sz ag hf
        obtain ⟨b, o, q, hp, hk', hq⟩ := addI_spec h (evo_V r x)
        refine wp_val (v := .pointer (some ⟨b, o + off, none⟩)) ?_ (put_aft hk' r hq)
        have hz : ¬ sz = 0 := by omega
        simp [execOp, Instr.fieldAt, run_underlying tk.und, g1, hp, Instr.sureAddr, fieldPlace, run_sz g3, hz, add_none, g2]
      · exact h.elim
    · exact h.elim
  | field t x i =>
    simp only [iop, ival, fv_eq] at h
    split at h
    · rename_i fs xs hk hx
      split at h
      · rename_i f hf
        obtain ⟨off, sz, ag⟩ := f
        rw [fieldAt_eq] at hf
        obtain ⟨inf, d, z, tk⟩ := TOK.get hT (t := t) (.inr (by rw [hk]; simp))
        have kd := tk.kind
        rw [hk] at kd
        obtain ⟨fields, rfl, hfl, hff⟩ := kd
        obtain ⟨f', g1, g2, g3, g4, g5, g6⟩ := hff i off sz ag hf
        have hv := evo_V r x
        rw [hx] at hv
        obtain ⟨vs, hvs, c1, c2, c3⟩ := hv.agg_inv
        obtain ⟨v, u, hk', hv', hr⟩ := part_sound (P := Γ.P) (w := w) g3 g5 g4 g6 h ⟨c1, c2, c3⟩
        exact wp_val (v := u) (by simp [execOp, Instr.field, run_underlying tk.und, g1, hvs, asAgg, g2, hr]) (put_aft hk' r hv')
      · exact h.elim
    · exact h.elim
  | indexAddr t x i =>
    simp only [iop, ival] at h
    split at h
    · rename_i n e hk
      obtain ⟨k, m, hi, h1, h2, h⟩ := idx_spec h (evo_V r i)
      obtain ⟨b, off, q, hp, hk', hq⟩ := addI_spec h (evo_V r x)
      obtain ⟨inf, d, z, tk⟩ := TOK.get hT (t := t) (.inr (by rw [hk]; simp))
      have kd := tk.kind
      rw [hk] at kd
      obtain ⟨rfl, he⟩ := kd
      obtain ⟨inf', d', z', tk'⟩ := TOK.get hT (t := e) (.inl he)
      refine wp_val (v := .pointer (some ⟨b, off + m.toNat * (Γ.T e).size, none⟩)) ?_ (put_aft hk' r hq)
      have hc : 0 ≤ m ∧ m < (n : Int) := ⟨h1, h2⟩
      simp [execOp, Instr.indexAt, hi, asIntOf, run_underlying tk.und, hp, Instr.sureAddr, hc, run_sz tk'.msize, add_none]
    · rename_i e oo e' n f hk hx
      obtain ⟨k, m, hi, h1, h2, h⟩ := idx_spec h (evo_V r i)
      split at h
      · rename_i he'
        have he' := (beq_iff _ _).1 he'
        obtain ⟨inf, d, z, tk⟩ := TOK.get hT (t := t) (.inr (by rw [hk]; simp))
        have kd := tk.kind
        rw [hk] at kd
        obtain ⟨rfl, he⟩ := kd
        obtain ⟨inf', d', z', tk'⟩ := TOK.get hT (t := e) (.inl he)
        have hv := evo_V r x
        rw [hx] at hv
        rcases hv.lst_inv with ⟨_, _, h0⟩ | ⟨b, off, c, g, hvx, hnc', hown, hl, hI, ho, hD⟩
        · omega
        · refine wp_val (v := .pointer (some ⟨b, off + m.toNat * (Γ.T e).size, none⟩)) ?_ (put_aft h r ?_)
          · have hc : 0 ≤ m ∧ m < (n : Int) := ⟨h1, h2⟩
            simp [execOp, Instr.indexAt, hi, asIntOf, run_underlying tk.und, hvx, hc, run_sz tk'.msize, add_none]
          · rw [← he']
            exact .data (.vptr e' n f m.toNat 0 b off g (by omega) hl hI ho hD)
      · exact h.elim
    · exact h.elim
  | index t x i =>
    simp only [iop, ival, fv_eq] at h
    split at h
    · rename_i n e xs hk hx
      obtain ⟨k, m, hi, h1, h2, h⟩ := idx_spec h (evo_V r i)
      obtain ⟨inf, d, z, tk⟩ := TOK.get hT (t := t) (.inr (by rw [hk]; simp))
      have kd := tk.kind
      rw [hk] at kd
      obtain ⟨rfl, he⟩ := kd
      obtain ⟨inf', d', z', tk'⟩ := TOK.get hT (t := e) (.inl he)
      have hv := evo_V r x
      rw [hx] at hv
      obtain ⟨vs, hvs, c1, c2, c3⟩ := hv.agg_inv
      obtain ⟨v, u, hk', hv', hr⟩ := part_sound (P := Γ.P) (w := w) tk'.msize tk'.agg tk'.pos tk'.one h ⟨c1, c2, c3⟩
      refine wp_val (v := u) ?_ (put_aft hk' r hv')
      have hc : 0 ≤ m ∧ m < (n : Int) := ⟨h1, h2⟩
      simp [execOp, Instr.index, hi, asIntOf, run_underlying tk.und, hvs, hc, run_sz tk'.msize, hr]
    · rename_i s hk hx
      obtain ⟨k, m, hi, h1, h2, h⟩ := idx_spec h (evo_V r i)
      obtain ⟨inf, d, z, tk⟩ := TOK.get hT (t := t) (.inr (by rw [hk]; simp))
      have kd := tk.kind
      rw [hk] at kd
      subst kd
      have hv := evo_V r x
      rw [hx] at hv
      refine wp_val (v := .int .u8 ((s.data.toList.getD m.toNat 0).toNat : Int)) ?_ (put_aft h r (.data (.int _ _)))
      have hlt : m.toNat < s.size := by omega
      have hg : s[m.toNat]? = some s[m.toNat] := getElem?_pos s m.toNat hlt
      have hd : s.data.toList.getD m.toNat 0 = s[m.toNat] := by
        have : m.toNat < s.data.size := hlt
        show s.data.toList.getD m.toNat 0 = s.data[m.toNat]
        simp only [List.getD_eq_getElem?_getD, Array.getElem?_toList]
        rw [Array.getElem?_eq_getElem this]; rfl
      rw [hd]
      simp only [execOp, Instr.index, hi, Sem.run_bind, asIntOf, Sem.run_pure, Result.andThen_ok, run_underlying tk.und, hv.str_inv, if_pos h1, hg]
    · exact h.elim
  | makeSlice t len cap =>
    simp only [iop] at h
    split at h
    · rename_i e d hk
      split at h
      · rename_i hpos
        have hpos := blt_lt hpos
        obtain ⟨inf, dd, z, tk⟩ := TOK.get hT (t := t) (.inr (by rw [hk]; simp))
        have kd := tk.kind
        rw [hk] at kd
        obtain ⟨rfl, he⟩ := kd
        obtain ⟨inf', d', z', tk'⟩ := TOK.get hT (t := e) (.inl he)
        unfold makeI at h
        split at h
        · rename_i kl l kc c hl hc
          have vl := evo_V r len
          have vc := evo_V r cap
          rw [hl] at vl
          rw [hc] at vc
          obtain ⟨h1, h⟩ := chk_spec h
          obtain ⟨h2, h⟩ := chk_spec h
          simp at h1 h2
          have hb : (inf'.bytes : Int) * c ≤ 281474976710656 := by
            have hb1 := tk'.bytes
            have : (inf'.bytes : Int) * c ≤ 131072 * 1073741824 := Int.le_trans (Int.mul_le_mul_of_nonneg_right (by omega) h1) (Int.mul_le_mul_of_nonneg_left h2 (by omega))
            omega
          have hsz : ∀ k, (madeCells z'.cells (k * inf'.size)).size = k * (Γ.T e).size := fun k => by rw [size_madeCells, tk'.size]
          split at h
          · obtain ⟨S', hk2, r2, _, _⟩ := untag_sound h r
            obtain ⟨f1, f2, f3, f4⟩ := fresh_block r2
            have l0 : l = 0 := by
              have : evo Γ S (.const (.int _ 0)) = .int _ l := hl
              simp [evo, ofConst] at this
              exact this.2.symm
            subst l0
            have hr := run_make (P := Γ.P) w t e inf' z' tk.und tk'.info tk'.zero kl kc 0 c (by omega) h1 hb (by omega)
            refine wp_val (v := .slice (some ⟨w.heap.size, 0, none⟩) (Int.toNat 0) c.toNat) (w' := w.alloc (.cells (madeCells z'.cells (c.toNat * inf'.size)) e)) (by simp only [execOp, vl.int_inv, vc.int_inv]; rw [Sem.run_bind, hr]; rfl) (Aft.sig (σ' := setSig σ fun u => if u = d then none else σ 0 u) (fun _ => rfl) ?_)
            simp only [Int.toNat_zero]
            refine row_sound (el := e) (vs := madeCells z'.cells (c.toNat * inf'.size)) (e := (Γ.T e).size) r2 (by simp [setSig]) hk2 (Nat.zero_le _) (by unfold maxLen; omega) (hsz _) (fun j u hu hj => by omega) (fun i hi => by omega) (fun i j x hi => by omega) _ (heap_alloc_new w _)
              (fun k o hk ho => by rw [heap_alloc_old w _ k (heap_lt ho)]; exact ho) (by simp) f1 f2 f3 (fun x v hx hb => absurd hb (f4 x v hx)) rfl rfl rfl (fresh_fix w)
          · obtain ⟨h3, h⟩ := chk_spec h
            simp at h3
            subst h3
            obtain ⟨S', hk2, r2, _, _⟩ := untag_sound h r
            have hr := run_make (P := Γ.P) w t e inf' z' tk.und tk'.info tk'.zero kl kc l l h1 (Int.le_refl _) hb (by omega)
            refine wp_val (v := .slice (some ⟨w.heap.size, 0, none⟩) l.toNat l.toNat) (w' := w.alloc (.cells (madeCells z'.cells (l.toNat * inf'.size)) e)) (by simp only [execOp, vl.int_inv, vc.int_inv]; rw [Sem.run_bind, hr]; rfl) (Aft.sig (σ' := setSig σ fun u => if u = d then none else σ 0 u) (fun _ => rfl) ?_)
            exact raw_sound r2 (by simp [setSig]) hk2 (by unfold maxLen; omega) (hsz _)
        · exact h.elim
      · exact h.elim
    · exact h.elim
  | slice t x lo hi mx =>
    have pure : ival Γ S ⟨dst, .slice t x lo hi mx, type, pos, after, guard⟩ (fun v => putT Γ S dst v K) → Oper.wp Γ.P ⟨dst, .slice t x lo hi mx, type, pos, after, guard⟩ a w (Aft Γ K I X w β σ) Q := fun h => by
      cases mx with
      | some m => simp [ival] at h
      | none =>
        simp only [ival] at h
        obtain ⟨iv, v, hk, hv, hr⟩ := sliceI_sound hT h r
        exact wp_val (v := v) (by simp [execOp, hr]) (put_aft hk r hv)
    simp only [iop] at h
    split at h
    · rename_i n e hk
      obtain ⟨b, hb, haft⟩ := sliceA_sound h r
      obtain ⟨inf, d, z, tk⟩ := TOK.get hT (t := t) (.inr (by rw [hk]; simp))
      have kd := tk.kind
      rw [hk] at kd
      obtain ⟨rfl, he⟩ := kd
      obtain ⟨inf', d', z', tk'⟩ := TOK.get hT (t := e) (.inl he)
      refine wp_val (v := .slice (some ⟨b, 0, none⟩) n n) ?_ haft
      by_cases hn : n = 0
      · simp [execOp, Instr.sliceAt, run_underlying tk.und, hb, Instr.sureAddr, Instr.sliceBounds, run_sz tk'.msize, hn]
      · simp [execOp, Instr.sliceAt, run_underlying tk.und, hb, Instr.sureAddr, Instr.sliceBounds, run_sz tk'.msize, add_none]
    · exact pure h
  | extract x i =>
    simp only [iop, ival, fv_eq] at h
    split at h
    · rename_i xs hx
      rw [nthI_eq] at h
      split at h
      · rename_i v hv
        have hvx := evo_V r x
        rw [hx] at hvx
        obtain ⟨vs, hvs, hl, hV⟩ := hvx.tup_inv
        have hlt : i < vs.size := by rw [← hl]; exact (List.getElem?_eq_some_iff.1 hv).1
        have := hV i v hv
        exact wp_val (v := vs.getD i undef) (by simp [execOp, Instr.extract, hvs, hlt]) (put_aft h r this)
      · exact h.elim
    · exact h.elim
  | makeFunc fn first captured =>
    cases fn with
    | func f =>
      simp only [iop, ival, fvL_eq] at h
      refine wp_val (v := .func (.func f) (first.map a.eval) (captured.map a.eval)) (by simp [execOp, Instr.makeFunc]) (put_aft h r ?_)
      refine .fn f _ _ _ _ (by simp [evoL_eq]) (by simp [evoL_eq]) (fun j x hx => ?_) (fun j x hx => ?_)
      · rw [evoL_eq] at hx
        simp only [List.getElem?_map, Option.map_eq_some_iff] at hx
        obtain ⟨y, hy, rfl⟩ := hx
        have := evo_V r y
        simp only [Array.getElem?_toList] at hy
        simpa [Array.getD_eq_getD_getElem?, hy] using this
      · rw [evoL_eq] at hx
        simp only [List.getElem?_map, Option.map_eq_some_iff] at hx
        obtain ⟨y, hy, rfl⟩ := hx
        have := evo_V r y
        simp only [Array.getElem?_toList] at hy
        simpa [Array.getD_eq_getD_getElem?, hy] using this
    | _ => simp [iop, ival] at h
  | call c => exact absurd rfl (hnc c)
  | _ => simp [iop, ival] at h

end
end Go.Proofs.YtllmejkmogepjaaGreatDoor.Ix

/-
  Ix11: an append; a call.
-/
namespace Go.Proofs.YtllmejkmogepjaaGreatDoor.Ix
set_option linter.unusedVariables false

section
variable {Γ : Env} {S : St} {a : Act} {w : World} {I : Imm} {X : Nat → Prop} {β : Beta} {σ : Nat → Sig} {K : St → Prop}

/-- The cells of a row that is read: a list. -/
def rowL (e n : Nat) (g : Nat → Nat → Value) : List Value := (List.range (n * e)).map fun j => g (j / e) (j % e)

theorem rowL_get {e n : Nat} {g : Nat → Nat → Value} (j : Nat) : (rowL e n g)[j]? = if j < n * e then some (g (j / e) (j % e)) else none := by
  unfold rowL
  by_cases h : j < n * e
  · simp [h]
  · simp [h]

theorem rowL_cell {e n b off : Nat} {g : Nat → Nat → Value} (r : Rel Γ S a w I X β σ) (hI : ∀ i j, i < n → j < e → I ⟨b, off + i * e + j, none⟩ = some (g i j)) (j : Nat) (u : Value)
    (hu : (rowL e n g)[j]? = some u) : w.cell? ((⟨b, off, none⟩ : Addr).add j) = some u := by
  rw [rowL_get] at hu
  split at hu
  · rename_i hj
    simp at hu; subst hu
    have he : 0 < e := by
      rcases Nat.eq_zero_or_pos e with h | h
      · subst h; simp at hj
      · exact h
    have h1 : j / e < n := Nat.div_lt_of_lt_mul (by rw [Nat.mul_comm]; exact hj)
    have h2 : j % e < e := Nat.mod_lt _ he
    have := r.mem.im _ _ (hI (j / e) (j % e) h1 h2)
    rw [add_none]
    have h3 : off + j / e * e + j % e = off + j := by rw [Nat.add_assoc, Nat.mul_comm, Nat.div_add_mod]
    rwa [h3] at this
  · cases hu

theorem appF_spec {n m e : Nat} {f g : Nat → List IV} (hf : ∀ i, i < n → (f i).length = e) (hg : ∀ i, i < m → (g i).length = e) (i : Nat) (hi : i < n + m) : (appF n f g i).length = e := by
  unfold appF
  split
  · exact hf i (by omega)
  · exact hg _ (by omega)

theorem appF_vals {n m e : Nat} {f g : Nat → List IV} {vf vg : Nat → Nat → Value} {vs : Array Value} (hf : ∀ i, i < n → (f i).length = e) (hg : ∀ i, i < m → (g i).length = e)
    (hvs : ∀ j, j < (n + m) * e → vs[j]? = (rowL e n vf ++ rowL e m vg)[j]?)
    (hD1 : ∀ i (j : Nat) x, i < n → (f i)[j]? = some x → D I x (vf i j)) (hD2 : ∀ i (j : Nat) x, i < m → (g i)[j]? = some x → D I x (vg i j)) :
    ∀ i (j : Nat) x, i < n + m → (appF n f g i)[j]? = some x → D I x (vs.getD (i * e + j) undef) := by
  intro i j x hi hx
  have hlen : (appF n f g i).length = e := appF_spec hf hg i hi
  have hj : j < e := by rw [← hlen]; exact (List.getElem?_eq_some_iff.1 hx).1
  have hb : i * e + j < (n + m) * e := by
    have := Nat.mul_le_mul_right e (show i + 1 ≤ n + m by omega)
    rw [Nat.add_mul] at this; omega
  have hl1 : (rowL e n vf).length = n * e := by simp [rowL]
  have hdm : ∀ q, (q * e + j) / e = q ∧ (q * e + j) % e = j := by
    intro q
    refine ⟨?_, ?_⟩
    · rw [Nat.mul_comm, Nat.mul_add_div (by omega), Nat.div_eq_of_lt hj]; rfl
    · rw [Nat.mul_comm, Nat.mul_add_mod, Nat.mod_eq_of_lt hj]
  rw [Array.getD_eq_getD_getElem?, hvs _ hb]
  unfold appF at hx
  split at hx
  · rename_i h
    have hb1 : i * e + j < n * e := by
      have := Nat.mul_le_mul_right e (show i + 1 ≤ n by omega)
      rw [Nat.add_mul] at this; omega
    rw [List.getElem?_append_left (by omega), rowL_get, if_pos hb1, (hdm i).1, (hdm i).2]
    exact hD1 i j x h hx
  · rename_i h
    have hge : n * e ≤ i * e := Nat.mul_le_mul_right _ (by omega)
    have hsub : i * e + j - n * e = (i - n) * e + j := by rw [Nat.sub_mul]; omega
    have hb2 : (i - n) * e + j < m * e := by
      have := Nat.mul_le_mul_right e (show (i - n) + 1 ≤ m by omega)
      rw [Nat.add_mul] at this; omega
    rw [List.getElem?_append_right (by omega), hl1, hsub, rowL_get, if_pos hb2, (hdm _).1, (hdm _).2]
    exact hD2 _ j x (by omega) hx

theorem maxLen_small {n : Nat} (h : n ≤ 1073741824) : n ≤ maxLen := by unfold maxLen; omega

theorem zeroCells_size (z : Array Value) (n : Nat) : (Builtin.zeroCells z n).size = n * z.size := by simp [Builtin.zeroCells]

theorem rowL_one {e n : Nat} {g : Nat → Nat → Value} (h : ∀ i j, i < n → j < e → (g i j).oneCell' = true) : ∀ u ∈ rowL e n g, u.oneCell' = true := by
  intro u hu
  simp only [rowL, List.mem_map, List.mem_range] at hu
  obtain ⟨j, hj, rfl⟩ := hu
  have he : 0 < e := by
    rcases Nat.eq_zero_or_pos e with h | h
    · subst h; simp at hj
    · exact h
  exact h _ _ (Nat.div_lt_of_lt_mul (by rw [Nat.mul_comm]; exact hj)) (Nat.mod_lt _ he)

theorem run_append_room' {P : Program} (t ty e el : TypeId) (i : TypeInfo) (ht : P.underlying t = some (.slice e)) (hi : P.info? e = some i)
    (g sLen sCap : Nat) (cur : Array Value) (hg : w.heap[g]? = some (.cells cur el (0, 0)))
    (a : Addr) (m c : Nat) (news : List Value) (hl : news.length = m * i.size) (hnews : ∀ (j : Nat) u, news[j]? = some u → w.cell? (a.add j) = some u) (h1 : ∀ u ∈ news, u.oneCell' = true)
    (hroom : sLen + m ≤ sCap) (hfit : sLen * i.size + news.length ≤ cur.size) :
    (Builtin.append_ #[t, t] ty #[.slice (some ⟨g, 0, none⟩) sLen sCap, .slice (some a) m c]).run P w =
      .ok (.slice (some ⟨g, 0, none⟩) (sLen + m) sCap) (w.setRow g (cur.toList.take (sLen * i.size) ++ news ++ cur.toList.drop (sLen * i.size + news.length)).toArray) := by
  have hf := run_firstCells_some (P := P) w i.size m a m c news hl hnews
  have hst := run_storeCells_at P g (sLen * i.size) el news 0 cur w hg (by simpa using hfit) h1
  simp only [Nat.add_zero] at hst
  simp [Builtin.append_, run_underlying ht, sizeOf, typeInfo, hi, Builtin.lenOf, hroom, hf, add_none, hst]

/-- An append, to nil or to a row of the call's own. -/
theorem appendI_sound {t ty e d : Nat} {s x : IV} {vs vx : Value} (hT : TOK Γ.P Γ.T) (hk : (Γ.T t).k = .slice e) (h : appendI Γ S d (Γ.T e).size s x K) (r : Rel Γ S a w I X β σ)
    (hs : V I β (σ 0) s vs) (hx : V I β (σ 0) x vx) :
    ∃ v w', (Builtin.append_ #[t, t] ty #[vs, vx]).run Γ.P w = .ok v w' ∧ Aft Γ K I X w β σ (a.put (some d) v) w' := by
  obtain ⟨inf, dd, z, tk⟩ := TOK.get hT (t := t) (.inr (by rw [hk]; simp))
  have kd := tk.kind
  rw [hk] at kd
  obtain ⟨rfl, he⟩ := kd
  obtain ⟨inf', d', z', tk'⟩ := TOK.get hT (t := e) (.inl he)
  have hz' := tk'.zsize
  -- nothing appended
  have empty : ∀ (base p : Option Addr) (n c : Nat), n ≤ c → (Builtin.append_ #[t, t] ty #[.slice base n c, .slice p 0 0]).run Γ.P w = .ok (.slice base n c) w := by
    intro base p n c hnc
    cases base <;> cases p <;> simp [loadCells, loadCellsFrom, Builtin.append_, run_underlying tk.und, run_sz tk'.msize, Builtin.lenOf, Builtin.firstCells, hnc, storeCells]
  unfold appendI at h
  split at h
  · obtain ⟨px, rfl⟩ := hx.nilS_inv
    split at h
    · rename_i o e' n f
      rcases hs.lst_inv with ⟨ps, rfl, rfl⟩ | ⟨b, off, c, g, rfl, hnc, hown, hl, hI, ho, hD⟩
      · exact ⟨_, _, empty ps px 0 0 (Nat.le_refl _), put_aft h r (.data (.lstN _ _))⟩
      · exact ⟨_, _, empty _ px n c hnc, put_aft h r (.data (.lst e' n f b off c g hnc hl hI ho hD))⟩
    · obtain ⟨ps, rfl⟩ := hs.nilS_inv
      exact ⟨_, _, empty ps px 0 0 (Nat.le_refl _), put_aft h r (.data .nilS)⟩
    · exact h.elim
  · rename_i o2 e2 m g
    split at h
    · exact h.elim
    rename_i he2
    have he2 := (beq_iff _ _).1 he2
    subst he2
    have hpos := tk'.pos
    have hbytes : ∀ k, k ≤ 1073741824 → k * inf'.bytes ≤ 140737488355328 := by
      intro k hk
      have := Nat.mul_le_mul hk tk'.bytes
      omega
    -- to a nil slice
    have fromNil : ∀ {S0 : St} {σ0 : Nat → Sig} (ps : Option Addr), Rel Γ S0 a w I X β σ0 → σ0 0 d = none → m ≤ 1073741824 → putT Γ S0 (some d) (.lst (some d) (Γ.T e).size m g) K → 
        ∃ v w', (Builtin.append_ #[t, t] ty #[.slice ps 0 0, vx]).run Γ.P w = .ok v w' ∧ Aft Γ K I X w β σ0 (a.put (some d) v) w' := by
      intro S0 σ0 ps r0 hd0 hm hput
      rcases hx.lst_inv with ⟨px, rfl, rfl⟩ | ⟨b, off, c, vg, rfl, hnc, hown, hl, hI, ho, hD⟩
      · exact ⟨_, _, empty ps px 0 0 (Nat.le_refl _), put_aft hput r0 (.ownN _ _ _)⟩
      · by_cases hm0 : m = 0
        · subst hm0
          refine ⟨.slice ps 0 0, w, ?_, put_aft hput r0 (.ownN _ _ _)⟩
          cases ps <;> simp [storeCells, Builtin.append_, run_underlying tk.und, run_sz tk'.msize, Builtin.lenOf, Builtin.firstCells, loadCells, loadCellsFrom]
        · have hr : (Builtin.append_ #[t, t] ty #[.slice ps 0 0, .slice (some ⟨b, off, none⟩) m c]).run Γ.P w = .ok (.slice (some ⟨w.heap.size, 0, none⟩) m (grownCap w m 0 e))
              (w.drew.alloc (.cells ((rowL (Γ.T e).size m vg).toArray ++ Builtin.zeroCells z'.cells (grownCap w m 0 e - m)) e)) := by
            cases ps with
            | none => exact (run_append_nil (P := Γ.P) w t ty e inf' z' tk.und tk'.info tk'.zero ⟨b, off, none⟩ m c (rowL (Γ.T e).size m vg) (by simp [rowL, tk'.size]) (fun j v hj => rowL_cell r hI j v hj) (by omega) (by omega) (by have := hbytes m hm; omega))
            | some q =>
              have := run_append_grow (P := Γ.P) w t ty e inf' z' tk.und tk'.info tk'.zero q 0 0 [] (by simp) (fun j v h => by simp at h) ⟨b, off, none⟩ m c (rowL (Γ.T e).size m vg) (by simp [rowL, tk'.size])
                (fun j v hj => rowL_cell r hI j v hj) (by omega) (by omega) (growslice_fits (by omega) (by have := hbytes m hm; simpa using this))
              simpa using this
          obtain ⟨f1, f2, f3, f4⟩ := fresh_block r0
          have hcap := grownCap_ge w m 0 e
          have hlen : (rowL (Γ.T e).size m vg).length = m * (Γ.T e).size := by simp [rowL]
          refine ⟨_, _, hr, row_sound (el := e) r0 hd0 hput hcap (grownCap_le_maxLen w m 0 e (maxLen_small hm)) ?_ (fun j u hu hj => ?_) hl (fun i j x hi hxj => ?_) _ (heap_alloc_new w.drew _)
            (fun k o hk ho => by rw [heap_alloc_old w.drew _ k (heap_lt ho)]; exact ho) (by simp) f1 f2 f3 (fun x v hx hb => absurd hb (f4 x v hx)) rfl rfl rfl (fresh_fix w)⟩
          · simp only [Array.size_append, List.size_toArray, hlen, zeroCells_size, hz']
            rw [← Nat.add_mul]; congr 1; omega
          · rw [Array.getElem?_append_left (by simp; omega)] at hu
            exact rowL_one ho u (List.mem_of_getElem? (by simpa using hu))
          · have hj : j < (Γ.T e).size := by rw [← hl i hi]; exact (List.getElem?_eq_some_iff.1 hxj).1
            have hb : i * (Γ.T e).size + j < m * (Γ.T e).size := by
              have := Nat.mul_le_mul_right (Γ.T e).size (show i + 1 ≤ m by omega)
              rw [Nat.add_mul] at this; omega
            rw [Array.getD_eq_getD_getElem?, Array.getElem?_append_left (by simp [hlen]; omega), List.getElem?_toArray, rowL_get, if_pos hb]
            have h1 : (i * (Γ.T e).size + j) / (Γ.T e).size = i := by rw [Nat.mul_comm, Nat.mul_add_div (by omega), Nat.div_eq_of_lt hj]; rfl
            have h2 : (i * (Γ.T e).size + j) % (Γ.T e).size = j := by rw [Nat.mul_comm, Nat.mul_add_mod, Nat.mod_eq_of_lt hj]
            rw [h1, h2]; exact hD i j x hi hxj
    split at h
    · obtain ⟨ps, rfl⟩ := hs.nilS_inv
      obtain ⟨h1, h⟩ := chk_spec h
      simp at h1
      obtain ⟨S1, hk1, r1, _, _⟩ := untag_sound h r
      obtain ⟨v, w', hr, haft⟩ := fromNil ps r1 (by simp [setSig]) h1 hk1
      exact ⟨v, w', hr, haft.sig (fun _ => rfl)⟩
    · rename_i tt e1 n f
      split at h
      · exact h.elim
      rename_i he1
      have he1 := (beq_iff _ _).1 he1
      subst he1
      obtain ⟨h1, h⟩ := chk_spec h
      simp at h1
      obtain ⟨S1, hk1, r1, _, _⟩ := untag_sound h r
      obtain ⟨S2, hk2, r2, _, _⟩ := untag_sound hk1 r1
      have hs2 : ∀ u g0, (setSig (setSig σ fun u => if u = tt then none else σ 0 u) fun u => if u = d then none else (setSig σ fun u => if u = tt then none else σ 0 u) 0 u) 0 u = some g0 → σ 0 u = some g0 ∧ u ≠ tt := by
        intro u g0 hu
        simp only [setSig] at hu
        split at hu
        · cases hu
        · split at hu
          · cases hu
          · rename_i h; exact ⟨hu, h⟩
      rcases hs.lst_inv with ⟨ps, rfl, rfl⟩ | ⟨b, off, c, vf, rfl, hnc, hown, hl, hI, ho, hD⟩
      · obtain ⟨v, w', hr, haft⟩ := fromNil ps r2 (by simp [setSig]) (by omega) (by
          have : appF 0 f g = g := by funext i; simp [appF]
          simpa [this] using hk2)
        exact ⟨v, w', hr, (haft.sig (fun _ => rfl)).sig (fun _ => rfl)⟩
      · obtain ⟨rfl, el, htt⟩ := hown tt rfl
        obtain ⟨cur, c1, c2, c3, c4, c5, c6, c7⟩ := r.own.row tt _ htt
        simp only at c1 c2 c3 c4 c5 c6 c7
        have hσb : ∀ u g0, (setSig (setSig σ fun u => if u = tt then none else σ 0 u) fun u => if u = d then none else (setSig σ fun u => if u = tt then none else σ 0 u) 0 u) 0 u = some g0 → g0.b ≠ b := by
          intro u g0 hu hb
          obtain ⟨k1, k2⟩ := hs2 u g0 hu
          exact k2 (r.own.inj u tt g0 _ k1 htt hb)
        have hd2 : (setSig (setSig σ fun u => if u = tt then none else σ 0 u) fun u => if u = d then none else (setSig σ fun u => if u = tt then none else σ 0 u) 0 u) 0 d = none := by simp [setSig]
        have hcur : ∀ j, j < n * (Γ.T e).size → cur[j]? = (rowL (Γ.T e).size n vf)[j]? := by
          intro j hj
          have h0 : (rowL (Γ.T e).size n vf)[j]? = some (vf (j / (Γ.T e).size) (j % (Γ.T e).size)) := by rw [rowL_get, if_pos hj]
          have := rowL_cell r hI j _ h0
          rw [add_none, cell_of_row w b _ cur el _ c1] at this
          rw [h0]; simpa using this
        have hIb : ∀ x v, I x = some v → x.block = b → x.off < n * (Γ.T e).size ∧ cur[x.off]? = some v := by
          intro x v hx hb
          have h0 := r.mem.im x v hx
          obtain ⟨xb, xo, xs⟩ := x
          simp only at hb; subst hb
          have hsp : xs = none := by
            unfold World.cell? at h0
            split at h0
            · split at h0
              · cases h0
              · rename_i h; simpa using h
            · cases h0
          subst hsp
          rw [cell_of_row w xb _ cur el _ c1] at h0
          refine ⟨?_, h0⟩
          rcases Nat.lt_or_ge xo (n * (Γ.T e).size) with hlt | hge
          · exact hlt
          · rw [c5 xo hge] at hx; cases hx
        have hsz1 : n * (Γ.T e).size ≤ cur.size := by rw [c4]; exact Nat.mul_le_mul_right _ hnc
        have hone1 : ∀ (j : Nat) u, j < n * (Γ.T e).size → cur[j]? = some u → u.oneCell' = true := by
          intro j u hj hu
          rw [hcur j hj] at hu
          exact rowL_one ho u (List.mem_of_getElem? hu)
        have fin : ∀ {v : Value} {w' : World}, Aft Γ K I X w β (setSig (setSig σ fun u => if u = tt then none else σ 0 u) fun u => if u = d then none else (setSig σ fun u => if u = tt then none else σ 0 u) 0 u) (a.put (some d) v) w' → Aft Γ K I X w β σ (a.put (some d) v) w' :=
          fun h => (h.sig (fun _ => rfl)).sig (fun _ => rfl)
        rcases hx.lst_inv with ⟨px, rfl, rfl⟩ | ⟨b2, off2, c2', vg, rfl, hnc2, hown2, hl2, hI2, ho2, hD2⟩
        · refine ⟨_, _, empty _ px n c hnc, fin (row_sound (el := el) r2 hd2 hk2 (by simpa using hnc) c3 c4 (fun j u hu hj => hone1 j u (by simpa using hj) hu) (fun i hi => appF_spec hl (fun i hi => by omega) i hi)
            (appF_vals (vf := vf) (vg := vf) hl (fun i hi => by omega) (fun j hj => ?_) hD (fun i j x hi => by omega)) w c1 (fun k o _ ho => ho) (Nat.le_refl _) c6 c7 hσb (fun x v hx hb => by simpa using hIb x v hx hb) rfl rfl rfl (cells_fix c1 c4))⟩
          rw [hcur j (by simpa using hj)]; simp [rowL]
        · have hlen2 : (rowL (Γ.T e).size m vg).length = m * (Γ.T e).size := by simp [rowL]
          have hlen1 : (rowL (Γ.T e).size n vf).length = n * (Γ.T e).size := by simp [rowL]
          by_cases hroom : n + m ≤ c
          · have hfit : n * (Γ.T e).size + (rowL (Γ.T e).size m vg).length ≤ cur.size := by
              rw [hlen2, c4, ← Nat.add_mul]; exact Nat.mul_le_mul_right _ hroom
            have hr := run_append_room' (P := Γ.P) (w := w) t ty e el inf' tk.und tk'.info b n c cur c1 ⟨b2, off2, none⟩ m c2' (rowL (Γ.T e).size m vg) (by simp [rowL, tk'.size])
              (fun j v hj => rowL_cell r hI2 j v hj) (rowL_one ho2) hroom (by rw [tk'.size]; exact hfit)
            have htk : (cur.toList.take (n * (Γ.T e).size)).length = n * (Γ.T e).size := by simp; omega
            have hget : ∀ j, j < (n + m) * (Γ.T e).size → (cur.toList.take (n * inf'.size) ++ rowL (Γ.T e).size m vg ++ cur.toList.drop (n * inf'.size + (rowL (Γ.T e).size m vg).length)).toArray[j]? = (rowL (Γ.T e).size n vf ++ rowL (Γ.T e).size m vg)[j]? := by
              intro j hj
              rw [tk'.size, List.getElem?_toArray, List.append_assoc]
              by_cases hj1 : j < n * (Γ.T e).size
              · rw [List.getElem?_append_left (by omega), List.getElem?_take, if_pos hj1, List.getElem?_append_left (by omega), ← hcur j hj1]; simp
              · rw [List.getElem?_append_right (by omega), htk, List.getElem?_append_left (by rw [hlen2]; rw [Nat.add_mul] at hj; omega), List.getElem?_append_right (by omega), hlen1]
            refine ⟨_, _, hr, fin (row_sound (el := el) r2 hd2 hk2 hroom c3 ?_ (fun j u hu hj => ?_) (fun i hi => appF_spec hl hl2 i hi)
              (appF_vals hl hl2 hget hD hD2) _ (setRow_heap w b cur _ el _ c1) (fun k o hk ho => by rw [setRow_other w b k _ hk]; exact ho) (by simp) c6 c7 hσb (fun x v hx hb => ?_) rfl rfl rfl (cells_fix c1 c4))⟩
            · simp only [List.size_toArray, List.length_append, List.length_take, List.length_drop, Array.length_toList, tk'.size]; omega
            · rw [hget j hj] at hu
              have := List.mem_of_getElem? hu
              rcases List.mem_append.1 this with h | h
              · exact rowL_one ho u h
              · exact rowL_one ho2 u h
            · obtain ⟨k1, k2⟩ := hIb x v hx hb
              have hlt : x.off < (n + m) * (Γ.T e).size := by rw [Nat.add_mul]; omega
              refine ⟨hlt, ?_⟩
              rw [hget _ hlt, List.getElem?_append_left (by omega), ← hcur _ k1]; exact k2
          · have holds : ∀ (j : Nat) u, (rowL (Γ.T e).size n vf)[j]? = some u → w.cell? ((⟨b, 0, none⟩ : Addr).add j) = some u := fun j u hj => rowL_cell r hI j u hj
            have hr := run_append_grow (P := Γ.P) w t ty e inf' z' tk.und tk'.info tk'.zero ⟨b, 0, none⟩ n c (rowL (Γ.T e).size n vf) (by simp [rowL, tk'.size]) holds ⟨b2, off2, none⟩ m c2'
              (rowL (Γ.T e).size m vg) (by simp [rowL, tk'.size]) (fun j v hj => rowL_cell r hI2 j v hj) (by omega) (by omega) (growslice_fits (by omega) (hbytes _ h1))
            obtain ⟨f1, f2, f3, f4⟩ := fresh_block r2
            have hcap := grownCap_ge w (n + m) c e
            have hget : ∀ j, j < (n + m) * (Γ.T e).size → ((rowL (Γ.T e).size n vf).toArray ++ (rowL (Γ.T e).size m vg).toArray ++ Builtin.zeroCells z'.cells (grownCap w (n + m) c e - (n + m)))[j]? = (rowL (Γ.T e).size n vf ++ rowL (Γ.T e).size m vg)[j]? := by
              intro j hj
              rw [Array.getElem?_append_left (by simp [hlen1, hlen2]; rw [Nat.add_mul] at hj; omega)]
              simp
            refine ⟨_, _, hr, fin (row_sound (el := e) r2 hd2 hk2 hcap (grownCap_le_maxLen w (n + m) c e (maxLen_small h1)) ?_ (fun j u hu hj => ?_) (fun i hi => appF_spec hl hl2 i hi)
              (appF_vals hl hl2 hget hD hD2) _ (heap_alloc_new w.drew _) (fun k o hk ho => by rw [heap_alloc_old w.drew _ k (heap_lt ho)]; exact ho) (by simp) f1 f2 f3 (fun x v hx hb => absurd hb (f4 x v hx)) rfl rfl rfl (fresh_fix w))⟩
            · simp only [Array.size_append, List.size_toArray, hlen1, hlen2, zeroCells_size, hz']
              rw [← Nat.add_mul, ← Nat.add_mul]; congr 1; omega
            · rw [hget j hj] at hu
              have := List.mem_of_getElem? hu
              rcases List.mem_append.1 this with h | h
              · exact rowL_one ho u h
              · exact rowL_one ho2 u h
    · exact h.elim
  · exact h.elim

end
end Go.Proofs.YtllmejkmogepjaaGreatDoor.Ix

/-
  Ix29: copies into rows just made.
-/
namespace Go.Proofs.YtllmejkmogepjaaGreatDoor.Ix
set_option linter.unusedVariables false

section
variable {Γ : Env} {S : St} {a : Act} {w : World} {I : Imm} {X : Nat → Prop} {β : Beta} {σ : Nat → Sig} {K : St → Prop}

/-- A copy into a row just made. -/
theorem copyI_sound {ty sT rty el t e n : Nat} {o : Option Nat} {x : IV} {vs vx : Value} (hT : TOK Γ.P Γ.T) (hk : (Γ.T ty).k = .slice el) (he : (Γ.T el).size = e) (h : copyI Γ S o t e n x K) (r : Rel Γ S a w I X β σ)
    (hs : V I β (σ 0) (.raw t e n) vs) (hx : V I β (σ 0) x vx) :
    ∃ w', (Builtin.copy_ #[ty, sT] rty #[vs, vx]).run Γ.P w = .ok (.int .i64 n) w' ∧ Aft Γ K I X w β σ (a.put o (.int .i64 n)) w' := by
  subst he
  obtain ⟨b, el0, ht, rfl⟩ : ∃ b el0, σ 0 t = some ⟨b, el0, (Γ.T el).size, 0, n⟩ ∧ vs = .slice (some ⟨b, 0, none⟩) n n := by
    cases hs with
    | data h => cases h
    | raw t e n b el ht => exact ⟨b, el, ht, rfl⟩
  obtain ⟨inf, dd, z, tk⟩ := TOK.get hT (t := ty) (.inr (by rw [hk]; simp))
  have kd := tk.kind
  rw [hk] at kd
  obtain ⟨rfl, hel⟩ := kd
  obtain ⟨inf', d', z', tk'⟩ := TOK.get hT (t := el) (.inl hel)
  obtain ⟨cur, c1, c2, c3, c4, c5, c6, c7⟩ := r.own.row t _ ht
  simp only at c1 c2 c3 c4 c5 c6 c7
  obtain ⟨tm, ce, up⟩ := S
  unfold copyI at h
  split at h
  case h_2 => exact h.elim
  rename_i tm' ce' up' o2 e2 m g heq
  cases heq
  split at h
  case h_2 => exact h.elim
  rename_i he2
  have he2 := (beq_iff _ _).1 he2
  subst he2
  obtain ⟨h1, h⟩ := chk_spec h
  simp at h1
  subst h1
  rw [fps_eq, fcs_eq] at h
  have fin : ∀ {w' : World}, (∃ I' σ', Rel Γ ⟨settleT t (Γ.T el).size m g tm, settleC t (Γ.T el).size m g ce, up⟩ a w' I' X β σ' ∧ Ext I X w I' w' ∧ Above β β σ σ') → Aft Γ K I X w β σ (a.put o (.int .i64 m)) w' := fun hq => by
    obtain ⟨I', σ', r', he', ha'⟩ := hq
    obtain ⟨S', hk', r''⟩ := putT_sound h r' (.data (.int .i64 m))
    exact ⟨S', I', β, σ', hk', r'', he', ha'⟩
  rcases hx.lst_inv with ⟨px, rfl, rfl⟩ | ⟨b2, off2, cc2, vg, rfl, hnc2, hown2, hl2, hI2, ho2, hD2⟩
  · refine ⟨w, ?_, fin (settle_sound (S := ⟨tm, ce, up⟩) r ht c4 (fun j u hu => ?_) (fun i hi => by omega) (fun i j x hi => by omega) w c1 (fun k o _ ho => ho) (Nat.le_refl _) rfl rfl rfl)⟩
    · cases px <;> simp [Builtin.copy_, run_underlying tk.und, Builtin.lenOf, Builtin.firstCells, run_sz tk'.msize, loadCells, loadCellsFrom, storeCells, goInt]
    · have := (Array.getElem?_eq_some_iff.1 hu).1
      rw [c4] at this; omega
  · have hlen2 : (rowL (Γ.T el).size m vg).length = m * (Γ.T el).size := by simp [rowL]
    have hf := run_firstCells_some (P := Γ.P) w inf'.size m ⟨b2, off2, none⟩ m cc2 (rowL (Γ.T el).size m vg) (by simp [rowL, tk'.size]) (fun j v hj => rowL_cell r hI2 j v hj)
    have hst := run_storeCells_at Γ.P b 0 el0 (rowL (Γ.T el).size m vg) 0 cur w c1 (by rw [hlen2, c4]; omega) (rowL_one ho2)
    have hvs : (cur.toList.take 0 ++ rowL (Γ.T el).size m vg ++ cur.toList.drop (0 + (rowL (Γ.T el).size m vg).length)).toArray = (rowL (Γ.T el).size m vg).toArray := by
      rw [hlen2, List.drop_eq_nil_of_le (by simp [c4])]; simp
    refine ⟨w.setRow b (rowL (Γ.T el).size m vg).toArray, ?_, fin (settle_sound (S := ⟨tm, ce, up⟩) (vs := (rowL (Γ.T el).size m vg).toArray) r ht (by simp [hlen2]) (fun j u hu => ?_) hl2 (fun i j x hi hx => ?_) _ (setRow_heap w b cur _ el0 _ c1) (fun k o hk ho => by rw [setRow_other w b k _ hk]; exact ho) (by simp) rfl rfl rfl)⟩
    · rw [← hvs]
      simp only [Nat.add_zero] at hst
      simp [Builtin.copy_, run_underlying tk.und, Builtin.lenOf, sizeOf, typeInfo, tk'.info, hf, hst, goInt]
    · exact rowL_one ho2 u (List.mem_of_getElem? (by simpa using hu))
    · have hj : j < (Γ.T el).size := by rw [← hl2 i hi]; exact (List.getElem?_eq_some_iff.1 hx).1
      have hb : i * (Γ.T el).size + j < m * (Γ.T el).size := by
        have := Nat.mul_le_mul_right (Γ.T el).size (show i + 1 ≤ m by omega)
        rw [Nat.add_mul] at this; omega
      rw [Array.getD_eq_getD_getElem?, List.getElem?_toArray, rowL_get, if_pos hb]
      have h1 : (i * (Γ.T el).size + j) / (Γ.T el).size = i := by rw [Nat.mul_comm, Nat.mul_add_div (by omega), Nat.div_eq_of_lt hj]; rfl
      have h2 : (i * (Γ.T el).size + j) % (Γ.T el).size = j := by rw [Nat.mul_comm, Nat.mul_add_mod, Nat.mod_eq_of_lt hj]
      rw [h1, h2]; exact hD2 i j x hi hx

end
end Go.Proofs.YtllmejkmogepjaaGreatDoor.Ix

/-
  Ix12: calls.
-/
namespace Go.Proofs.YtllmejkmogepjaaGreatDoor.Ix
set_option linter.unusedVariables false

section
/-! ### A value told as another one -/

mutual
theorem leV_sound {I : Imm} {β : Beta} {s : Sig} : ∀ (x y : IV) (v : Value), leV x y → V I β s x v → V I β s y v := by
  intro x y v h hv
  cases y with
  | dead => exact .data (.dead v)
  | lst o' e' n' f' =>
    cases x with
    | nilS =>
      simp only [leV] at h; subst h
      obtain ⟨px, rfl⟩ := hv.nilS_inv
      cases o' with
      | none => exact .data (.lstN _ _)
      | some t => exact .ownN _ _ _
    | lst o e n f =>
      simp only [leV] at h
      obtain ⟨ho, rfl, rfl, hf⟩ := h
      rcases hv.lst_inv with ⟨px, rfl, rfl⟩ | ⟨b, off, c, g, rfl, hnc, hown, hl, hI, hone, hD⟩
      · cases o' with
        | none => exact .data (.lstN _ _)
        | some t => exact .ownN _ _ _
      · rcases ho with rfl | rfl
        · exact .data (.lst e n f' b off c g hnc (fun i hi => by rw [← hf i hi]; exact hl i hi) hI hone (fun i j x hi hx => hD i j x hi (by rw [hf i hi]; exact hx)))
        · cases o' with
          | none => exact .data (.lst e n f' b off c g hnc (fun i hi => by rw [← hf i hi]; exact hl i hi) hI hone (fun i j x hi hx => hD i j x hi (by rw [hf i hi]; exact hx)))
          | some t =>
            obtain ⟨rfl, el, ht⟩ := hown t rfl
            exact .own t e n f' b el c g ht hnc (fun i hi => by rw [← hf i hi]; exact hl i hi) (fun i j hi hj => by simpa using hI i j hi hj) hone (fun i j x hi hx => hD i j x hi (by rw [hf i hi]; exact hx))
    | _ => simp only [leV] at h; first | cases h | (subst h; exact hv)
  | agg ys =>
    cases x with
    | agg xs =>
      simp only [leV] at h
      obtain ⟨vs, rfl, hl, h1, hV⟩ := hv.agg_inv
      obtain ⟨g1, g2⟩ := leL_sound xs ys h (fun j => vs.getD j undef) hV
      exact .agg ys vs (by rw [← g1, hl]) h1 g2
    | _ => simp only [leV] at h; cases h
  | tup ys =>
    cases x with
    | tup xs =>
      simp only [leV] at h
      obtain ⟨vs, rfl, hl, hV⟩ := hv.tup_inv
      obtain ⟨g1, g2⟩ := leL_sound xs ys h (fun j => vs.getD j undef) hV
      exact .tup ys vs (by rw [← g1, hl]) g2
    | _ => simp only [leV] at h; cases h
  | _ =>
    cases x <;> simp only [leV] at h <;> first | cases h | (exact h ▸ hv)
    all_goals exact hv
theorem leL_sound {I : Imm} {β : Beta} {s : Sig} : ∀ (xs ys : List IV), leL xs ys → ∀ (f : Nat → Value), (∀ (j : Nat) x, xs[j]? = some x → V I β s x (f j)) →
    xs.length = ys.length ∧ ∀ (j : Nat) y, ys[j]? = some y → V I β s y (f j)
  | [], [], _, f, _ => ⟨rfl, fun j y h => by simp at h⟩
  | x :: xs, y :: ys, h, f, hx => by
    simp only [leL] at h
    obtain ⟨g1, g2⟩ := leL_sound xs ys h.2 (fun j => f (j + 1)) (fun j z hz => hx (j + 1) z (by simpa using hz))
    refine ⟨by simp [g1], fun j z hz => ?_⟩
    cases j with
    | zero => simp at hz; subst hz; exact leV_sound x y _ h.1 (hx 0 x (by simp))
    | succ j => exact g2 j z (by simpa using hz)
  | [], _ :: _, h, _, _ => by simp [leL] at h
  | _ :: _, [], h, _, _ => by simp [leL] at h
end

end

section
variable {Γ : Env} {S : St} {a : Act} {w : World} {I : Imm} {X : Nat → Prop} {β : Beta} {σ : Nat → Sig} {K : St → Prop}

/-- What is known of the calls; and this is no iterator. -/
def HC (C : Con) (Γ : Env) : Prop := (∀ g up args r up', C g up args r up' → Comp Γ.P Γ.gl g up args r up') ∧ Γ.yld = none ∧ Γ.ds = none

theorem back_sound {s : Sig} {r r' : IV} {v : Value} {d : Option Nat} (h : back d r = some r') (hv : V I (under β) s r v) (s' : Sig) (hd : ∀ t, d = some t → ∀ u g, s u = some g → (∃ e n f, r = .lst (some u) e n f ∨ ∃ q, r = .tup (.lst (some u) e n f :: q)) → s' t = some g) : V I β s' r' v := by
  unfold back at h
  split at h
  · rename_i t e n f
    simp at h; subst h
    cases hv with
    | data h => cases h
    | ownN t e f =>
      cases d with
      | none => exact .data (.lstN e f)
      | some d => exact .ownN d e f
    | own t e n f b el c g ht hc hl hi h1 h =>
      cases d with
      | none => exact .data (.lst e n f b 0 c g hc hl (fun i j a b => by simpa using hi i j a b) h1 h)
      | some d => exact .own d e n f b el c g (hd d rfl t _ ht ⟨_, _, _, .inl rfl⟩) hc hl hi h1 h
  · rename_i t e n f q
    split at h
    · rename_i y hy
      obtain ⟨e1, e2⟩ := unshiftL_spec _ _ hy
      simp at h; subst h
      obtain ⟨vs, rfl, hl, hV⟩ := hv.tup_inv
      refine .tup _ vs (by simp at hl ⊢; omega) fun j x hx => ?_
      cases j with
      | zero =>
        simp at hx; subst hx
        have h0 := hV 0 (.lst (some t) e n f) (by simp)
        generalize vs.getD 0 undef = u at h0
        cases h0 with
        | data h => cases h
        | ownN t e f =>
          cases d with
          | none => exact .data (.lstN e f)
          | some d => exact .ownN d e f
        | own t e n f b el c g ht hc hl hi h1 h =>
          cases d with
          | none => exact .data (.lst e n f b 0 c g hc hl (fun i j a b => by simpa using hi i j a b) h1 h)
          | some d => exact .own d e n f b el c g (hd d rfl t _ ht ⟨_, _, _, .inr ⟨_, rfl⟩⟩) hc hl hi h1 h
      | succ j =>
        obtain ⟨z, hz, hu⟩ := e2 j x (by simpa using hx)
        exact (hV (j + 1) z (by simpa using hz)).unshift x hu
    · cases h
  · exact hv.unshift r' h

theorem MemR.sub {gl : Nat → IV} {cs : List Ces} {Y : Nat → Prop} (m : MemR gl cs w I Y β σ) (h : ∀ b, X b → Y b) : MemR gl cs w I X β σ :=
  ⟨fun l d c hc => by obtain ⟨b, arr, el, h1, h2, h3, h4, h5, h6, h7⟩ := m.cell l d c hc; exact ⟨b, arr, el, h1, h2, h3, h4, h5, h6, fun hx => h7 (h b hx)⟩,
    m.inj, m.keys, m.im, m.glo, fun b hb => m.xb b (h b hb), m.gz⟩

theorem minL_run {P : Program} {I : Imm} {β : Beta} {σ : Sig} (w : World) : ∀ (us : List IV) (vs : List Value) (k : IntKind) (m : Int) {K : IV → Prop}, minL (.int k m) us K → vs.length = us.length →
    (∀ (j : Nat) x, us[j]? = some x → ∃ v, vs[j]? = some v ∧ V I β σ x v) → ∃ n, K (.int k n) ∧ (vs.foldlM Builtin.min2 (.int k m)).run P w = .ok (.int k n) w
  | [], vs, k, m, K, h, hl, _ => by
    have : vs = [] := by simpa using hl
    subst this
    exact ⟨m, h, by simp⟩
  | y :: us, vs, k, m, K, h, hl, hv => by
    cases vs with
    | nil => simp at hl
    | cons v vs =>
      obtain ⟨v', e, hV⟩ := hv 0 y rfl
      simp at e; subst e
      cases y with
      | int k2 m2 =>
        have h : minL (.int k (if m2 < m then m2 else m)) us K := h
        obtain ⟨n, h1, h2⟩ := minL_run w us vs k _ h (by simpa using hl) (fun j x hx => by have := hv (j + 1) x (by simpa using hx); simpa using this)
        refine ⟨n, h1, ?_⟩
        rw [List.foldlM_cons, hV.int_inv]
        simp only [Builtin.min2, pure_bind]
        exact h2
      | _ => exact h.elim
theorem maxL_run {P : Program} {I : Imm} {β : Beta} {σ : Sig} (w : World) : ∀ (us : List IV) (vs : List Value) (k : IntKind) (m : Int) {K : IV → Prop}, maxL (.int k m) us K → vs.length = us.length →
    (∀ (j : Nat) x, us[j]? = some x → ∃ v, vs[j]? = some v ∧ V I β σ x v) → ∃ n, K (.int k n) ∧ (vs.foldlM Builtin.max2 (.int k m)).run P w = .ok (.int k n) w
  | [], vs, k, m, K, h, hl, _ => by
    have : vs = [] := by simpa using hl
    subst this
    exact ⟨m, h, by simp⟩
  | y :: us, vs, k, m, K, h, hl, hv => by
    cases vs with
    | nil => simp at hl
    | cons v vs =>
      obtain ⟨v', e, hV⟩ := hv 0 y rfl
      simp at e; subst e
      cases y with
      | int k2 m2 =>
        have h : maxL (.int k (if m2 > m then m2 else m)) us K := h
        obtain ⟨n, h1, h2⟩ := maxL_run w us vs k _ h (by simpa using hl) (fun j x hx => by have := hv (j + 1) x (by simpa using hx); simpa using this)
        refine ⟨n, h1, ?_⟩
        rw [List.foldlM_cons, hV.int_inv]
        simp only [Builtin.max2, pure_bind]
        exact h2
      | _ => exact h.elim

/-- The others' blocks, as a called function has to leave them: its caller's rows among them. -/
def fence (X : Nat → Prop) (s : Sig) : Nat → Prop := fun b => X b ∨ ∃ t g, s t = some g ∧ g.b = b

def keepT (ks : List Nat) : Tms → Tms
  | [] => []
  | (i, v) :: r => match hasN ks i with
    | true => (i, v) :: keepT ks r
    | false => keepT ks r
theorem fpsK_eq (ks : List Nat) : ∀ (l : Tms) (K : Tms → Prop), fpsK ks l K = K (keepT ks l)
  | [], K => rfl
  | (i, v) :: r, K => by
    simp only [fpsK, keepT]
    cases hasN ks i with
    | true => simp only; rw [fv_eq, fpsK_eq ks r]
    | false => simp only; rw [fpsK_eq ks r]
theorem keepT_look (ks : List Nat) : ∀ (l : Tms) (i : Nat), look (keepT ks l) i = .dead ∨ look (keepT ks l) i = look l i
  | [], i => .inl rfl
  | (j, v) :: r, i => by
    simp only [keepT]
    split
    · rw [look_cons, look_cons]
      split
      · exact .inr rfl
      · exact keepT_look ks r i
    · rename_i hk
      rcases keepT_look ks r i with e | e
      · exact .inl e
      · by_cases h : j = i
        · subst h
          left
          have hn : ∀ (l : Tms), look (keepT ks l) j = .dead := by
            intro l
            induction l with
            | nil => rfl
            | cons x l ih =>
              obtain ⟨y, z⟩ := x
              simp only [keepT]
              split
              · rename_i hy
                rw [look_cons]
                rw [if_neg]
                · exact ih
                · rintro rfl; rw [hy] at hk; cases hk
              · exact ih
          exact hn r
        · right
          rw [e, look_cons, if_neg h]

theorem call_sound {C : Con} (hC : ∀ g up args r up', C g up args r up' → Comp Γ.P Γ.gl g up args r up') (o : Oper) (c : Call) (x : Operand) (ho : o.op = .call c) (hc : c.callee = .value x)
    {g : Nat} {first captured : List IV} (hx : evo Γ S x = .fn g first captured)
    (h : CALL C g S (shiftL (first ++ evoL Γ S c.args.toList ++ captured)) o.dst fun r S' => untagO o.dst S' fun S' => fv r fun r => putT Γ S' o.dst r K)
    (r : Rel Γ S a w I X β σ) (Q : Exit → Act → World → Prop) : o.wp Γ.P a w (Aft Γ K I X w β σ) Q := by
  obtain ⟨tmN, args', rv, r', ce, up, hle, hcon, hback, hkeep, hk⟩ : ∃ tmN args' rv r' ce up, leL (shiftL (first ++ evoL Γ S c.args.toList ++ captured)) args' ∧ C g (S.ce :: S.up) args' rv (ce :: up) ∧ back o.dst rv = some r' ∧
      (∀ i, look tmN i = .dead ∨ look tmN i = look S.tm i) ∧ untagO o.dst ⟨tmN, ce, up⟩ fun S' => fv r' fun r => putT Γ S' o.dst r K := by
    cases h with
    | mk args' r r' ce up hle h hr hk => exact ⟨S.tm, args', r, r', ce, up, hle, h, hr, fun _ => .inr rfl, hk⟩
    | cut ks args' r r' ce up hle h hr hk =>
      rw [fpsK_eq] at hk
      exact ⟨keepT ks S.tm, args', r, r', ce, up, hle, h, hr, keepT_look ks S.tm, hk⟩
  obtain ⟨⟨fn, code, hf, hbody, hname⟩, hcomp⟩ := hC _ _ _ _ _ hcon
  have hvx := evo_V r x
  rw [hx] at hvx
  obtain ⟨vs, us, hval, hl1, hl2, hV1, hV2⟩ := hvx.fn_inv
  have hmem' : MemR Γ.gl (S.ce :: S.up) w I (fence X (σ 0)) β σ := by
    refine ⟨fun l d c hc => ?_, r.mem.inj, r.mem.keys, r.mem.im, r.mem.glo, fun b hb => ?_, r.mem.gz⟩
    · obtain ⟨b, arr, el, h1, h2, h3, h4, h5, h6, h7⟩ := r.mem.cell l d c hc
      refine ⟨b, arr, el, h1, h2, h3, h4, h5, h6, fun hx => ?_⟩
      rcases hx with hx | ⟨t, g, hg, hb⟩
      · exact h7 hx
      · obtain ⟨cur, _, _, _, _, _, _, k7⟩ := r.own.row t g hg
        exact k7 l d (hb ▸ h1)
    · rcases hb with hb | ⟨t, g, hg, rfl⟩
      · exact r.mem.xb b hb
      · obtain ⟨cur, k1, _⟩ := r.own.row t g hg
        exact heap_lt k1
  have hrun : (execOp a.eval o).run Γ.P w = .ok (.enter g (vs ++ c.args.map a.eval ++ us)) w := by
    simp only [execOp, ho, resolve, hc, hval, Deferred.ofValue, Sem.run_bind, Sem.run_pure, Result.andThen_ok, invoke, callFunc, run_program, hf, hname, hbody, Option.isNone]
    rfl
  have hargs : ∀ (j : Nat) y, (shiftL (first ++ evoL Γ S c.args.toList ++ captured))[j]? = some y → V I (under β) noSig y ((vs ++ c.args.map a.eval ++ us).getD j undef) := by
    intro j y hy
    rw [shiftL_eq] at hy
    obtain ⟨z, hz, rfl⟩ := map_get hy
    refine V.shift (σ := σ 0) ?_
    rw [evoL_eq] at hz
    by_cases h1 : j < first.length
    · rw [List.append_assoc, List.getElem?_append_left h1] at hz
      have := hV1 j z hz
      have hj : j < vs.size := by omega
      rw [Array.getD_eq_getD_getElem?] at this ⊢
      rw [Array.append_assoc, Array.getElem?_append_left hj]; exact this
    · by_cases h2 : j < first.length + c.args.toList.length
      · rw [List.getElem?_append_left (by simp; simpa using h2), List.getElem?_append_right (by omega)] at hz
        simp only [List.getElem?_map, Option.map_eq_some_iff] at hz
        obtain ⟨q, hq, rfl⟩ := hz
        have := evo_V r q
        rw [Array.getD_eq_getD_getElem?, Array.getElem?_append_left (by simp at h2 ⊢; omega), Array.getElem?_append_right (by omega)]
        rw [hl1] at hq
        simp only [Array.getElem?_toList] at hq
        simpa [hq] using this
      · rw [List.getElem?_append_right (by simp; simp at h2; omega)] at hz
        have := hV2 _ z hz
        rw [Array.getD_eq_getD_getElem?] at this ⊢
        rw [Array.getElem?_append_right (by simp at h2 ⊢; omega)]
        simp only [List.length_append, List.length_map, Array.length_toList] at this
        simp only [Array.size_append, Array.size_map, ← hl1]
        exact this
  obtain ⟨hle1, hle2⟩ := leL_sound _ _ hle (fun j => (vs ++ c.args.map a.eval ++ us).getD j undef) hargs
  have hcalls := hcomp (vs ++ c.args.map a.eval ++ us) w I (fence X (σ 0)) β σ hmem' (by rw [← hle1]; simp [shiftL_eq, evoL_eq]; omega) hle2
  unfold Oper.wp
  rw [hrun]
  simp only [Oper.upon_enter]
  refine hcalls.mono fun e w' ⟨v, I', s, he, hv, hown, hmem2, hext⟩ => ?_
  subst he
  simp only
  -- the state behind the call
  have r1 : Rel Γ ⟨tmN, ce, up⟩ a w' I' X β σ := by
    refine ⟨fun i => by
      show V I' β (σ 0) (look tmN i) _
      rcases hkeep i with e | e
      · rw [e]; exact .data (.dead _)
      · rw [e]; exact (r.tm i).mono hext.imm (fun _ _ _ h => h) (fun _ _ h => h), r.df.to hext.fix (fun _ _ h => h), r.nt, hmem2.sub (fun b hb => .inl hb), ⟨fun t g hg => ?_, r.own.inj⟩⟩
    obtain ⟨cur, k1, k2, k3, k4, k5, k6, k7⟩ := r.own.row t g hg
    refine ⟨cur, by rw [hext.keep g.b (.inr ⟨t, g, hg, rfl⟩)]; exact k1, k2, k3, k4, fun j hj => ?_, k6, k7⟩
    rw [hext.new ⟨g.b, j, none⟩ (.inr ⟨t, g, hg, rfl⟩)]; exact k5 j hj
  have hext' : Ext I X w I' w' := hext.sub (fun b hb => .inl hb)
  cases hd : o.dst with
  | none =>
    rw [hd] at hk hback
    simp only [untagO, fv_eq] at hk
    have hv' : V I' β (σ 0) r' v := back_sound hback hv _ (fun t ht => by cases ht)
    obtain ⟨S', hk', r2⟩ := putT_sound hk r1 hv'
    exact ⟨S', I', β, σ, hk', r2, hext', .refl _ _⟩
  | some d =>
    rw [hd] at hk hback
    simp only [untagO, fv_eq] at hk
    obtain ⟨S2, hk2, r2, _, _⟩ := untag_sound hk r1
    -- the tag of what is handed back
    by_cases hown' : ∃ u g, s u = some g ∧ ∃ e n f, rv = .lst (some u) e n f ∨ ∃ q, rv = .tup (.lst (some u) e n f :: q)
    · obtain ⟨u, g, hg, hshape⟩ := hown'
      obtain ⟨cur, k1, k2, k3, k4, k5, k6, k7⟩ := hown.row u g hg
      have huniq : ∀ u' g', s u' = some g' → (∃ e n f, rv = .lst (some u') e n f ∨ ∃ q, rv = .tup (.lst (some u') e n f :: q)) → g' = g := by
        intro u' g' hg' hsh
        obtain ⟨e, n, f, hs⟩ := hshape
        obtain ⟨e', n', f', hs'⟩ := hsh
        have : u' = u := by
          rcases hs with hs | ⟨q, hs⟩ <;> rcases hs' with hs' | ⟨q', hs'⟩ <;> rw [hs] at hs' <;> simp at hs'
          · exact hs'.1.symm
          · exact hs'.1.1.symm
        subst this
        rw [hg] at hg'; cases hg'; rfl
      let s2 : Sig := fun t => if t = d then some g else (setSig σ fun u => if u = d then none else σ 0 u) 0 t
      have hle : ∀ t g0, (setSig σ fun u => if u = d then none else σ 0 u) 0 t = some g0 → s2 t = some g0 := by
        intro t g0 h
        show (if _ then _ else _) = _
        rw [if_neg]; exact h
        rintro rfl; simp [setSig] at h
      have r3 : Rel Γ S2 a w' I' X β (setSig σ s2) := by
        refine ⟨fun i => (r2.tm i).mono (fun _ _ h => h) (fun _ _ _ h => h) hle, r2.df, r2.nt, ⟨fun l d' c hc => ?_, r2.mem.inj, r2.mem.keys, r2.mem.im, r2.mem.glo, r2.mem.xb, r2.mem.gz⟩, ⟨fun t g0 h => ?_, fun t t' g0 g1 h h' hb => ?_⟩⟩
        · obtain ⟨b, arr, el, h1, h2, h3, h4, h5, h6⟩ := r2.mem.cell l d' c hc
          refine ⟨b, arr, el, h1, h2, h3, h4, fun j y hy => (h5 j y hy).mono (fun _ _ h => h) (fun _ _ _ h => h) (fun t g0 h => ?_), h6⟩
          cases l with
          | zero => exact hle t g0 h
          | succ l => exact h
        · have h : (if t = d then some g else _) = some g0 := h
          split at h
          · simp at h; subst h
            exact ⟨cur, k1, k2, k3, k4, k5, fun hx => k6 (.inl hx), fun l d' hb => k7 (l + 1) d' hb⟩
          · exact r2.own.row t g0 h
        · have h : (if t = d then some g else _) = some g0 := h
          have h' : (if t' = d then some g else _) = some g1 := h'
          have hne : ∀ t g0, (setSig σ fun u => if u = d then none else σ 0 u) 0 t = some g0 → g0.b ≠ g.b := by
            intro t g0 h hb
            simp only [setSig] at h
            split at h
            · cases h
            · exact k6 (.inr ⟨t, g0, h, hb⟩)
          split at h <;> split at h'
          · subst_vars; rfl
          · simp at h; subst h; exact absurd hb.symm (hne t' g1 h')
          · simp at h'; subst h'; exact absurd hb (hne t g0 h)
          · exact r2.own.inj t t' g0 g1 h h' hb
      have hv' : V I' β (setSig σ s2 0) r' v := back_sound hback hv _ (fun t ht u' g' hg' hsh => by
        simp at ht; subst ht
        rw [huniq u' g' hg' hsh]
        show (if _ then _ else _) = _
        simp)
      obtain ⟨S', hk', r4⟩ := putT_sound hk2 r3 hv'
      exact ⟨S', I', β, setSig σ s2, hk', r4, hext', .setSig β σ _⟩
    · have hv' : V I' β (setSig σ (fun u => if u = d then none else σ 0 u) 0) r' v := back_sound hback hv _ (fun t ht u g hg hsh => absurd ⟨u, g, hg, hsh⟩ hown')
      obtain ⟨S', hk', r4⟩ := putT_sound hk2 r2 hv'
      exact ⟨S', I', β, _, hk', r4, hext', .setSig β σ _⟩

theorem calls_sound {C : Con} (hT : TOK Γ.P Γ.T) (hC : ∀ g up args r up', C g up args r up' → Comp Γ.P Γ.gl g up args r up') (o : Oper) (c : Call) (hy : ∀ x v, c.callee = .value x → evo Γ S x = .lit v → Γ.yld = none) (ho : o.op = .call c)
    (h : calls C Γ S o c K) (r : Rel Γ S a w I X β σ) (Q : Exit → Act → World → Prop) : o.wp Γ.P a w (Aft Γ K I X w β σ) Q := by
  unfold calls at h
  split at h
  · rename_i x hc
    split at h
    · rename_i g first captured hx
      rw [fvL_eq] at h
      exact call_sound hC o c x ho hc hx h r Q
    · rename_i hx
      rw [hy _ _ hc hx] at h
      split at h
      · rename_i h1; cases h1
      · exact h.elim
    · exact h.elim
  · rename_i b hc
    rw [fvL_eq, evoL_eq] at h
    have hrun : ∀ {v : Value} {w' : World}, (builtin b c.argTypes o.type (c.args.map fun | .const _ => true | _ => false) (c.args.map a.eval)).run Γ.P w = .ok (.value v) w' → (execOp a.eval o).run Γ.P w = .ok (.value v) w' := by
      intro v w' h
      simp only [execOp, ho, resolve, hc, Sem.run_bind, Sem.run_pure, Result.andThen_ok, invoke]
      exact h
    split at h
    · rename_i x hxs
      split at h
      · rename_i t ht
        obtain ⟨y, hy⟩ : ∃ y, c.args.toList = [y] := by
          cases hl : c.args.toList with
          | nil => simp [hl] at hxs
          | cons y l => cases l with
            | nil => exact ⟨y, rfl⟩
            | cons z l => simp [hl] at hxs
        have hargs : c.args = #[y] := by rw [← Array.toArray_toList (xs := c.args), hy]
        have htys : c.argTypes = #[t] := by rw [← Array.toArray_toList (xs := c.argTypes), ht]
        have hxy : evo Γ S y = x := by simpa [hy] using hxs
        have hv := evo_V r y
        rw [hxy] at hv
        split at h
        · rename_i e oo e' n f hk
          obtain ⟨inf, d, z, tk⟩ := TOK.get hT (t := t) (.inr (by rw [hk]; simp))
          have kd := tk.kind
          rw [hk] at kd
          obtain ⟨rfl, he⟩ := kd
          have hval : ∃ bs cp, a.eval y = .slice bs n cp := by
            rcases hv.lst_inv with ⟨px, h1, rfl⟩ | ⟨b, off, c, g, h1, _⟩
            · exact ⟨_, _, h1⟩
            · exact ⟨_, _, h1⟩
          obtain ⟨bs, cp, hval⟩ := hval
          exact wp_val (v := .int .i64 n) (hrun (by simp [builtin, Builtin.len_, hargs, htys, run_underlying tk.und, hval, goInt])) (put_aft h r (.data (.int _ _)))
        · rename_i e hk
          obtain ⟨inf, d, z, tk⟩ := TOK.get hT (t := t) (.inr (by rw [hk]; simp))
          have kd := tk.kind
          rw [hk] at kd
          obtain ⟨rfl, he⟩ := kd
          obtain ⟨px, hpx⟩ := hv.nilS_inv
          exact wp_val (v := .int .i64 0) (hrun (by simp [builtin, Builtin.len_, hargs, htys, run_underlying tk.und, hpx, goInt])) (put_aft h r (.data (.int _ _)))
        · rename_i s hk
          obtain ⟨inf, d, z, tk⟩ := TOK.get hT (t := t) (.inr (by rw [hk]; simp))
          have kd := tk.kind
          rw [hk] at kd
          subst kd
          exact wp_val (v := .int .i64 s.size) (hrun (by simp [builtin, Builtin.len_, hargs, htys, run_underlying tk.und, hv.str_inv, goInt])) (put_aft h r (.data (.int _ _)))
        · exact h.elim
      · exact h.elim
    · rename_i x y us hxs
      obtain ⟨p, q, l, hl, hp, hq, hus⟩ : ∃ p q l, c.args.toList = p :: q :: l ∧ evo Γ S p = x ∧ evo Γ S q = y ∧ l.map (evo Γ S) = us := by
        cases hl : c.args.toList with
        | nil => simp [hl] at hxs
        | cons p l => cases l with
          | nil => simp [hl] at hxs
          | cons q l => simp [hl] at hxs; exact ⟨p, q, l, rfl, hxs.1, hxs.2.1, by simpa using hxs.2.2⟩
      have hargs : c.args = (p :: q :: l).toArray := by rw [← Array.toArray_toList (xs := c.args), hl]
      have hvp := evo_V r p
      have hvq := evo_V r q
      have h : minI x y fun v => minL v us fun v => putT Γ S o.dst v K := h
      unfold minI at h
      split at h
      · rename_i k m k' m' _hz
        rw [hp] at hvp; rw [hq] at hvq
        obtain ⟨n, hn, hr⟩ := minL_run (P := Γ.P) w us (l.map a.eval) k _ h (by simp [← hus]) (fun j x hx => by
          rw [← hus, List.getElem?_map, Option.map_eq_some_iff] at hx
          obtain ⟨y, hy, rfl⟩ := hx
          have := evo_V r y
          exact ⟨_, by rw [List.getElem?_map, hy]; rfl, this⟩)
        exact wp_val (v := .int k n) (hrun (by simp [builtin, Builtin.min_, hargs, hvp.int_inv, hvq.int_inv, Builtin.min2]; rw [hr]; rfl)) (put_aft hn r (.data (.int _ _)))
      · exact h.elim
    · rename_i x y us hxs
      obtain ⟨p, q, l, hl, hp, hq, hus⟩ : ∃ p q l, c.args.toList = p :: q :: l ∧ evo Γ S p = x ∧ evo Γ S q = y ∧ l.map (evo Γ S) = us := by
        cases hl : c.args.toList with
        | nil => simp [hl] at hxs
        | cons p l => cases l with
          | nil => simp [hl] at hxs
          | cons q l => simp [hl] at hxs; exact ⟨p, q, l, rfl, hxs.1, hxs.2.1, by simpa using hxs.2.2⟩
      have hargs : c.args = (p :: q :: l).toArray := by rw [← Array.toArray_toList (xs := c.args), hl]
      have hvp := evo_V r p
      have hvq := evo_V r q
      have h : maxI x y fun v => maxL v us fun v => putT Γ S o.dst v K := h
      unfold maxI at h
      split at h
      · rename_i k m k' m' _hz
        rw [hp] at hvp; rw [hq] at hvq
        obtain ⟨n, hn, hr⟩ := maxL_run (P := Γ.P) w us (l.map a.eval) k _ h (by simp [← hus]) (fun j x hx => by
          rw [← hus, List.getElem?_map, Option.map_eq_some_iff] at hx
          obtain ⟨y, hy, rfl⟩ := hx
          have := evo_V r y
          exact ⟨_, by rw [List.getElem?_map, hy]; rfl, this⟩)
        exact wp_val (v := .int k n) (hrun (by simp [builtin, Builtin.max_, hargs, hvp.int_inv, hvq.int_inv, Builtin.max2]; simp only [gt_iff_lt] at hr; rw [hr]; rfl)) (put_aft hn r (.data (.int _ _)))
      · exact h.elim
    · rename_i t e n x hxs
      obtain ⟨p, q, hl, hp, hq⟩ : ∃ p q, c.args.toList = [p, q] ∧ evo Γ S p = .raw t e n ∧ evo Γ S q = x := by
        cases hl : c.args.toList with
        | nil => simp [hl] at hxs
        | cons p l => cases l with
          | nil => simp [hl] at hxs
          | cons q l => cases l with
            | nil => simp [hl] at hxs; exact ⟨p, q, rfl, hxs.1, hxs.2⟩
            | cons z l => simp [hl] at hxs
      have hargs : c.args = #[p, q] := by rw [← Array.toArray_toList (xs := c.args), hl]
      split at h
      · rename_i ty sT ht
        split at h
        · rename_i el hk
          split at h
          · rename_i he
            have he := (beq_iff _ _).1 he
            have htys : c.argTypes = #[ty, sT] := by rw [← Array.toArray_toList (xs := c.argTypes), ht]
            obtain ⟨w', hr, haft⟩ := copyI_sound (rty := o.type) (sT := sT) hT hk he h r (hp ▸ evo_V r p) (hq ▸ evo_V r q)
            refine wp_val (v := .int .i64 n) (w' := w') (hrun ?_) haft
            simp [builtin, hargs, htys, hr]
          · exact h.elim
        · exact h.elim
      · exact h.elim
    · rename_i x y hxs
      obtain ⟨p, q, hl, hp, hq⟩ : ∃ p q, c.args.toList = [p, q] ∧ evo Γ S p = x ∧ evo Γ S q = y := by
        cases hl : c.args.toList with
        | nil => simp [hl] at hxs
        | cons p l => cases l with
          | nil => simp [hl] at hxs
          | cons q l => cases l with
            | nil => simp [hl] at hxs; exact ⟨p, q, rfl, hxs.1, hxs.2⟩
            | cons z l => simp [hl] at hxs
      have hargs : c.args = #[p, q] := by rw [← Array.toArray_toList (xs := c.args), hl]
      split at h
      · rename_i d t t' hd ht
        split at h
        · rename_i e htt hk
          have htt := (beq_iff _ _).1 htt
          subst htt
          have htys : c.argTypes = #[t, t] := by rw [← Array.toArray_toList (xs := c.argTypes), ht]
          obtain ⟨v, w', hr, haft⟩ := appendI_sound (ty := o.type) hT hk h r (hp ▸ evo_V r p) (hq ▸ evo_V r q)
          refine wp_val (v := v) (w' := w') (hrun ?_) (by rw [hd]; exact haft)
          simp [builtin, hargs, htys, hr]
        · exact h.elim
      · exact h.elim
    · exact h.elim
  · exact h.elim

theorem iop_all' {C : Con} (hT : TOK Γ.P Γ.T) (hC : ∀ g up args r up', C g up args r up' → Comp Γ.P Γ.gl g up args r up') (o : Oper) (hy : ∀ c x v, o.op = .call c → c.callee = .value x → evo Γ S x = .lit v → Γ.yld = none) (h : iop C Γ S o K) (r : Rel Γ S a w I X β σ)
    (Q : Exit → Act → World → Prop) : o.wp Γ.P a w (Aft Γ K I X w β σ) Q := by
  by_cases hc : ∃ c, o.op = .call c
  · obtain ⟨c, hc⟩ := hc
    refine calls_sound hT hC o c (fun x v => hy c x v hc) hc ?_ r Q
    unfold iop at h
    rw [hc] at h
    exact h
  · exact iop_sound hT o (fun c e => hc ⟨c, e⟩) h r Q

theorem iop_all {C : Con} (hT : TOK Γ.P Γ.T) (hC : HC C Γ) (o : Oper) (h : iop C Γ S o K) (r : Rel Γ S a w I X β σ)
    (Q : Exit → Act → World → Prop) : o.wp Γ.P a w (Aft Γ K I X w β σ) Q := iop_all' hT hC.1 o (fun _ _ _ _ _ _ => hC.2.1) h r Q

end
end Go.Proofs.YtllmejkmogepjaaGreatDoor.Ix

/-
  Ix13: regions in the order of the text, code, loops.
-/
namespace Go.Proofs.YtllmejkmogepjaaGreatDoor.Ix
set_option linter.unusedVariables false

section
variable {Γ : Env} {S : St} {a : Act} {w : World} {I : Imm} {X : Nat → Prop} {β : Beta} {σ : Nat → Sig} {K : St → Prop}

theorem dstOf_eq : ∀ (l : List Oper) (j : Nat), dstOf l j = (l[j]?).bind (·.dst)
  | [], j => by simp [dstOf]
  | o :: r, 0 => by simp [dstOf]
  | o :: r, n + 1 => by simp [dstOf, dstOf_eq r n]

theorem Rel.tell (r : Rel Γ S a w I X β σ) {t : Nat} {v : IV} (hv : V I β (σ 0) v (a.tmps.getD t undef)) : Rel Γ ⟨(t, v) :: S.tm, S.ce, S.up⟩ a w I X β σ := by
  refine ⟨fun i => ?_, r.df, r.nt, r.mem, r.own⟩
  simp only [look_cons]
  split
  · rename_i h; subst h; exact hv
  · exact r.tm i

theorem yielded_of {ops : Array Oper} {j t : Nat} {b : Bool} {tmps : Array Value} (hd : dstOf ops.toList j = some t) (hv : tmps.getD t undef = .bool b) : yielded ops tmps j = some b := by
  rw [dstOf_eq] at hd
  simp only [Array.getElem?_toList] at hd
  unfold yielded
  rw [hd]
  have hlt : t < tmps.size := by
    rcases Nat.lt_or_ge t tmps.size with h | h
    · exact h
    · simp [Array.getD_eq_getD_getElem?, Array.getElem?_eq_none h, undef] at hv
  have : tmps[t]? = some (.bool b) := by
    rw [Array.getElem?_eq_getElem hlt]
    simpa [hlt] using hv
  simp [this]

theorem D.und {I : Imm} : D I (.tup []) undef := .tup [] #[] rfl (fun j x h => by simp at h)

theorem V.und_inv {I : Imm} {β : Beta} {s : Sig} {v : Value} (h : V I β s (.tup []) v) : v = undef := by
  obtain ⟨vs, rfl, h1, _⟩ := h.tup_inv
  have : vs = #[] := Array.eq_empty_of_size_eq_zero h1.symm
  rw [this]; rfl

theorem yielded_und {ops : Array Oper} {j t : Nat} {tmps : Array Value} (hd : dstOf ops.toList j = some t) (hv : tmps.getD t undef = undef) : yielded ops tmps j = none := by
  rw [dstOf_eq] at hd
  simp only [Array.getElem?_toList] at hd
  unfold yielded
  rw [hd]
  simp only [Option.bind_some]
  cases ht : tmps[t]? with
  | none => rfl
  | some x =>
    have : x = undef := by rw [Array.getD_eq_getD_getElem?, ht] at hv; exact hv
    rw [this]; rfl

/-- One operation of a region, its guard decided. -/
def iop1 (C : Con) (Γ : Env) (all : List Oper) (o : Oper) (K : St → Prop) (S : St) : Prop :=
  match o.guard with
  | none => iop C Γ S o K
  | some (j, want) => match dstOf all j with
    | none => False
    | some t => match look S.tm t with
      | .bool b => brk b fun b => putT Γ S (some t) (.bool b) fun S => match want, b with
        | true, true | false, false => iop C Γ S o K
        | _, _ => putT Γ S o.dst (.tup []) K
      | .tup [] => putT Γ S o.dst (.tup []) K
      | _ => False

theorem iops_cons {C : Con} {all r : List Oper} {o : Oper} : iops C Γ all (o :: r) K S = iop1 C Γ all o (fun S' => iops C Γ all r K S') S := rfl

theorem brk_spec {b : Bool} {k : Bool → Prop} (h : brk b k) : k b := by cases b <;> exact h

/-- What the model does at one operation of a region. -/
theorem iop1_sound {C : Con} (hT : TOK Γ.P Γ.T) (hC : HC C Γ) {ops : Array Oper} (o : Oper)
    (h : iop1 C Γ ops.toList o K S) (r : Rel Γ S a w I X β σ) (Q : Exit → Act → World → Prop) :
    if Region.wanted o (yielded ops a.tmps) then o.wp Γ.P a w (Aft Γ K I X w β σ) Q else Aft Γ K I X w β σ (a.put o.dst undef) w := by
  unfold iop1 at h
  split at h
  · rename_i hg
    have : Region.wanted o (yielded ops a.tmps) = true := by simp [Region.wanted, hg]
    rw [if_pos this]
    exact iop_all hT hC o h r Q
  · rename_i j want hg
    split at h
    · exact h.elim
    · rename_i t hd
      split at h
      · rename_i b hb
        have hv := r.tm t
        rw [hb] at hv
        have hval := hv.bool_inv
        have hy := yielded_of hd hval
        have h := brk_spec h
        simp only [putT] at h
        split at h
        · have r' := r.tell (t := t) (v := .bool b) (by rw [hval]; exact .data (.bool b))
          cases want <;> cases b <;> simp only at h
          · have : Region.wanted o (yielded ops a.tmps) = true := by simp [Region.wanted, hg, hy]
            rw [if_pos this]; exact iop_all hT hC o h r' Q
          · have : ¬ Region.wanted o (yielded ops a.tmps) = true := by simp [Region.wanted, hg, hy]
            rw [if_neg this]
            exact put_aft h r' (.data D.und)
          · have : ¬ Region.wanted o (yielded ops a.tmps) = true := by simp [Region.wanted, hg, hy]
            rw [if_neg this]
            exact put_aft h r' (.data D.und)
          · have : Region.wanted o (yielded ops a.tmps) = true := by simp [Region.wanted, hg, hy]
            rw [if_pos this]; exact iop_all hT hC o h r' Q
        · exact h.elim
      · rename_i hb
        have hv := r.tm t
        rw [hb] at hv
        have hy := yielded_und hd hv.und_inv
        have : ¬ Region.wanted o (yielded ops a.tmps) = true := by simp [Region.wanted, hg, hy]
        rw [if_neg this]
        exact put_aft h r (.data D.und)
      · exact h.elim

theorem Aft.trans {K K' : St → Prop} {I' : Imm} {w' : World} {β' : Beta} {σ' : Nat → Sig} {a'' : Act} {w'' : World} (he : Ext I X w I' w') (ha : Above β β' σ σ') (h : Aft Γ K I' X w' β' σ' a'' w'') : Aft Γ K I X w β σ a'' w'' :=
  let ⟨S', I2, β2, σ2, h1, h2, h3, h4⟩ := h
  ⟨S', I2, β2, σ2, h1, h2, he.trans h3, ha.trans h4⟩

theorem iops_sound {C : Con} (hT : TOK Γ.P Γ.T) (hC : HC C Γ) {ops : Array Oper} {Q : Exit → Act → World → Prop}
    (hQ : ∀ a' w', Aft Γ K I X w β σ a' w' → Q .normal a' w') :
    ∀ (rest : List Oper) (k : Nat), (∀ j, rest[j]? = ops[k + j]?) → ∀ (S' : St) (a' : Act) (w' : World) (I' : Imm) (β' : Beta) (σ' : Nat → Sig),
      iops C Γ ops.toList rest K S' → Rel Γ S' a' w' I' X β' σ' → Ext I X w I' w' → Above β β' σ σ' → wpOps Γ.P ops Q (List.range' k rest.length) a' w'
  | [], k, _, S', a', w', I', β', σ', h, r, he, ha => by
    simp only [List.length_nil, List.range'_zero, wpOps]
    exact hQ _ _ ⟨S', I', β', σ', h, r, he, ha⟩
  | o :: rest, k, hk, S', a', w', I', β', σ', h, r, he, ha => by
    have h0 : ops[k]? = some o := by have := hk 0; simpa using this.symm
    rw [iops_cons] at h
    have h1 := iop1_sound hT hC (ops := ops) o h r Q
    have next : ∀ a2 w2, Aft Γ (fun S' => iops C Γ ops.toList rest K S') I' X w' β' σ' a2 w2 → wpOps Γ.P ops Q (List.range' (k + 1) rest.length) a2 w2 := by
      rintro a2 w2 ⟨S2, I2, β2, σ2, k1, k2, k3, k4⟩
      exact iops_sound hT hC hQ rest (k + 1) (fun j => by have := hk (j + 1); simp at this; rw [this]; congr 1; omega) S2 a2 w2 I2 β2 σ2 k1 k2 (he.trans k3) (ha.trans k4)
    simp only [List.length_cons, List.range'_succ, wpOps, h0]
    split
    · rename_i hw
      rw [if_pos hw] at h1
      exact .inl (Oper.wp_mono next h1)
    · rename_i hw
      rw [if_neg hw] at h1
      exact next _ _ h1

end
end Go.Proofs.YtllmejkmogepjaaGreatDoor.Ix

/-
  Ix17: what an operation of a front yields: one value, which hangs on what the operation looks at alone.
-/
namespace Go.Proofs.YtllmejkmogepjaaGreatDoor.Ix
set_option linter.unusedVariables false
set_option linter.unusedSimpArgs false

/-- The same cells, and the same in the temporaries looked at. -/
structure Alike (ts : List Nat) (S S' : St) : Prop where
  tm : ∀ t, t ∈ ts → look S.tm t = look S'.tm t
  ce : S.ce = S'.ce
  up : S.up = S'.up

theorem mem_opTs {x : Operand} {t : Nat} : ∀ {l : List Operand}, x ∈ l → t ∈ opT x → t ∈ opTs l
  | y :: r, h, ht => by
    (try simp only [opTs, List.mem_append])
    rcases List.mem_cons.1 h with rfl | h
    · exact .inl ht
    · exact .inr (mem_opTs h ht)

section
variable {C : Con} {Γ : Env} {S S' : St}

theorem evo_alike {x : Operand} (h : ∀ t, t ∈ opT x → look S.tm t = look S'.tm t) : evo Γ S x = evo Γ S' x := by
  cases x <;> simp [evo]
  exact h _ (by simp [opT])

theorem evo_alikes {l : List Operand} {x : Operand} (hx : x ∈ l) (h : Alike (opTs l) S S') : evo Γ S x = evo Γ S' x :=
  evo_alike fun t ht => h.tm t (mem_opTs hx ht)

theorem evoL_alike {l : List Operand} (h : ∀ x ∈ l, evo Γ S x = evo Γ S' x) : evoL Γ S l = evoL Γ S' l := by
  rw [evoL_eq, evoL_eq]
  exact List.map_congr_left h

theorem buildI_alike {place : Nat → Option (Nat × Nat)} {K : List IV → Prop} : ∀ (parts : List (Nat × Operand)) (z : List IV), (∀ x ∈ parts.map (·.2), evo Γ S x = evo Γ S' x) → buildI Γ S place parts z K → buildI Γ S' place parts z K
  | [], z, _, h => h
  | (i, x) :: r, z, hx, h => by
    simp only [buildI, ev_eq] at h ⊢
    split at h
    · exact h.elim
    · rename_i off sz hp
      (try simp only [hp])
      rw [← hx x (by simp)]
      unfold cellsK at h ⊢
      split at h
      · rename_i c hc
        (try simp only [hc])
        split at h
        · rename_i hn
          (try simp only [hn])
          split at h
          · rename_i z' hz
            (try simp only [hz])
            exact buildI_alike r z' (fun y hy => hx y (by simp at hy ⊢; exact .inr hy)) h
          · exact h.elim
        · exact h.elim
      · exact h.elim

theorem loadI_alike {t : Ty} {p : IV} {K : IV → Prop} (hc : S.ce = S'.ce) (hu : S.up = S'.up) (h : loadI S t p K) : loadI S' t p K := by
  unfold loadI at h ⊢
  rw [hc, hu] at h
  exact h

theorem ival_alike {o : Oper} {K : IV → Prop} (h : Alike (opTs o.op.operands.toList) S S') (hv : ival Γ S o K) : ival Γ S' o K := by
  have he : ∀ x ∈ o.op.operands.toList, evo Γ S x = evo Γ S' x := fun x hx => evo_alikes hx h
  obtain ⟨dst, op, type, pos, after, guard⟩ := o
  cases op with
  | move x => simp only [ival, ev] at hv ⊢; rw [← he x (by simp [Op.operands])]; exact hv
  | assign x => simp only [ival, ev] at hv ⊢; rw [← he x (by simp [Op.operands])]; exact hv
  | pick c a b =>
    simp only [ival, ev] at hv ⊢
    rw [← he c (by simp [Op.operands]), ← he a (by simp [Op.operands]), ← he b (by simp [Op.operands])]; exact hv
  | build t parts =>
    have hp : ∀ x ∈ parts.toList.map (·.2), evo Γ S x = evo Γ S' x := fun x hx => he x (by simpa [Op.operands] using hx)
    simp only [ival] at hv ⊢
    split at hv
    · rename_i hk; (try simp only [hk]); exact buildI_alike _ _ hp hv
    · rename_i hk; (try simp only [hk]); exact buildI_alike _ _ hp hv
    · exact hv.elim
  | load t x =>
    simp only [ival] at hv ⊢
    unfold tyK at hv ⊢
    split at hv
    · rename_i hn; (try simp only [hn])
      rw [← he x (by simp [Op.operands])]
      exact loadI_alike h.ce h.up hv
    · exact hv.elim
  | nilCheck x => simp only [ival, ev] at hv ⊢; rw [← he x (by simp [Op.operands])]; exact hv
  | binOp op t x y e => simp only [ival] at hv ⊢; rw [← he x (by simp [Op.operands]), ← he y (by simp [Op.operands])]; exact hv
  | unOp op t x => simp only [ival] at hv ⊢; rw [← he x (by simp [Op.operands])]; exact hv
  | convert src d x => simp only [ival] at hv ⊢; rw [← he x (by simp [Op.operands])]; exact hv
  | fieldAddr s x i => simp only [ival] at hv ⊢; rw [← he x (by simp [Op.operands])]; exact hv
  | field s x i => simp only [ival] at hv ⊢; rw [← he x (by simp [Op.operands])]; exact hv
  | indexAddr s x i => simp only [ival] at hv ⊢; rw [← he x (by simp [Op.operands]), ← he i (by simp [Op.operands])]; exact hv
  | index s x i => simp only [ival] at hv ⊢; rw [← he x (by simp [Op.operands]), ← he i (by simp [Op.operands])]; exact hv
  | slice t x lo hi mx =>
    cases mx with
    | some m => simp [ival] at hv
    | none =>
      simp only [ival] at hv ⊢
      have h1 : lo.map (evo Γ S) = lo.map (evo Γ S') := by
        cases lo with
        | none => rfl
        | some y => (try simp only [Option.map_some]); rw [he y (by simp [Op.operands])]
      have h2 : hi.map (evo Γ S) = hi.map (evo Γ S') := by
        cases hi with
        | none => rfl
        | some y => (try simp only [Option.map_some]); rw [he y (by simp [Op.operands])]
      rw [← he x (by simp [Op.operands]), ← h1, ← h2]; exact hv
  | extract x i => simp only [ival] at hv ⊢; rw [← he x (by simp [Op.operands])]; exact hv
  | makeFunc fn first captured =>
    cases fn with
    | func f =>
      simp only [ival] at hv ⊢
      rw [← evoL_alike (S := S) (S' := S') (l := first.toList) (fun x hx => he x (by simp [Op.operands] at hx ⊢; exact .inl hx)),
        ← evoL_alike (S := S) (S' := S') (l := captured.toList) (fun x hx => he x (by simp [Op.operands] at hx ⊢; exact .inr hx))]
      exact hv
    | _ => simp [ival] at hv
  | _ => simp [ival] at hv

theorem pcall_alike {o : Oper} {c : Call} {K : IV → Prop} (h : Alike (opTs c.operands.toList) S S') (hv : pcall C Γ S o c K) : pcall C Γ S' o c K := by
  have he : ∀ x ∈ c.operands.toList, evo Γ S x = evo Γ S' x := fun x hx => evo_alikes hx h
  have ha : evoL Γ S c.args.toList = evoL Γ S' c.args.toList := evoL_alike fun x hx => he x (by simp [Call.operands] at hx ⊢; exact .inr hx)
  unfold pcall at hv ⊢
  rw [← ha]
  split at hv
  · rename_i f hf
    (try simp only [hf])
    rw [← he f (by simp [Call.operands, hf])]
    split at hv
    · rename_i g first captured hx
      (try simp only [hx])
      rw [fvL_eq] at hv ⊢
      obtain ⟨aa, r, r', h0, h1, h2, h3⟩ := hv
      rw [h.ce, h.up] at h1
      exact ⟨aa, r, r', h0, h1, h2, h3⟩
    · exact hv.elim
  · rename_i b hb
    (try simp only [hb]); exact hv
  · exact hv.elim

theorem pval_alike {o : Oper} {K : IV → Prop} (h : Alike (opTs o.op.operands.toList) S S') (hv : pval C Γ S o K) : pval C Γ S' o K := by
  unfold pval at hv ⊢
  split at hv
  · exact hv.elim
  · exact hv.elim
  · exact hv.elim
  · rename_i t len parts hop
    (try simp only [hop])
    have hp : ∀ x ∈ parts.toList.map (·.2), evo Γ S x = evo Γ S' x := fun x hx => evo_alikes (l := o.op.operands.toList) (by rw [hop]; simpa [Op.operands] using hx) h
    split at hv
    · rename_i e d hk hd
      (try simp only [hk, hd])
      split at hv
      · rename_i h1 h2
        (try simp only [h1, h2])
        exact buildI_alike _ _ hp hv
      · exact hv.elim
    · exact hv.elim
  · rename_i c hop
    (try simp only [hop])
    rw [hop] at h
    exact pcall_alike h hv
  · exact ival_alike h hv

theorem opTag_alike {d : Nat} : ∀ {l : List Operand}, (∀ t, t ∈ opTs l → look S.tm t = look S'.tm t) → opTag d S l = opTag d S' l
  | [], _ => rfl
  | .tmp t :: r, h => by
    (try simp only [opTag])
    rw [h t (by simp [opTs, opT]), opTag_alike (l := r) (fun u hu => h u (by simp [opTs, hu]))]
  | .const _ :: r, h | .global _ :: r, h | .func _ :: r, h => by
    (try simp only [opTag])
    exact opTag_alike (l := r) (fun u hu => h u (by simp [opTs, hu]))

theorem tagOK_alike {o : Oper} {v : IV} (h : ∀ t, t ∈ opTs o.op.operands.toList → look S.tm t = look S'.tm t) : ∀ (cr : List Nat), tagOK cr S o v = tagOK cr S' o v
  | [] => rfl
  | d :: r => by (try simp only [tagOK]); rw [opTag_alike h, tagOK_alike h r]

/-! ### One value -/

theorem chk_iff {b : Bool} {p : Prop} : chk b p ↔ b = true ∧ p := by cases b <;> simp [chk]

theorem part1_wit {ag : Bool} {off size : Nat} {xs : List IV} {K : IV → Prop} (h : part1 ag off size xs K) : ∃ v, K v ∧ ∀ K' : IV → Prop, K' v → part1 ag off size xs K' := by
  unfold part1 at h ⊢
  split at h
  · split at h
    · rename_i t ht; (try simp only [ht]); exact ⟨_, h, fun K' h => h⟩
    · exact h.elim
  · split at h
    · rename_i t ht; (try simp only [ht]); exact ⟨_, h, fun K' h => h⟩
    · exact h.elim

theorem buildI_wit {place : Nat → Option (Nat × Nat)} {K : List IV → Prop} : ∀ (parts : List (Nat × Operand)) (z : List IV), buildI Γ S place parts z K → ∃ v, K v ∧ ∀ K' : List IV → Prop, K' v → buildI Γ S place parts z K'
  | [], z, h => ⟨z, h, fun K' h => h⟩
  | (i, x) :: r, z, h => by
    simp only [buildI, ev_eq] at h ⊢
    split at h
    · exact h.elim
    · rename_i off sz hp
      unfold cellsK at h ⊢
      split at h
      · rename_i c hc
        split at h
        · rename_i hn
          split at h
          · rename_i z' hz
            obtain ⟨v, h1, h2⟩ := buildI_wit r z' h
            refine ⟨v, h1, fun K' hk => ?_⟩
            (try simp only [hc, hn, hz])
            exact h2 K' hk
          · exact h.elim
        · exact h.elim
      · exact h.elim

theorem bin_wit {op : BinOp} {t : Ty} {x y : IV} {K : IV → Prop} (h : bin op t x y K) : ∃ v, K v ∧ ∀ K' : IV → Prop, K' v → bin op t x y K' := by
  unfold bin at h ⊢
  split at h
  · split at h
    · rw [chk_iff] at h; exact ⟨_, h.2, fun K' hk => chk_iff.2 ⟨h.1, hk⟩⟩
    · rw [chk_iff] at h; exact ⟨_, h.2, fun K' hk => chk_iff.2 ⟨h.1, hk⟩⟩
    · split at h
      · exact h.elim
      · rename_i hd
        (try simp only [hd])
        split at h
        · exact ⟨_, h, fun K' h => h⟩
        · exact ⟨_, h, fun K' h => h⟩
        · exact ⟨_, h, fun K' h => h⟩
        · rw [chk_iff] at h; exact ⟨_, h.2, fun K' hk => chk_iff.2 ⟨h.1, hk⟩⟩
        · rw [chk_iff] at h; exact ⟨_, h.2, fun K' hk => chk_iff.2 ⟨h.1, hk⟩⟩
        · exact ⟨_, h, fun K' h => h⟩
        · exact ⟨_, h, fun K' h => h⟩
        · exact ⟨_, h, fun K' h => h⟩
        · exact ⟨_, h, fun K' h => h⟩
        · exact ⟨_, h, fun K' h => h⟩
        · exact ⟨_, h, fun K' h => h⟩
        · exact h.elim
  · split at h
    · rw [chk_iff] at h; exact ⟨_, h.2, fun K' hk => chk_iff.2 ⟨h.1, hk⟩⟩
    · exact ⟨_, h, fun K' h => h⟩
    · exact ⟨_, h, fun K' h => h⟩
    · exact h.elim
  · split at h
    · rename_i h1 h2; (try simp only [h1, h2]); exact ⟨_, h, fun K' h => h⟩
    · rename_i h1 h2; (try simp only [h1, h2]); exact ⟨_, h, fun K' h => h⟩
    · exact h.elim
  · split at h
    · exact h.elim
    · rename_i k ks hk
      (try simp only [hk])
      split at h
      · rename_i he; (try simp only [he]); exact ⟨_, h, fun K' h => h⟩
      · rename_i he; (try simp only [he]); exact ⟨_, h, fun K' h => h⟩
      · exact h.elim
  · exact h.elim

theorem addI_wit {p : IV} {n : Nat} {K : IV → Prop} (h : addI p n K) : ∃ v, K v ∧ ∀ K' : IV → Prop, K' v → addI p n K' := by
  unfold addI at h ⊢
  split at h
  · exact ⟨_, h, fun K' h => h⟩
  · exact ⟨_, h, fun K' h => h⟩
  · exact h.elim

theorem idx_wit {i : IV} {n : Nat} {K : Nat → Prop} (h : idx i n K) : ∃ v, K v ∧ ∀ K' : Nat → Prop, K' v → idx i n K' := by
  unfold idx at h ⊢
  split at h
  · rw [chk_iff, chk_iff] at h
    exact ⟨_, h.2.2, fun K' hk => by rw [chk_iff, chk_iff]; exact ⟨h.1, h.2.1, hk⟩⟩
  · exact h.elim

theorem loadI_wit {t : Ty} {p : IV} {K : IV → Prop} (h : loadI S t p K) : ∃ v, K v ∧ ∀ K' : IV → Prop, K' v → loadI S t p K' := by
  unfold loadI at h ⊢
  split at h
  · split at h
    · rename_i hc; (try simp only [hc]); exact part1_wit h
    · exact h.elim
  · split at h
    · rename_i hc; (try simp only [hc])
      obtain ⟨v, h1, h2⟩ := part1_wit h
      exact ⟨_, h1, fun K' hk => h2 _ hk⟩
    · exact h.elim
  · exact part1_wit h
  · exact h.elim

theorem sliceI_wit {t : Ty} {x : IV} {lo hi : Option IV} {K : IV → Prop} (h : sliceI Γ t x lo hi K) : ∃ v, K v ∧ ∀ K' : IV → Prop, K' v → sliceI Γ t x lo hi K' := by
  unfold sliceI at h ⊢
  split at h
  · split at h
    · rename_i hl hh
      simp only [chk_iff] at h
      (try simp only [hl, hh, chk_iff])
      exact ⟨_, h.2.2.2, fun K' hk => ⟨h.1, h.2.1, h.2.2.1, hk⟩⟩
    · exact h.elim
  · split at h
    · rename_i hl hh hn
      simp only [chk_iff] at h
      (try simp only [hl, hh, hn, chk_iff])
      exact ⟨_, h.2.2.2, fun K' hk => ⟨h.1, h.2.1, h.2.2.1, hk⟩⟩
    · exact h.elim
  · exact h.elim

theorem minI_wit {x y : IV} {K : IV → Prop} (h : minI x y K) : ∃ v, K v ∧ ∀ K' : IV → Prop, K' v → minI x y K' := by
  unfold minI at h ⊢
  split at h
  · exact ⟨_, h, fun K' h => h⟩
  · exact h.elim
theorem maxI_wit {x y : IV} {K : IV → Prop} (h : maxI x y K) : ∃ v, K v ∧ ∀ K' : IV → Prop, K' v → maxI x y K' := by
  unfold maxI at h ⊢
  split at h
  · exact ⟨_, h, fun K' h => h⟩
  · exact h.elim

theorem byteK_wit {c : List IV} {K : IV → Prop} (h : byteK c K) : ∃ v, K v ∧ ∀ K' : IV → Prop, K' v → byteK c K' := by
  unfold byteK at h ⊢
  split at h
  · simp only [chk_iff] at h ⊢
    exact ⟨_, h.2.2, fun K' hk => ⟨h.1, h.2.1, hk⟩⟩
  · exact h.elim

theorem minL_wit : ∀ (r : List IV) (x : IV) {K : IV → Prop}, minL x r K → ∃ v, K v ∧ ∀ K' : IV → Prop, K' v → minL x r K'
  | [], x, K, h => ⟨x, h, fun K' h => h⟩
  | y :: r, x, K, h => by
    obtain ⟨v, h1, h2⟩ := minI_wit h
    obtain ⟨u, h3, h4⟩ := minL_wit r v h1
    exact ⟨u, h3, fun K' hk => h2 _ (h4 K' hk)⟩

theorem maxL_wit : ∀ (r : List IV) (x : IV) {K : IV → Prop}, maxL x r K → ∃ v, K v ∧ ∀ K' : IV → Prop, K' v → maxL x r K'
  | [], x, K, h => ⟨x, h, fun K' h => h⟩
  | y :: r, x, K, h => by
    obtain ⟨v, h1, h2⟩ := maxI_wit h
    obtain ⟨u, h3, h4⟩ := maxL_wit r v h1
    exact ⟨u, h3, fun K' hk => h2 _ (h4 K' hk)⟩

theorem ival_wit {o : Oper} {K : IV → Prop} (hv : ival Γ S o K) : ∃ v, K v ∧ ∀ K' : IV → Prop, K' v → ival Γ S o K' := by
  obtain ⟨dst, op, type, pos, after, guard⟩ := o
  cases op with
  | move x => simp only [ival, ev_eq] at hv ⊢; exact ⟨_, hv, fun K' h => h⟩
  | assign x => simp only [ival, ev_eq] at hv ⊢; exact ⟨_, hv, fun K' h => h⟩
  | pick c a b =>
    simp only [ival, ev_eq] at hv ⊢
    split at hv
    · rename_i b hb
      split at hv
      · exact ⟨_, hv, fun K' h => h⟩
      · exact ⟨_, hv, fun K' h => h⟩
    · exact hv.elim
  | build t parts =>
    simp only [ival] at hv ⊢
    split at hv
    · rename_i hk; obtain ⟨v, h1, h2⟩ := buildI_wit _ _ hv; exact ⟨_, h1, fun K' h => h2 _ h⟩
    · rename_i hk; obtain ⟨v, h1, h2⟩ := buildI_wit _ _ hv; exact ⟨_, h1, fun K' h => h2 _ h⟩
    · exact hv.elim
  | load t x =>
    simp only [ival, fv_eq] at hv ⊢
    unfold tyK at hv ⊢
    split at hv
    · exact loadI_wit hv
    · exact hv.elim
  | nilCheck x =>
    simp only [ival, ev_eq] at hv ⊢
    split at hv
    · exact ⟨_, hv, fun K' h => h⟩
    · exact ⟨_, hv, fun K' h => h⟩
    · exact ⟨_, hv, fun K' h => h⟩
    · exact hv.elim
  | binOp op t x y e => simp only [ival] at hv ⊢; exact bin_wit hv
  | unOp op t x =>
    simp only [ival] at hv ⊢
    split at hv
    · exact ⟨_, hv, fun K' h => h⟩
    · exact ⟨_, hv, fun K' h => h⟩
    · exact hv.elim
  | convert src d x =>
    simp only [ival] at hv ⊢
    unfold tyK at hv ⊢
    split at hv
    · split at hv
      · rename_i hk hx
        split at hv
        · rename_i hz; (try simp only []); exact ⟨_, hv, fun K' h => h⟩
        · exact hv.elim
      · rename_i hk hx
        split at hv
        · split at hv
          · exact byteK_wit hv
          · exact hv.elim
        · exact hv.elim
      · exact hv.elim
    · exact hv.elim
  | fieldAddr s x i =>
    simp only [ival] at hv ⊢
    split at hv
    · split at hv
      · exact addI_wit hv
      · exact hv.elim
    · exact hv.elim
  | field s x i =>
    simp only [ival, fv_eq] at hv ⊢
    split at hv
    · split at hv
      · exact part1_wit hv
      · exact hv.elim
    · exact hv.elim
  | indexAddr s x i =>
    simp only [ival] at hv ⊢
    split at hv
    · obtain ⟨j, h1, h2⟩ := idx_wit hv
      obtain ⟨v, h3, h4⟩ := addI_wit h1
      exact ⟨v, h3, fun K' hk => h2 _ (h4 K' hk)⟩
    · obtain ⟨j, h1, h2⟩ := idx_wit hv
      split at h1
      · rename_i hn
        refine ⟨_, h1, fun K' hk => h2 _ ?_⟩
        (try simp only [hn]); exact hk
      · exact h1.elim
    · exact hv.elim
  | index s x i =>
    simp only [ival, fv_eq] at hv ⊢
    split at hv
    · obtain ⟨j, h1, h2⟩ := idx_wit hv
      obtain ⟨v, h3, h4⟩ := part1_wit h1
      exact ⟨v, h3, fun K' hk => h2 _ (h4 K' hk)⟩
    · obtain ⟨j, h1, h2⟩ := idx_wit hv
      exact ⟨_, h1, fun K' hk => h2 _ hk⟩
    · exact hv.elim
  | slice t x lo hi mx =>
    cases mx with
    | some m => simp [ival] at hv
    | none => simp only [ival] at hv ⊢; exact sliceI_wit hv
  | extract x i =>
    simp only [ival, fv_eq] at hv ⊢
    split at hv
    · split at hv
      · exact ⟨_, hv, fun K' h => h⟩
      · exact hv.elim
    · exact hv.elim
  | makeFunc fn first captured =>
    cases fn with
    | func f => simp only [ival, fvL_eq] at hv ⊢; exact ⟨_, hv, fun K' h => h⟩
    | _ => simp [ival] at hv
  | _ => simp [ival] at hv

theorem pappend_wit {d e : Nat} {s x : IV} {K : IV → Prop} (h : pappend d e s x K) : ∃ v, K v ∧ ∀ K' : IV → Prop, K' v → pappend d e s x K' := by
  unfold pappend at h ⊢
  split at h
  · split at h
    · exact ⟨_, h, fun K' h => h⟩
    · exact ⟨_, h, fun K' h => h⟩
    · exact h.elim
  · split at h
    · exact h.elim
    · rename_i hn
      (try simp only [hn])
      split at h
      · rw [chk_iff] at h; exact ⟨_, h.2, fun K' hk => chk_iff.2 ⟨h.1, hk⟩⟩
      · exact h.elim
  · exact h.elim

theorem pcall_wit {o : Oper} {c : Call} {K : IV → Prop} (hv : pcall C Γ S o c K) : ∃ v, K v ∧ ∀ K' : IV → Prop, K' v → pcall C Γ S o c K' := by
  unfold pcall at hv ⊢
  split at hv
  · rename_i f hf
    split at hv
    · rename_i g first captured hx
      rw [fvL_eq] at hv
      obtain ⟨aa, r, r', h0, h1, h2, h3⟩ := hv
      rw [fv_eq] at h3
      refine ⟨r', h3, fun K' hk => ?_⟩
      rw [fvL_eq]
      exact ⟨aa, r, r', h0, h1, h2, by rw [fv_eq]; exact hk⟩
    · exact hv.elim
  · rename_i b hb
    simp only [fvL_eq] at hv ⊢
    split at hv
    · rename_i x hx
      split at hv
      · rename_i t ht
        (try simp only [ht])
        split at hv
        · rename_i hk; (try simp only [hk]); exact ⟨_, hv, fun K' h => h⟩
        · rename_i hk; (try simp only [hk]); exact ⟨_, hv, fun K' h => h⟩
        · rename_i hk; (try simp only [hk]); exact ⟨_, hv, fun K' h => h⟩
        · exact hv.elim
      · exact hv.elim
    · exact minL_wit _ _ hv
    · exact maxL_wit _ _ hv
    · rename_i s x hx
      split at hv
      · rename_i d t t' hd ht
        (try simp only [hd, ht])
        split at hv
        · rename_i e h1 h2; (try simp only [h1, h2]); exact pappend_wit hv
        · exact hv.elim
      · exact hv.elim
    · exact hv.elim
  · exact hv.elim

theorem pval_wit {o : Oper} {K : IV → Prop} (hv : pval C Γ S o K) : ∃ v, K v ∧ ∀ K' : IV → Prop, K' v → pval C Γ S o K' := by
  unfold pval at hv ⊢
  split at hv
  · exact hv.elim
  · exact hv.elim
  · exact hv.elim
  · rename_i t len parts hop
    split at hv
    · rename_i e d hk hd
      (try simp only [hk, hd])
      split at hv
      · rename_i h1 h2
        (try simp only [h1, h2])
        obtain ⟨xs, h3, h4⟩ := buildI_wit _ _ hv
        split at h3
        · rename_i hn
          split at h3
          · refine ⟨_, h3, fun K' hk => h4 _ ?_⟩
            (try simp only [hn]); exact hk
          · rw [fvL_eq] at h3
            refine ⟨_, h3, fun K' hk => h4 _ ?_⟩
            (try simp only [hn, fvL_eq]); exact hk
        · exact h3.elim
      · exact hv.elim
    · exact hv.elim
  · exact pcall_wit hv
  · exact ival_wit hv

/-! ### It is what the operation does -/

theorem untag_none {d : Nat} {K : St → Prop} (h1 : tmTag d S.tm = false) (h2 : ceTag d S.ce = false) (h : K S) : untag d S K := by
  obtain ⟨tm, ce, up⟩ := S
  simp only at h1 h2
  (try simp only [untag, h1, h2])
  exact h

theorem pval_iop {o : Oper} {K : St → Prop} (hn : ∀ d, o.dst = some d → creates o = true → tmTag d S.tm = false ∧ ceTag d S.ce = false)
    (hv : pval C Γ S o fun v => putT Γ S o.dst v K) : iop C Γ S o K := by
  obtain ⟨dst, op, type, pos, after, guard⟩ := o
  cases op with
  | alloc t => simp [pval] at hv
  | box t x => simp [pval] at hv
  | store t x y => simp [pval] at hv
  | buildSlice t len parts =>
    simp only [pval] at hv
    (try simp only [iop])
    split at hv
    · rename_i e d hk
      simp only at hn
      obtain ⟨n1, n2⟩ := hn d rfl rfl
      split at hv
      · rename_i h1 h2
        (try simp only [hk, h1, h2])
        obtain ⟨xs, h3, h4⟩ := buildI_wit _ _ hv
        refine h4 _ ?_
        split at h3
        · rename_i hnp
          (try simp only [hnp])
          split at h3
          · exact h3
          · rw [fvL_eq] at h3 ⊢
            exact untag_none n1 n2 h3
        · exact h3.elim
      · exact hv.elim
    · exact hv.elim
  | call c =>
    simp only [pval] at hv
    (try simp only [iop])
    unfold pcall at hv
    unfold calls
    have hun : ∀ {S2 : St} {K' : St → Prop}, S2.tm = S.tm → S2.ce = S.ce → K' S2 → untagO dst S2 K' := by
      intro S2 K' e1 e2 h
      cases dst with
      | none => exact h
      | some d =>
        obtain ⟨n1, n2⟩ := hn d rfl rfl
        exact untag_none (by rw [e1]; exact n1) (by rw [e2]; exact n2) h
    split at hv
    · rename_i f hf
      split at hv
      · rename_i g first captured hx
        (try simp only [hf, hx])
        rw [fvL_eq] at hv ⊢
        obtain ⟨aa, r, r', h0, h1, h2, h3⟩ := hv
        obtain ⟨tm, ce, up⟩ := S
        exact .mk aa r r' ce up h0 h1 h2 (hun rfl rfl h3)
      · exact hv.elim
    · rename_i b hb
      (try simp only [hb])
      rw [fvL_eq] at hv ⊢
      split at hv
      · rename_i x hx
        (try simp only [hx])
        split at hv
        · rename_i t ht
          (try simp only [ht])
          split at hv
          · rename_i hk; (try simp only [hk]); exact hv
          · rename_i hk; (try simp only [hk]); exact hv
          · rename_i hk; (try simp only [hk]); exact hv
          · exact hv.elim
        · exact hv.elim
      · rename_i x y hx; (try simp only [hx]); exact hv
      · rename_i x y hx; (try simp only [hx]); exact hv
      · rename_i s x hx
        (try simp only [hx])
        split at hv
        · rename_i d t t' hd ht
          simp only at hd; subst hd
          (try simp only [ht])
          obtain ⟨n1, n2⟩ := hn d rfl rfl
          split at hv
          · rename_i e h1 h2
            (try simp only [h1, h2])
            unfold pappend at hv
            unfold appendI
            split at hv
            · exact hv
            · rename_i e2 m g'
              split at hv
              · exact hv.elim
              · rename_i hn'
                (try simp only [hn'])
                split at hv
                · rw [chk_iff] at hv ⊢
                  exact ⟨hv.1, untag_none n1 n2 hv.2⟩
                · exact hv.elim
            · exact hv.elim
          · exact hv.elim
        · exact hv.elim
      · exact hv.elim
    · exact hv.elim
  | makeSlice t len cap =>
    simp only [pval, ival] at hv
  | slice t x lo hi mx =>
    simp only [pval] at hv
    simp only [iop]
    split
    · rename_i n e hk
      simp only [ival] at hv
      unfold sliceI at hv
      rw [hk] at hv
      split at hv
      · rename_i h1 _; cases h1
      · rename_i h1 _; cases h1
      · exact hv.elim
    · exact hv
  | _ => simp only [pval] at hv; (try simp only [iop]); exact hv

end
end Go.Proofs.YtllmejkmogepjaaGreatDoor.Ix

/-
  Ix18: a region that draws its order comes to what its front, in the order of the text, and then the rest come to.
-/
namespace Go.Proofs.YtllmejkmogepjaaGreatDoor.Ix
set_option linter.unusedVariables false
set_option linter.unusedSimpArgs false

/-! ### The check -/

theorem upTo_spec {f : Nat → Bool} : ∀ {n : Nat}, upTo n f = true → ∀ j, j < n → f j = true
  | 0, _, j, hj => by omega
  | n + 1, h, j, hj => by
    simp only [upTo, Bool.and_eq_true] at h
    rcases Nat.lt_or_ge j n with h' | h'
    · exact upTo_spec h.1 j h'
    · have : j = n := by omega
      subst this; exact h.2

theorem upTo_not {f : Nat → Bool} : ∀ {n : Nat}, upTo n f = false → ∃ j, j < n ∧ f j = false
  | 0, h => by simp [upTo] at h
  | n + 1, h => by
    simp only [upTo, Bool.and_eq_false_iff] at h
    rcases h with h | h
    · obtain ⟨j, h1, h2⟩ := upTo_not h; exact ⟨j, by omega, h2⟩
    · exact ⟨n, by omega, h⟩

/-- Closed under 'must come after'. -/
def DC (ops : Array Oper) (ℓ : Nat → Bool) : Prop := ∀ (i : Nat) o, ops[i]? = some o → ℓ i = true → ∀ j, bindOn o j = true → ℓ j = true

theorem nthO_eq : ∀ (l : List Oper) (i : Nat), nthO l i = l[i]?
  | [], _ => by simp [nthO]
  | _ :: _, 0 => by simp [nthO]
  | _ :: r, n + 1 => by simp [nthO, nthO_eq r n]

theorem anyOn_spec : ∀ {ms : List Oper} {j : Nat}, anyOn ms j = true → ∃ m ∈ ms, bindOn m j = true
  | [], _, h => by simp [anyOn] at h
  | m :: r, j, h => by
    simp only [anyOn] at h
    split at h
    · rename_i hb; exact ⟨m, by simp, hb⟩
    · obtain ⟨m', h1, h2⟩ := anyOn_spec h; exact ⟨m', by simp [h1], h2⟩

theorem sufOK_spec {fl : Option (List Nat)} {ops : Array Oper} {p : Nat} {ℓ : Nat → Bool} (hdc : DC ops ℓ) : ∀ (i : Nat) (ms : List Oper), sufOK fl ops.toList p i ms = true → (∀ m ∈ ms, ∀ j, bindOn m j = true → ℓ j = true) → ∀ j, j < i → ℓ j = true ∨ floatB fl ops.toList p j = true
  | 0, _, _, _, j, hj => by omega
  | i + 1, ms, h, hm, j, hj => by
    simp only [sufOK] at h
    split at h
    · rename_i o ha ho
      obtain ⟨m, m1, m2⟩ := anyOn_spec ha
      have hi := hm m m1 i m2
      rw [nthO_eq] at ho
      by_cases e : j = i
      · rw [e]; exact .inl hi
      · refine sufOK_spec hdc i _ h (fun m' hm' => ?_) j (by omega)
        simp only [List.mem_cons] at hm'
        rcases hm' with rfl | hm'
        · exact hdc i m' (by simpa using ho) hi
        · exact hm m' hm'
    · simp only [Bool.and_eq_true] at h
      by_cases e : j = i
      · rw [e]; exact .inr h.1
      · exact sufOK_spec hdc i _ h.2 hm j (by omega)

/-- What is known of an operation that floats. -/
theorem floatB_spec {fl : Option (List Nat)} {ops : Array Oper} {p i : Nat} {o : Oper} (ho : ops[i]? = some o) (h : floatB fl ops.toList p i = true) :
    i < p ∧ floats fl i o = true ∧ o.guard = none ∧ ∀ (j : Nat) y, ops[j]? = some y → j ≠ i → bindOn y i = true ∨ bindOn o j = true ∨ o.apart ops y = true := by
  simp only [floatB, Bool.and_eq_true, nthO_eq] at h
  obtain ⟨h1, h2⟩ := h
  have ho' : ops.toList[i]? = some o := by simpa using ho
  rw [ho'] at h2
  simp only [Bool.and_eq_true] at h2
  obtain ⟨⟨h3, h4⟩, h5⟩ := h2
  refine ⟨blt_lt h1, h3, by simpa using h4, fun j y hy hji => ?_⟩
  have hj : j < ops.toList.length := by simpa using (Array.getElem?_eq_some_iff.1 hy).1
  have := upTo_spec h5 j hj
  have hy' : ops.toList[j]? = some y := by simpa using hy
  simp only [hy', Bool.or_eq_true] at this
  rcases this with h | (h | h) | h
  · exact absurd ((beq_iff _ _).1 h) hji
  · exact .inl h
  · exact .inr (.inl h)
  · exact .inr (.inr (by simpa using h))

structure DOK (ops : Array Oper) (p : Nat) (fl : Option (List Nat)) : Prop where
  le : p ≤ ops.size
  acy : ∀ (i : Nat) o, ops[i]? = some o → ∀ e ∈ o.after, Region.binds .any e = true → e.on < i
  look : ∀ (i : Nat) o, ops[i]? = some o → i < p → ∀ t ∈ looks ops.toList o, ∀ j, j < p → dstOf ops.toList j = some t → j < i ∧ bindOn o j = true
  dst : ∀ (i j : Nat) d, i < p → j < p → dstOf ops.toList i = some d → dstOf ops.toList j = some d → i = j
  made : ∀ (i : Nat) o, ops[i]? = some o → i < p → ((∃ t, o.op = .alloc t) ∨ ∃ t x, o.op = .box t x) → (∃ d, o.dst = some d) ∧ o.guard = none
  st : ∀ (i : Nat) o t a x, ops[i]? = some o → i < p → o.op = .store t a x → ∃ d, a = .tmp d ∧ o.dst = none ∧ o.guard = none ∧
    ∃ (j : Nat) (o' : Oper), j < i ∧ ops[j]? = some o' ∧ o'.op = .alloc t ∧ o'.dst = some d ∧ o'.guard = none
  st1 : ∀ (i j : Nat) o o' t t' d x x', i < p → j < p → ops[i]? = some o → ops[j]? = some o' → o.op = .store t (.tmp d) x → o'.op = .store t' (.tmp d) x' → i = j
  suf : ∀ (i : Nat) o, ops[i]? = some o → p ≤ i → ∀ ℓ : Nat → Bool, DC ops ℓ → (∀ j, bindOn o j = true → ℓ j = true) → ∀ j, j < i → ℓ j = true ∨ floatB fl ops.toList p j = true
  ns : ∀ (i : Nat) o cs b, ops[i]? = some o → o.op ≠ .select cs b
  nd : ∀ (i : Nat) o, ops[i]? = some o → ∀ c, o.op ≠ .defer c

theorem drawOKs_spec {fl : Option (List Nat)} {all : List Oper} {p : Nat} : ∀ (l : List Oper) (i : Nat), drawOKs fl all p i l = true → ∀ (j : Nat) o, l[j]? = some o →
    (o.after.toList.all fun e => !(Region.binds .any e) || Nat.blt e.on (i + j)) = true ∧ (i + j < p → frontOK all p (i + j) o = true) ∧ (p ≤ i + j → sufOK fl all p (i + j) [o] = true) ∧ noDefer o = true
  | [], _, _, j, o, hj => by simp at hj
  | y :: r, i, h, j, o, hj => by
    simp only [drawOKs, Bool.and_eq_true] at h
    cases j with
    | zero =>
      simp at hj; subst hj
      refine ⟨by simpa using h.1.1.1, fun hp => ?_, fun hp => ?_, h.1.2⟩
      · have := h.1.1.2
        rw [show Nat.blt i p = true from by simp [Nat.blt]; omega] at this
        simpa using this
      · have := h.1.1.2
        rw [show Nat.blt i p = false from by
          cases hb : Nat.blt i p with
          | false => rfl
          | true => have := blt_lt hb; omega] at this
        simpa using this
    | succ j =>
      have := drawOKs_spec r (i + 1) h.2 j o (by simpa using hj)
      rw [show i + 1 + j = i + (j + 1) from by omega] at this
      exact this

theorem frontOK_spec {all : List Oper} {p i : Nat} {o : Oper} (h : frontOK all p i o = true) :
    (∀ t ∈ looks all o, ∀ j, j < p → dstOf all j = some t → j < i ∧ bindOn o j = true) ∧
    (∀ d j, o.dst = some d → j < i → dstOf all j ≠ some d) ∧
    (((∃ t, o.op = .alloc t) ∨ ∃ t x, o.op = .box t x) → (∃ d, o.dst = some d) ∧ o.guard = none) ∧
    (∀ t a x, o.op = .store t a x → ∃ d, a = .tmp d ∧ o.dst = none ∧ o.guard = none ∧
      (∃ (j : Nat) (o' : Oper), j < i ∧ all[j]? = some o' ∧ o'.op = .alloc t ∧ o'.dst = some d ∧ o'.guard = none) ∧
      ∀ (j : Nat) o' t' x', j < i → all[j]? = some o' → o'.op ≠ .store t' (.tmp d) x') := by
  simp only [frontOK, Bool.and_eq_true] at h
  obtain ⟨⟨h1, h2⟩, h3⟩ := h
  refine ⟨fun t ht j hj hd => ?_, fun d j hd hj he => ?_, fun hm => ?_, fun t a x hop => ?_⟩
  · rw [List.all_eq_true] at h1
    have := upTo_spec (h1 t ht) j hj
    rw [hd] at this
    simp only [Bool.or_eq_true, Bool.and_eq_true] at this
    rcases this with h | h
    · have : Nat.beq t t = true := Nat.beq_refl t
      rw [this] at h; cases h
    · exact ⟨blt_lt h.1, h.2⟩
  · rw [hd] at h2
    have := upTo_spec h2 j hj
    rw [he] at this
    have h' : Nat.beq d d = true := Nat.beq_refl d
    simp only [h'] at this; cases this
  · rcases hm with ⟨t, ht⟩ | ⟨t, x, ht⟩
    · rw [ht] at h3
      simp only [Bool.and_eq_true] at h3
      exact ⟨Option.isSome_iff_exists.1 h3.1, by simpa using h3.2⟩
    · rw [ht] at h3
      simp only [Bool.and_eq_true] at h3
      exact ⟨Option.isSome_iff_exists.1 h3.1, by simpa using h3.2⟩
  · rw [hop] at h3
    cases a with
    | tmp d =>
      cases hd : o.dst with
      | some _ => rw [hd] at h3; cases h3
      | none =>
        cases hg : o.guard with
        | some _ => rw [hd, hg] at h3; cases h3
        | none =>
          rw [hd, hg] at h3
          simp only [Bool.and_eq_true] at h3
          obtain ⟨g1, g2⟩ := h3
          refine ⟨d, rfl, rfl, rfl, ?_, fun j o' t' x' hj ho' hs => ?_⟩
          · have g1' : upTo i (fun j => onO (fun o' => !(isAlloc t d o')) all[j]?) = false := by simpa using g1
            obtain ⟨j, hj, hf⟩ := upTo_not g1'
            cases ho : all[j]? with
            | none => rw [ho] at hf; cases hf
            | some o' =>
              rw [ho] at hf
              have hf : isAlloc t d o' = true := by simpa [onO] using hf
              unfold isAlloc at hf
              split at hf
              · rename_i t2 d2 e1 e2 e3
                simp only [Bool.and_eq_true] at hf
                have a1 := (beq_iff _ _).1 hf.1
                have a2 := (beq_iff _ _).1 hf.2
                subst a1 a2
                exact ⟨j, o', hj, ho, e1, e2, e3⟩
              · cases hf
          · have := upTo_spec g2 j hj
            rw [ho'] at this
            simp only [onO, storesTo, hs] at this
            have h' : Nat.beq d d = true := Nat.beq_refl d
            simp only [h'] at this; cases this
    | _ => cases h3

theorem drawOK_spec {fl : Option (List Nat)} {ops : Array Oper} {p : Nat} (h : drawOK ops.toList p fl = true) : DOK ops p fl := by
  simp only [drawOK, Bool.and_eq_true] at h
  have hsp := drawOKs_spec ops.toList 0 h.2
  have hle : p ≤ ops.size := by simpa using Nat.le_of_ble_eq_true h.1
  have hf : ∀ (i : Nat) o, ops[i]? = some o → i < p → frontOK ops.toList p i o = true := fun i o ho hi => by
    have := (hsp i o (by simpa using ho)).2.1; simpa using this (by omega)
  refine ⟨hle, fun i o ho e he hb => ?_, fun i o ho hi => (frontOK_spec (hf i o ho hi)).1, fun i j d hi hj h1 h2 => ?_, fun i o ho hi hm => (frontOK_spec (hf i o ho hi)).2.2.1 hm, fun i o t a x ho hi hop => ?_,
    fun i j o o' t t' d x x' hi hj ho ho' h1 h2 => ?_, fun i o ho hi ℓ hdc hl j hj => ?_, fun i o cs b ho e => ?_, fun i o ho c e => ?_⟩
  · have := (hsp i o (by simpa using ho)).1
    rw [List.all_eq_true] at this
    have := this e (by simpa using he)
    rw [hb] at this
    have := blt_lt (by simpa using this : Nat.blt e.on (0 + i) = true)
    omega
  · rcases Nat.lt_trichotomy i j with hlt | he | hlt
    · have hjs : j < ops.size := by omega
      have := (frontOK_spec (hf j ops[j] (by simp [hjs]) hj)).2.1 d i (by rw [dstOf_eq] at h2; simpa [hjs] using h2) hlt
      exact absurd h1 this
    · exact he
    · have his : i < ops.size := by omega
      have := (frontOK_spec (hf i ops[i] (by simp [his]) hi)).2.1 d j (by rw [dstOf_eq] at h1; simpa [his] using h1) hlt
      exact absurd h2 this
  · obtain ⟨d, e1, e2, e3, ⟨j, o', e4, e5, e6⟩, _⟩ := (frontOK_spec (hf i o ho hi)).2.2.2 t a x hop
    exact ⟨d, e1, e2, e3, j, o', e4, by simpa using e5, e6⟩
  · rcases Nat.lt_trichotomy i j with hlt | he | hlt
    · obtain ⟨d', e1, _, _, _, e5⟩ := (frontOK_spec (hf j o' ho' hj)).2.2.2 t' _ x' h2
      cases e1
      exact absurd h1 (e5 i o t x hlt (by simpa using ho))
    · exact he
    · obtain ⟨d', e1, _, _, _, e5⟩ := (frontOK_spec (hf i o ho hi)).2.2.2 t _ x h1
      cases e1
      exact absurd h2 (e5 j o' t' x' hlt (by simpa using ho'))
  · have := (hsp i o (by simpa using ho)).2.2.1 (by omega)
    exact sufOK_spec hdc _ _ this (fun m hm => by simp at hm; subst hm; exact hl) j (by omega)
  · have := (hsp i o (by simpa using ho)).2.2.2
    simp [noDefer, e] at this
  · have := (hsp i o (by simpa using ho)).2.2.2
    simp [noDefer, e] at this

/-! ### The temporaries of what has come up -/

def tmL (S0 : Tms) (dst : Nat → Option Nat) (val : Nat → IV) (ℓ : Nat → Bool) : Nat → Tms
  | 0 => S0
  | k + 1 => match ℓ k, dst k with
    | true, some d => (d, val k) :: tmL S0 dst val ℓ k
    | _, _ => tmL S0 dst val ℓ k

section
variable {S0 : Tms} {dst : Nat → Option Nat} {val : Nat → IV} {ℓ : Nat → Bool}

theorem look_tmL_none {d : Nat} : ∀ {k : Nat}, (∀ i, i < k → ℓ i = true → dst i ≠ some d) → look (tmL S0 dst val ℓ k) d = look S0 d
  | 0, _ => rfl
  | k + 1, h => by
    have ih := look_tmL_none (d := d) (k := k) fun i hi => h i (by omega)
    simp only [tmL]
    split
    · rename_i d' h1 h2
      rw [look_cons, if_neg]
      · exact ih
      · intro e; subst e; exact h k (by omega) h1 h2
    · exact ih

theorem look_tmL_some {d i : Nat} : ∀ {k : Nat}, (∀ j, j < k → dst j = some d → j = i) → i < k → ℓ i = true → dst i = some d → look (tmL S0 dst val ℓ k) d = val i
  | k + 1, hinj, hi, hl, hd => by
    simp only [tmL]
    by_cases hik : i = k
    · subst hik
      rw [hl, hd]
      simp only
      rw [look_cons, if_pos rfl]
    · have ih := look_tmL_some (d := d) (i := i) (k := k) (fun j hj => hinj j (by omega)) (by omega) hl hd
      split
      · rename_i d' h1 h2
        rw [look_cons, if_neg]
        · exact ih
        · intro e; subst e; exact hik (hinj k (by omega) h2).symm
      · exact ih

theorem tmL_congr {val' : Nat → IV} : ∀ {k : Nat}, (∀ j, j < k → val' j = val j) → tmL S0 dst val' ℓ k = tmL S0 dst val ℓ k
  | 0, _ => rfl
  | k + 1, h => by simp only [tmL]; rw [tmL_congr (k := k) fun j hj => h j (by omega), h k (by omega)]
end

/-! ### What the order of the text tells of the front -/

section
variable {C : Con} {Γ : Env} {all : List Oper} {cr : List Nat}

/-- The state before operation 'i' of the front. -/
def lex (S0 : St) (all : List Oper) (val : Nat → IV) (i : Nat) : St := ⟨tmL S0.tm (dstOf all) val (fun _ => true) i, S0.ce, S0.up⟩

structure Fact (C : Con) (Γ : Env) (all : List Oper) (cr : List Nat) (S0 : St) (val : Nat → IV) (act : Nat → Bool) (i : Nat) (o : Oper) : Prop where
  guard : match o.guard with
    | none => act i = true
    | some (j, want) => ∃ t, dstOf all j = some t ∧ ((∃ b, look (lex S0 all val i).tm t = .bool b ∧ act i = (want == b)) ∨ (look (lex S0 all val i).tm t = .tup [] ∧ act i = false))
  nt : ∀ d, o.dst = some d → d < Γ.nt
  off : act i = false → val i = .tup []
  alloc : act i = true → ∀ t, o.op = .alloc t → 0 < (Γ.T t).size ∧ val i = .dead
  box : act i = true → ∀ t x, o.op = .box t x → (∃ c, cellsI (evo Γ (lex S0 all val i) x) = some c) ∧ val i = .dead
  store : act i = true → ∀ t a x, o.op = .store t a x → 0 < (Γ.T t).size ∧ ∃ c, cellsI (evo Γ (lex S0 all val i) x) = some c ∧ c.length = (Γ.T t).size
  other : act i = true → (∀ t, o.op ≠ .alloc t) → (∀ t x, o.op ≠ .box t x) → (∀ t a x, o.op ≠ .store t a x) →
    (∀ K : IV → Prop, K (val i) → pval C Γ (lex S0 all val i) o K) ∧ tagOK cr (lex S0 all val i) o (val i) = true

def putS (S : St) (d : Option Nat) (v : IV) : St := match d with
  | some t => ⟨(t, v) :: S.tm, S.ce, S.up⟩
  | none => S

theorem putT_spec {S : St} {d : Option Nat} {v : IV} {K : St → Prop} (h : putT Γ S d v K) : (∀ t, d = some t → t < Γ.nt) ∧ K (putS S d v) := by
  obtain ⟨tm, ce, up⟩ := S
  cases d with
  | none => exact ⟨nofun, h⟩
  | some t =>
    simp only [putT] at h
    split at h
    · rename_i hn; exact ⟨fun t' e => by cases e; exact blt_lt hn, h⟩
    · exact h.elim

/-- The state is the one before operation 'i'. -/
structure Is (S0 : St) (all : List Oper) (val : Nat → IV) (i : Nat) (S : St) : Prop where
  tm : ∀ t, look S.tm t = look (lex S0 all val i).tm t
  ce : S.ce = S0.ce
  up : S.up = S0.up

theorem Is.alike {S0 S : St} {val : Nat → IV} {i : Nat} (h : Is S0 all val i S) (ts : List Nat) : Alike ts S (lex S0 all val i) := ⟨fun t _ => h.tm t, h.ce, h.up⟩

theorem evo_is {S0 S : St} {val : Nat → IV} {i : Nat} (h : Is S0 all val i S) (x : Operand) : evo Γ S x = evo Γ (lex S0 all val i) x := by
  cases x <;> simp [evo]
  exact h.tm _

theorem Is.put {S0 S : St} {val : Nat → IV} {i : Nat} {o : Oper} (h : Is S0 all val i S) (ho : all[i]? = some o) :
    Is S0 all val (i + 1) (putS S o.dst (val i)) := by
  have hd : dstOf all i = o.dst := by rw [dstOf_eq, ho]; rfl
  cases hdo : o.dst with
  | none =>
    refine ⟨fun t => ?_, h.ce, h.up⟩
    simp only [putS, lex, tmL, hd, hdo]
    exact h.tm t
  | some d =>
    refine ⟨fun t => ?_, h.ce, h.up⟩
    simp only [putS, lex, tmL, hd, hdo]
    rw [look_cons, look_cons]
    split
    · rfl
    · exact h.tm t

theorem Is.congr {S0 S : St} {val val' : Nat → IV} {i : Nat} (h : Is S0 all val i S) (hv : ∀ j, j < i → val' j = val j) : Is S0 all val' i S := by
  refine ⟨fun t => ?_, h.ce, h.up⟩
  rw [h.tm t]; simp only [lex]; rw [tmL_congr hv]

theorem Fact.congr {S0 : St} {val val' : Nat → IV} {act act' : Nat → Bool} {i : Nat} {o : Oper} (h : Fact C Γ all cr S0 val act i o) (hv : ∀ j, j ≤ i → val' j = val j) (ha : act' i = act i) : Fact C Γ all cr S0 val' act' i o := by
  have hl : lex S0 all val' i = lex S0 all val i := by simp only [lex]; rw [tmL_congr fun j hj => hv j (by omega)]
  refine ⟨?_, h.nt, ?_, ?_, ?_, ?_, ?_⟩
  · rw [hl, ha]; exact h.guard
  · rw [ha, hv i (Nat.le_refl _)]; exact h.off
  · rw [ha, hv i (Nat.le_refl _)]; exact h.alloc
  · rw [ha, hv i (Nat.le_refl _), hl]; exact h.box
  · rw [ha, hl]; exact h.store
  · rw [ha, hv i (Nat.le_refl _), hl]; exact h.other

def setF {α : Type} (f : Nat → α) (i : Nat) (v : α) : Nat → α := fun j => if j = i then v else f j
theorem setF_self {α : Type} (f : Nat → α) (i : Nat) (v : α) : setF f i v i = v := by simp [setF]
theorem setF_lt {α : Type} (f : Nat → α) (i : Nat) (v : α) {j : Nat} (h : j < i) : setF f i v j = f j := by simp [setF]; omega

/-- One operation, not guarded away. -/
theorem pstep_spec {S0 S : St} {val : Nat → IV} {act : Nat → Bool} {i : Nat} {o : Oper} {K : St → Prop} (h : pstep C Γ cr S o K) (hs : Is S0 all val i S) (ho : all[i]? = some o)
    (hg : match o.guard with
      | none => True
      | some (j, want) => ∃ t, dstOf all j = some t ∧ ((∃ b, look (lex S0 all val i).tm t = .bool b ∧ true = (want == b)) ∨ (look (lex S0 all val i).tm t = .tup [] ∧ true = false)))
    (hst : ∀ t a x, o.op = .store t a x → o.dst = none) :
    ∃ v S', Fact C Γ all cr S0 (setF val i v) (setF act i true) i o ∧ Is S0 all (setF val i v) (i + 1) S' ∧ K S' := by
  have hlex : ∀ v, lex S0 all (setF val i v) i = lex S0 all val i := fun v => by simp only [lex]; rw [tmL_congr fun j hj => setF_lt val i v hj]
  have his : ∀ v, Is S0 all (setF val i v) i S := fun v => hs.congr fun j hj => setF_lt val i v hj
  have hg' : ∀ v, match o.guard with
    | none => setF act i true i = true
    | some (j, want) => ∃ t, dstOf all j = some t ∧ ((∃ b, look (lex S0 all (setF val i v) i).tm t = .bool b ∧ setF act i true i = (want == b)) ∨ (look (lex S0 all (setF val i v) i).tm t = .tup [] ∧ setF act i true i = false)) := fun v => by
    rw [hlex, setF_self]
    split
    · rfl
    · rename_i j want e; rw [e] at hg; exact hg
  have fin : ∀ v, K (putS S o.dst v) → (∀ d, o.dst = some d → d < Γ.nt) →
      (∀ t, o.op = .alloc t → 0 < (Γ.T t).size ∧ v = .dead) → (∀ t x, o.op = .box t x → (∃ c, cellsI (evo Γ (lex S0 all val i) x) = some c) ∧ v = .dead) →
      (∀ t a x, o.op = .store t a x → 0 < (Γ.T t).size ∧ ∃ c, cellsI (evo Γ (lex S0 all val i) x) = some c ∧ c.length = (Γ.T t).size) →
      ((∀ t, o.op ≠ .alloc t) → (∀ t x, o.op ≠ .box t x) → (∀ t a x, o.op ≠ .store t a x) → (∀ K : IV → Prop, K v → pval C Γ (lex S0 all val i) o K) ∧ tagOK cr (lex S0 all val i) o v = true) →
      ∃ v S', Fact C Γ all cr S0 (setF val i v) (setF act i true) i o ∧ Is S0 all (setF val i v) (i + 1) S' ∧ K S' := fun v hk hn h1 h2 h3 h4 => by
    refine ⟨v, _, ⟨hg' v, hn, fun e => (by rw [setF_self] at e; cases e), fun _ t e => ?_, fun _ t x e => ?_, fun _ t a x e => ?_, fun _ e1 e2 e3 => ?_⟩, (his v).put ho, ?_⟩
    · rw [setF_self]; exact h1 t e
    · rw [setF_self, hlex]; exact h2 t x e
    · rw [hlex]; exact h3 t a x e
    · rw [setF_self, hlex]; exact h4 e1 e2 e3
    · rw [setF_self]; exact hk
  unfold pstep at h
  split at h
  · rename_i t hop
    obtain ⟨h0, h⟩ := tyK_spec h
    obtain ⟨hn, hk⟩ := putT_spec h
    exact fin .dead hk hn (fun t' e => (by rw [hop] at e; cases e; exact ⟨h0, rfl⟩)) (fun t' x e => by rw [hop] at e; cases e) (fun t' a x e => by rw [hop] at e; cases e) (fun e => absurd hop (e t))
  · rename_i t x hop
    rw [ev_eq] at h
    split at h
    · rename_i c hc
      obtain ⟨hn, hk⟩ := putT_spec h
      exact fin .dead hk hn (fun t' e => by rw [hop] at e; cases e) (fun t' x' e => (by rw [hop] at e; cases e; exact ⟨⟨c, by rw [← evo_is hs]; exact hc⟩, rfl⟩)) (fun t' a x e => by rw [hop] at e; cases e) (fun _ e => absurd hop (e t x))
    · exact h.elim
  · rename_i t a x hop
    obtain ⟨h0, h⟩ := tyK_spec h
    rw [ev_eq] at h
    obtain ⟨c, hc, hl, hk⟩ := cellsK_spec h
    have hd := hst t a x hop
    refine fin .dead (by rw [hd]; exact hk) (fun d e => by rw [hd] at e; cases e) (fun t' e => by rw [hop] at e; cases e) (fun t' x' e => by rw [hop] at e; cases e)
      (fun t' a' x' e => (by rw [hop] at e; cases e; exact ⟨h0, c, by rw [← evo_is hs]; exact hc, hl⟩)) (fun _ _ e => absurd hop (e t a x))
  · rename_i n1 n2 n3
    obtain ⟨v, h1, h2⟩ := pval_wit h
    split at h1
    · rename_i ht
      obtain ⟨hn, hk⟩ := putT_spec h1
      refine fin v hk hn (fun t e => (n1 t e).elim) (fun t x e => (n2 t x e).elim) (fun t a x e => (n3 t a x e).elim) (fun _ _ _ => ⟨fun K' hk' => pval_alike (hs.alike _) (h2 K' hk'), ?_⟩)
      rw [← tagOK_alike fun t _ => hs.tm t]; exact ht
    · exact h1.elim

theorem pres_spec {S0 : St} {K : St → Prop} (hst : ∀ (i : Nat) o t a x, all[i]? = some o → o ∈ all → o.op = .store t a x → True) {p : Nat}
    (hstd : ∀ (i : Nat) o t a x, i < p → all[i]? = some o → o.op = .store t a x → o.dst = none) :
    ∀ (rest : List Oper) (i : Nat) (val : Nat → IV) (act : Nat → Bool) (S : St), i + rest.length = p → (∀ j, j < rest.length → rest[j]? = all[i + j]?) → Is S0 all val i S →
      (∀ (j : Nat) o, j < i → all[j]? = some o → Fact C Γ all cr S0 val act j o) → pres C Γ all cr rest K S →
      ∃ val' act' S', (∀ (j : Nat) o, j < p → all[j]? = some o → Fact C Γ all cr S0 val' act' j o) ∧ Is S0 all val' p S' ∧ K S'
  | [], i, val, act, S, hp, hr, hs, hf, h => by
    simp at hp; subst hp
    exact ⟨val, act, S, hf, hs, h⟩
  | o :: rest, i, val, act, S, hp, hr, hs, hf, h => by
    have ho : all[i]? = some o := by have := hr 0 (by simp); simpa using this.symm
    have hp' : i + 1 + rest.length = p := by simp at hp; omega
    have hr' : ∀ j, j < rest.length → rest[j]? = all[i + 1 + j]? := fun j hj => by
      have := hr (j + 1) (by simp; omega)
      simp at this; rw [this]; congr 1; omega
    have next : ∀ v b (S' : St), Fact C Γ all cr S0 (setF val i v) (setF act i b) i o → Is S0 all (setF val i v) (i + 1) S' → pres C Γ all cr rest K S' →
        ∃ val' act' S', (∀ (j : Nat) o, j < p → all[j]? = some o → Fact C Γ all cr S0 val' act' j o) ∧ Is S0 all val' p S' ∧ K S' := fun v b S' hF hS' hk =>
      pres_spec hst hstd rest (i + 1) (setF val i v) (setF act i b) S' hp' hr' hS' (fun j o' hj ho' => by
        rcases Nat.lt_or_ge j i with hlt | hge
        · exact (hf j o' hlt ho').congr (fun k hk => setF_lt val i v (by omega)) (setF_lt act i b hlt)
        · have : j = i := by omega
          subst this; rw [ho] at ho'; cases ho'; exact hF) hk
    have hlex : ∀ v, lex S0 all (setF val i v) i = lex S0 all val i := fun v => by simp only [lex]; rw [tmL_congr fun j hj => setF_lt val i v hj]
    simp only [pres] at h
    have hst' : ∀ t a x, o.op = .store t a x → o.dst = none := fun t a x e => hstd i o t a x (by simp at hp; omega) ho e
    split at h
    · rename_i hg
      obtain ⟨v, S', h1, h2, h3⟩ := pstep_spec (act := act) h hs ho (by rw [hg]; trivial) hst'
      exact next v true S' h1 h2 h3
    · rename_i j want hg
      split at h
      · exact h.elim
      · rename_i t hd
        split at h
        · rename_i b hb
          have hb' : look (lex S0 all val i).tm t = .bool b := by rw [← hs.tm]; exact hb
          have h := brk_spec h
          obtain ⟨_, h⟩ := putT_spec h
          simp only [putS] at h ⊢
          have hs2 : Is S0 all val i ⟨(t, .bool b) :: S.tm, S.ce, S.up⟩ := by
            refine ⟨fun t' => ?_, hs.ce, hs.up⟩
            simp only [look_cons]
            split
            · rename_i e; subst e; exact hb'.symm
            · exact hs.tm t'
          have live : pstep C Γ cr ⟨(t, .bool b) :: S.tm, S.ce, S.up⟩ o (pres C Γ all cr rest K) → want = b → ∃ val' act' S', (∀ (j : Nat) o, j < p → all[j]? = some o → Fact C Γ all cr S0 val' act' j o) ∧ Is S0 all val' p S' ∧ K S' := fun h e => by
            obtain ⟨v, S', h1, h2, h3⟩ := pstep_spec (act := act) h hs2 ho (by rw [hg]; exact ⟨t, hd, .inl ⟨b, hb', by simp [e]⟩⟩) hst'
            exact next v true S' h1 h2 h3
          have dead : putT Γ ⟨(t, .bool b) :: S.tm, S.ce, S.up⟩ o.dst (.tup []) (pres C Γ all cr rest K) → want ≠ b → ∃ val' act' S', (∀ (j : Nat) o, j < p → all[j]? = some o → Fact C Γ all cr S0 val' act' j o) ∧ Is S0 all val' p S' ∧ K S' := fun h e => by
            obtain ⟨hn, hk⟩ := putT_spec h
            have hfalse : ∀ {q : Prop}, setF act i false i = true → q := fun h => by rw [setF_self] at h; cases h
            refine next (.tup []) false _ ⟨?_, hn, fun _ => setF_self val i (.tup []), fun h => hfalse h, fun h => hfalse h, fun h => hfalse h, fun h => hfalse h⟩ ((hs2.congr fun j hj => setF_lt val i (.tup []) hj).put ho) ?_
            · rw [hg]; simp only; rw [hlex, setF_self]
              exact ⟨t, hd, .inl ⟨b, hb', by cases want <;> cases b <;> simp at e ⊢⟩⟩
            · rw [setF_self]; exact hk
          cases want <;> cases b <;> simp only at h
          · exact live h rfl
          · exact dead h nofun
          · exact dead h nofun
          · exact live h rfl
        · rename_i hb
          have hb' : look (lex S0 all val i).tm t = .tup [] := by rw [← hs.tm]; exact hb
          obtain ⟨hn, hk⟩ := putT_spec h
          have hfalse : ∀ {q : Prop}, setF act i false i = true → q := fun h => by rw [setF_self] at h; cases h
          refine next (.tup []) false _ ⟨?_, hn, fun _ => setF_self val i (.tup []), fun h => hfalse h, fun h => hfalse h, fun h => hfalse h, fun h => hfalse h⟩ ((hs.congr fun j hj => setF_lt val i (.tup []) hj).put ho) ?_
          · rw [hg]; simp only; rw [hlex, setF_self]
            exact ⟨t, hd, .inr ⟨hb', rfl⟩⟩
          · rw [setF_self]; exact hk
        · exact h.elim

end
end Go.Proofs.YtllmejkmogepjaaGreatDoor.Ix

/-
  Ix19: a region that draws its order: every order of the front comes to the same.
-/
namespace Go.Proofs.YtllmejkmogepjaaGreatDoor.Ix
set_option linter.unusedVariables false
set_option linter.unusedSimpArgs false

/-! ### Tags -/

mutual
theorem hasTag_drop (d e : Nat) : ∀ (v : IV), hasTag d v = false ∨ d = e → hasTag d (dropTag e v) = false
  | .lst none _ _ _, _ => rfl
  | .lst (some u) e' n f, h => by
    simp only [dropTag]
    split
    · rfl
    · rename_i hu
      rcases h with h | h
      · exact h
      · subst h; simpa [hasTag] using hu
  | .agg xs, h => by simp only [dropTag, hasTag]; exact hasTagL_drop d e xs (by simpa [hasTag] using h)
  | .tup xs, h => by simp only [dropTag, hasTag]; exact hasTagL_drop d e xs (by simpa [hasTag] using h)
  | .fn f a c, h => by
    simp only [dropTag, hasTag, Bool.or_eq_false_iff]
    exact ⟨hasTagL_drop d e a (by rcases h with h | h; · simp [hasTag] at h; exact .inl h.1
                                  · exact .inr h), hasTagL_drop d e c (by rcases h with h | h; · simp [hasTag] at h; exact .inl h.2
                                                                          · exact .inr h)⟩
  | .int _ _, _ | .bool _, _ | .str _, _ | .lit _, _ | .nilS, _ | .ptr _ _ _, _ | .vptr _ _ _ _ _, _ | .dead, _ => rfl
  | .raw u _ _, h => by
    simp only [dropTag]
    split
    · rfl
    · rename_i hu
      rcases h with h | h
      · exact h
      · subst h; simpa [hasTag] using hu
theorem hasTagL_drop (d e : Nat) : ∀ (l : List IV), hasTagL d l = false ∨ d = e → hasTagL d (dropTagL e l) = false
  | [], _ => rfl
  | x :: r, h => by
    simp only [dropTagL, hasTagL, Bool.or_eq_false_iff]
    exact ⟨hasTag_drop d e x (by rcases h with h | h; · simp [hasTagL] at h; exact .inl h.1
                                 · exact .inr h), hasTagL_drop d e r (by rcases h with h | h; · simp [hasTagL] at h; exact .inl h.2
                                                                         · exact .inr h)⟩
end

theorem tmTag_drop (d e : Nat) : ∀ (l : Tms), tmTag d l = false ∨ d = e → tmTag d (tmDrop e l) = false
  | [], _ => rfl
  | (i, v) :: r, h => by
    simp only [tmDrop, tmTag, Bool.or_eq_false_iff]
    exact ⟨hasTag_drop d e v (by rcases h with h | h; · simp [tmTag] at h; exact .inl h.1
                                 · exact .inr h), tmTag_drop d e r (by rcases h with h | h; · simp [tmTag] at h; exact .inl h.2
                                                                       · exact .inr h)⟩
theorem ceTag_drop (d e : Nat) : ∀ (l : Ces), ceTag d l = false ∨ d = e → ceTag d (ceDrop e l) = false
  | [], _ => rfl
  | (i, v) :: r, h => by
    simp only [ceDrop, ceTag, Bool.or_eq_false_iff]
    exact ⟨hasTagL_drop d e v (by rcases h with h | h; · simp [ceTag] at h; exact .inl h.1
                                  · exact .inr h), ceTag_drop d e r (by rcases h with h | h; · simp [ceTag] at h; exact .inl h.2
                                                                        · exact .inr h)⟩

def noTags (ds : List Nat) (S : St) : Prop := ∀ d ∈ ds, tmTag d S.tm = false ∧ ceTag d S.ce = false

section
variable {Γ : Env} {S : St} {a : Act} {w : World} {I : Imm} {X : Nat → Prop} {β : Beta} {σ : Nat → Sig} {K : St → Prop}

theorem untag_keeps {t : Nat} (h : untag t S K) : ∃ S', K S' ∧ (∀ d, (tmTag d S.tm = false ∨ d = t) → tmTag d S'.tm = false) ∧ (∀ d, (ceTag d S.ce = false ∨ d = t) → ceTag d S'.ce = false) ∧ untag t S (fun S2 => S2 = S') := by
  obtain ⟨tm, ce, up⟩ := S
  simp only [untag] at h ⊢
  split at h
  · rename_i hh
    exact ⟨_, h, fun d hd => tmTag_drop d t tm hd, fun d hd => ceTag_drop d t ce hd, rfl⟩
  · rename_i hn
    simp at hn
    exact ⟨_, h, fun d hd => by rcases hd with hd | rfl; · exact hd
                                · exact hn.1, fun d hd => by rcases hd with hd | rfl; · exact hd
                                                             · exact hn.2, rfl⟩

theorem untagL_sound : ∀ (ds ds0 : List Nat) (S : St) (σ : Nat → Sig), untagL ds K S → noTags ds0 S → Rel Γ S a w I X β σ → ∃ S' σ', K S' ∧ Rel Γ S' a w I X β σ' ∧ (∀ l, σ' (l + 1) = σ (l + 1)) ∧ noTags (ds ++ ds0) S'
  | [], ds0, S, σ, h, hn, r => ⟨S, σ, h, r, fun _ => rfl, hn⟩
  | d :: ds, ds0, S, σ, h, hn, r => by
    simp only [untagL] at h
    obtain ⟨S', hk, k1, k2, k3⟩ := untag_keeps h
    obtain ⟨S2, e, r', _, _⟩ := untag_sound k3 r
    subst e
    obtain ⟨S3, σ3, h1, h2, h3, h4⟩ := untagL_sound ds (d :: ds0) S2 _ hk (fun e he => by
      rcases List.mem_cons.1 he with rfl | he
      · exact ⟨k1 _ (.inr rfl), k2 _ (.inr rfl)⟩
      · exact ⟨k1 _ (.inl (hn e he).1), k2 _ (.inl (hn e he).2)⟩) r'
    exact ⟨S3, σ3, h1, h2, h3, fun e he => h4 e (by simp at he ⊢; rcases he with rfl | he | he <;> simp [*])⟩

/-! ### Small laws -/

theorem Rel.congr {S' : St} (r : Rel Γ S a w I X β σ) (h : ∀ t, look S'.tm t = look S.tm t) (hc : S'.ce = S.ce) (hu : S'.up = S.up) : Rel Γ S' a w I X β σ :=
  ⟨fun i => by rw [h]; exact r.tm i, r.df, r.nt, by rw [hc, hu]; exact r.mem, r.own⟩

theorem Rel.sub {Y : Nat → Prop} (r : Rel Γ S a w I Y β σ) (h : ∀ b, X b → Y b) : Rel Γ S a w I X β σ :=
  ⟨r.tm, r.df.to (fun _ _ h _ => h) (fun _ _ h hx => h (‹∀ b, X b → Y b› _ hx)), r.nt, ⟨fun l d c hc => by obtain ⟨b, arr, el, h1, h2, h3, h4, h5, h6, h7⟩ := r.mem.cell l d c hc; exact ⟨b, arr, el, h1, h2, h3, h4, h5, h6, fun hx => h7 (h b hx)⟩,
    r.mem.inj, r.mem.keys, r.mem.im, r.mem.glo, fun b hb => r.mem.xb b (h b hb), r.mem.gz⟩,
   ⟨fun t g hg => by obtain ⟨cur, k1, k2, k3, k4, k5, k6, k7⟩ := r.own.row t g hg; exact ⟨cur, k1, k2, k3, k4, k5, fun hx => k6 (h _ hx), k7⟩, r.own.inj⟩⟩

/-- A new block, nobody's. -/
theorem hideAux {Y : Nat → Prop} (r : Rel Γ S a w I X β σ) (o : Obj) (h : ∀ b, Y b → X b ∨ b = w.heap.size) {D : Nat} (hs : D ≠ w.heap.size) (hx : ¬ X D) : ¬ Y D := by
  intro hy
  rcases h D hy with h | h
  · exact hx h
  · exact hs h

theorem Rel.hide {Y : Nat → Prop} (r : Rel Γ S a w I X β σ) (o : Obj) (h : ∀ b, Y b → X b ∨ b = w.heap.size) : Rel Γ S a (w.alloc o) I Y β σ := by
  have r' := r.alloc o
  refine ⟨r'.tm, (r.df.to (w' := w.alloc o) (Y := Y) (fun k o' hk _ => by rw [heap_alloc_old w o k (heap_lt hk)]; exact hk) (fun D hD hx => hideAux r o h (by have := heap_lt hD; omega) hx)), r'.nt, ⟨fun l d c hc => ?_, r'.mem.inj, r'.mem.keys, r'.mem.im, r'.mem.glo, fun b hb => ?_, r'.mem.gz⟩, ⟨fun t g hg => ?_, r'.own.inj⟩⟩
  · obtain ⟨b, arr, el, h1, h2, h3, h4, h5, h6, h7⟩ := r.mem.cell l d c hc
    refine ⟨b, arr, el, h1, by rw [heap_alloc_old w o b (heap_lt h2)]; exact h2, h3, h4, h5, h6, fun hy => ?_⟩
    rcases h b hy with hx | hx
    · exact h7 hx
    · have := heap_lt h2; omega
  · rcases h b hb with hx | hx
    · have := r.mem.xb b hx; simp; omega
    · simp; omega
  · obtain ⟨cur, k1, k2, k3, k4, k5, k6, k7⟩ := r.own.row t g hg
    refine ⟨cur, by rw [heap_alloc_old w o _ (heap_lt k1)]; exact k1, k2, k3, k4, k5, fun hy => ?_, k7⟩
    rcases h _ hy with hx | hx
    · exact k6 hx
    · have := heap_lt k1; omega

theorem Rel.lays {b : Nat} (r : Rel Γ S a w I X β σ) (hX : X b) (hI : ∀ j, I ⟨b, j, none⟩ = none) (hI' : ∀ x v, I x = some v → x.block = b → False) (arr : Array Value) : Rel Γ S a (w.setRow b arr) I X β σ := by
  refine ⟨r.tm, r.df.to (setRow_fix w b arr) (fun _ _ h => h), r.nt, ⟨fun l d c hc => ?_, r.mem.inj, r.mem.keys, fun x v hx => ?_, r.mem.glo, fun b hb => by simpa using r.mem.xb b hb, r.mem.gz.one r.mem.glo b hI (fun k hk => setRow_other w b k arr hk)⟩, ⟨fun t g hg => ?_, r.own.inj⟩⟩
  · obtain ⟨b', arr', el, h1, h2, h3, h4, h5, h6, h7⟩ := r.mem.cell l d c hc
    refine ⟨b', arr', el, h1, ?_, h3, h4, h5, h6, h7⟩
    rw [setRow_other w b b' arr (fun e => h7 (e ▸ hX))]; exact h2
  · have hb : x.block ≠ b := fun e => hI' x v hx e
    have := r.mem.im x v hx
    rw [← this]
    unfold World.cell?
    rw [setRow_other w b x.block arr hb]
  · obtain ⟨cur, k1, k2, k3, k4, k5, k6, k7⟩ := r.own.row t g hg
    refine ⟨cur, ?_, k2, k3, k4, k5, k6, k7⟩
    rw [setRow_other w b g.b arr (fun e => k6 (e ▸ hX))]; exact k1

/-- A cell that stands in memory already, told from now on. -/
theorem adopt_sound {d b el : Nat} {c : List IV} {vs : Array Value} {Y : Nat → Prop} (h : newC Γ S d c K) (r : Rel Γ S a w I Y β σ) (hY : Y b) (hXY : ∀ b, X b → Y b) (hX : ¬ X b)
    (hh : w.heap[b]? = some (.cells vs el (0, 0))) (hI : ∀ j, I ⟨b, j, none⟩ = none) (ha : a.tmps.getD d undef = .pointer (some ⟨b, 0, none⟩)) (hc : CV I β (σ 0) c vs) :
    ∃ S' β', K S' ∧ Rel Γ S' a w I X β' σ ∧ Above β β' σ σ := by
  have r0 := r.sub hXY
  obtain ⟨tm, ce, up⟩ := S
  simp only [newC] at h
  split at h
  · exact h.elim
  rename_i hk
  split at h
  case h_2 => exact h.elim
  rename_i hd
  have hno := hasKey_spec ce d hk
  have hb0 : β 0 d = none := by
    cases hb : β 0 d with
    | none => rfl
    | some b => obtain ⟨c, hc⟩ := r.mem.keys 0 d b hb; simp [upC, hno] at hc
  let β' : Beta := fun l d' => if l = 0 ∧ d' = d then some b else β l d'
  have hle : ∀ l d' b, β l d' = some b → β' l d' = some b := by
    intro l d' b hb
    show (if l = 0 ∧ d' = d then _ else _) = _
    rw [if_neg]; exact hb
    rintro ⟨rfl, rfl⟩; rw [hb0] at hb; cases hb
  have hnew : ∀ l d' b', β l d' = some b' → b' ≠ b := by
    intro l d' b' hb e
    obtain ⟨c, hc⟩ := r.mem.keys l d' b' hb
    obtain ⟨b'', arr, el, h1, h2, _, _, _, _, h7⟩ := r.mem.cell l d' c hc
    rw [hb] at h1; cases h1
    exact h7 (e ▸ hY)
  refine ⟨_, β', h, ⟨fun i => ?_, r0.df, r.nt, ⟨fun l d' c' hc' => ?_, fun l d' l' d'' b hb hb' => ?_, fun l d' b hb => ?_, r0.mem.im, r0.mem.glo, r0.mem.xb, r0.mem.gz⟩, ⟨fun t g hg => ?_, r.own.inj⟩⟩, ⟨fun l => ?_, fun _ => rfl⟩⟩
  · simp only [look_cons]
    split
    · rename_i e; subst e
      rw [ha]
      exact .ptr 0 d 0 _ (by show (if _ then _ else _) = _; simp)
    · exact (r.tm i).mono (fun _ _ h => h) hle (fun _ _ h => h)
  · by_cases hld : l = 0 ∧ d' = d
    · obtain ⟨rfl, rfl⟩ := hld
      simp [upC, lookC_cons] at hc'; subst hc'
      refine ⟨b, vs, el, by show (if _ then _ else _) = _; simp, hh, hc.1.symm, hc.2.1, fun j x hx => ?_, hI, hX⟩
      have := (hc.2.2 j x hx).mono (fun _ _ h => h) hle (fun _ _ h => h)
      simpa using this
    · have hc'' : lookC (upC (ce :: up) l) d' = some c' := by
        cases l with
        | zero => simp only [upC, lookC_cons] at hc' ⊢; rw [if_neg (fun e => hld ⟨rfl, e.symm⟩)] at hc'; exact hc'
        | succ l => exact hc'
      obtain ⟨b, arr, el', h1, h2, h3, h4, h5, h6⟩ := r0.mem.cell l d' c' hc''
      exact ⟨b, arr, el', hle _ _ _ h1, h2, h3, h4, fun j x hx => (h5 j x hx).mono (fun _ _ h => h) (fun l' d0 b0 h => hle _ _ _ h) (fun _ _ h => h), h6⟩
  · have hb : (if l = 0 ∧ d' = d then some _ else β l d') = some b := hb
    have hb' : (if l' = 0 ∧ d'' = d then some _ else β l' d'') = some b := hb'
    split at hb <;> split at hb'
    · rename_i h1 h2; exact ⟨by omega, by omega⟩
    · cases hb; exact absurd rfl (hnew _ _ _ hb')
    · cases hb'; exact absurd rfl (hnew _ _ _ hb)
    · exact r.mem.inj _ _ _ _ _ hb hb'
  · have hb : (if l = 0 ∧ d' = d then some _ else β l d') = some b := hb
    split at hb
    · rename_i h; obtain ⟨rfl, rfl⟩ := h; exact ⟨c, by simp [upC, lookC_cons]⟩
    · obtain ⟨c', hc'⟩ := r.mem.keys l d' b hb
      cases l with
      | zero => simp only [upC] at hc' ⊢; rw [lookC_cons]; split <;> exact ⟨_, by first | rfl | exact hc'⟩
      | succ l => exact ⟨c', hc'⟩
  · obtain ⟨cur, h1, h2, h3, h4, h5, h6, h7⟩ := r.own.row t g hg
    refine ⟨cur, h1, h2, h3, h4, h5, fun hx => h6 (hXY _ hx), fun l d' hb => ?_⟩
    have hb : (if l = 0 ∧ d' = d then some b else β l d') = some g.b := hb
    split at hb
    · cases hb; exact h6 hY
    · exact h7 l d' hb
  · funext d'
    show (if l + 1 = 0 ∧ d' = d then _ else _) = _
    rw [if_neg (by omega)]

theorem Oper.wp_put {P : Program} {o : Oper} {a : Act} {w : World} {K : Act → World → Prop} {Q : Exit → Act → World → Prop} (h : o.wp P a w K Q) :
    o.wp P a w (fun a' w' => K a' w' ∧ ∀ t, o.dst ≠ some t → a'.tmps.getD t undef = a.tmps.getD t undef) Q := by
  have hp : ∀ (a : Act) v t, o.dst ≠ some t → (a.put o.dst v).tmps.getD t undef = a.tmps.getD t undef := by
    intro a v t ht
    cases hd : o.dst with
    | none => rfl
    | some d =>
      have hne : d ≠ t := fun e => ht (by rw [hd, e])
      simp only [Act.put, Array.getD_eq_getD_getElem?]
      rw [Array.getElem?_setIfInBounds_ne hne]
  unfold Oper.wp at *
  generalize (execOp a.eval o).run P w = r at *
  cases r with
  | ok n w' =>
    cases n <;> simp only [Oper.upon] at h ⊢
    case value u => exact ⟨h, hp _ _⟩
    case skip => exact ⟨h, hp _ _⟩
    case defer d => exact ⟨h, hp _ _⟩
    case enter f args =>
      refine Calls.mono h fun e w'' he => ?_
      cases e with
      | returned u => exact ⟨he, hp _ _⟩
      | panicked c => exact he
      | outgrown => exact he
    case row row args => exact Rows.mono h fun u w'' he => ⟨he, hp _ _⟩
  | halt x w' =>
    cases x <;> simp only [Oper.upon] at h ⊢
    case panic u => exact h

end
end Go.Proofs.YtllmejkmogepjaaGreatDoor.Ix

/-
  Ix20: a region that draws its order: the orders of the front.
-/
namespace Go.Proofs.YtllmejkmogepjaaGreatDoor.Ix
set_option linter.unusedVariables false
set_option linter.unusedSimpArgs false

def Mk (o : Oper) : Prop := (∃ t, o.op = .alloc t) ∨ ∃ t x, o.op = .box t x
def MkAt (ops : Array Oper) (i : Nat) : Prop := ∃ o, ops[i]? = some o ∧ Mk o
def Hid (ops : Array Oper) (p : Nat) (ℓ : Nat → Bool) (bl : Nat → Nat) (b : Nat) : Prop := ∃ i, i < p ∧ ℓ i = true ∧ MkAt ops i ∧ bl i = b

/-- What a cell that the front made holds by now. -/
structure Cont (Γ : Env) (ops : Array Oper) (p : Nat) (ℓ : Nat → Bool) (o : Oper) (d : Nat) (arr : Array Value) (a : Act) : Prop where
  fresh : ∀ t, o.op = .alloc t → (∀ (s : Nat) os t' x, s < p → ops[s]? = some os → ℓ s = true → os.op ≠ .store t' (.tmp d) x) → arr.size = (Γ.T t).size ∧ ∀ I β s, CV I β s (Γ.T t).zero arr
  laid : ∀ t, o.op = .alloc t → ∀ (s : Nat) os t' x, s < p → ops[s]? = some os → ℓ s = true → os.op = .store t' (.tmp d) x → arr = (a.eval x).cells
  box : ∀ t x, o.op = .box t x → arr = (a.eval x).cells

/-- The state when those of 'ℓ' have come up. -/
def some' (S0 : St) (ops : Array Oper) (val : Nat → IV) (p : Nat) (ℓ : Nat → Bool) : St := ⟨tmL S0.tm (dstOf ops.toList) val ℓ p, S0.ce, S0.up⟩

structure Inv (Γ : Env) (ops : Array Oper) (p : Nat) (S0 : St) (val : Nat → IV) (w0 : World) (I0 : Imm) (X : Nat → Prop) (β0 : Beta) (σ0 : Nat → Sig) (ℓ : Nat → Bool) (a : Act) (w : World)
    (I : Imm) (β : Beta) (σ : Nat → Sig) (bl : Nat → Nat) : Prop where
  rel : Rel Γ (some' S0 ops val p ℓ) a w I (fun b => X b ∨ Hid ops p ℓ bl b) β σ
  ext : Ext I0 X w0 I w
  abv : Above β0 β σ0 σ
  x0 : ∀ b, X b → b < w0.heap.size
  blk : ∀ (i : Nat) o d, i < p → ops[i]? = some o → Mk o → o.dst = some d → ℓ i = true → w0.heap.size ≤ bl i ∧ a.tmps.getD d undef = .pointer (some ⟨bl i, 0, none⟩) ∧ (∀ x v, I x = some v → x.block = bl i → False) ∧
    ∃ arr el, w.heap[bl i]? = some (.cells arr el (0, 0)) ∧ Cont Γ ops p ℓ o d arr a
  inj : ∀ i j, i < p → j < p → MkAt ops i → MkAt ops j → ℓ i = true → ℓ j = true → bl i = bl j → i = j

section
variable {C : Con} {Γ : Env} {fl : Option (List Nat)} {ops : Array Oper} {p : Nat} {S0 : St} {val : Nat → IV} {act : Nat → Bool} {w0 : World} {I0 : Imm} {X : Nat → Prop} {β0 : Beta} {σ0 : Nat → Sig} {ℓ : Nat → Bool} {a : Act} {w : World}
  {I : Imm} {β : Beta} {σ : Nat → Sig} {bl : Nat → Nat} {cr : List Nat}

theorem dst_of {i : Nat} {o : Oper} (ho : ops[i]? = some o) : dstOf ops.toList i = o.dst := by
  rw [dstOf_eq]; simp [ho]

theorem look_agree (k : DOK ops p fl) (hdc : DC ops ℓ) {i : Nat} {o : Oper} (ho : ops[i]? = some o) (hi : i < p) (hl : ∀ j, bindOn o j = true → ℓ j = true) {t : Nat} (ht : t ∈ looks ops.toList o) :
    look (some' S0 ops val p ℓ).tm t = look (lex S0 ops.toList val i).tm t := by
  simp only [some', lex]
  by_cases h : ∃ j, j < p ∧ dstOf ops.toList j = some t
  · obtain ⟨j, hj, hd⟩ := h
    obtain ⟨h1, h2⟩ := k.look i o ho hi t ht j hj hd
    rw [look_tmL_some (i := j) (fun j' hj' hd' => k.dst j' j t hj' hj hd' hd) hj (hl j h2) hd,
      look_tmL_some (i := j) (fun j' hj' hd' => k.dst j' j t (by omega) hj hd' hd) h1 rfl hd]
  · rw [look_tmL_none (fun j hj _ hd => h ⟨j, hj, hd⟩), look_tmL_none (fun j hj _ hd => h ⟨j, by omega, hd⟩)]

theorem look_upd (k : DOK ops p fl) {i : Nat} {o : Oper} (ho : ops[i]? = some o) (hi : i < p) (hn : ℓ i = false) (t : Nat) :
    look (some' S0 ops val p (setF ℓ i true)).tm t = look (putS (some' S0 ops val p ℓ) o.dst (val i)).tm t := by
  have hd := dst_of ho
  have hne : ∀ t, o.dst ≠ some t → look (some' S0 ops val p (setF ℓ i true)).tm t = look (some' S0 ops val p ℓ).tm t := by
    intro t hne
    simp only [some']
    by_cases h : ∃ j, j < p ∧ ℓ j = true ∧ dstOf ops.toList j = some t
    · obtain ⟨j, hj, hlj, hdj⟩ := h
      rw [look_tmL_some (i := j) (fun j' hj' hd' => k.dst j' j t hj' hj hd' hdj) hj hlj hdj,
        look_tmL_some (i := j) (fun j' hj' hd' => k.dst j' j t hj' hj hd' hdj) hj (by unfold setF; split <;> simp [hlj]) hdj]
    · rw [look_tmL_none (fun j hj hl hd' => h ⟨j, hj, hl, hd'⟩), look_tmL_none (fun j hj hl hd' => ?_)]
      unfold setF at hl
      split at hl
      · rename_i e; subst e; rw [hd] at hd'; exact hne hd'
      · exact h ⟨j, hj, hl, hd'⟩
  cases hdo : o.dst with
  | none => simp only [putS]; exact hne t (by rw [hdo]; nofun)
  | some d =>
    simp only [putS, look_cons]
    split
    · rename_i e; subst e
      simp only [some']
      rw [hdo] at hd
      exact look_tmL_some (i := i) (fun j' hj' hd' => k.dst j' i d hj' hi hd' hd) hi (setF_self _ _ _) hd
    · rename_i hne'
      exact hne t (by rw [hdo]; intro e; cases e; exact hne' rfl)

/-- Tags lie only in what hangs on what hands them out. -/
theorem tag_listed (k : DOK ops p fl) (hf : ∀ (j : Nat) o, j < p → ops[j]? = some o → Fact C Γ ops.toList cr S0 val act j o) (hn : noTags cr S0) (hdc : DC ops ℓ)
    {i d : Nat} (hi : i < p) (hdi : dstOf ops.toList i = some d) (hcr : d ∈ cr) : ∀ (n j : Nat), j < n → j < p → ℓ j = true → (∃ d', dstOf ops.toList j = some d') → hasTag d (val j) = true → ℓ i = true
  | n + 1, j, hjn, hj, hl, ⟨d', hd'⟩, ht => by
    have hjs : j < ops.size := by have := k.le; omega
    have ho : ops[j]? = some ops[j] := by simp [hjs]
    generalize ops[j] = o at ho
    have F := hf j o hj ho
    have hdo := dst_of ho
    cases hact : act j with
    | false => rw [F.off hact] at ht; cases ht
    | true =>
      by_cases h1 : ∃ t, o.op = .alloc t
      · obtain ⟨t, h1⟩ := h1; rw [(F.alloc hact t h1).2] at ht; cases ht
      · by_cases h2 : ∃ t x, o.op = .box t x
        · obtain ⟨t, x, h2⟩ := h2; rw [(F.box hact t x h2).2] at ht; cases ht
        · by_cases h3 : ∃ t a x, o.op = .store t a x
          · obtain ⟨t, a, x, h3⟩ := h3
            obtain ⟨_, _, e, _⟩ := k.st j o t a x ho hj h3
            rw [hdo, e] at hd'; cases hd'
          · obtain ⟨_, hto⟩ := F.other hact (fun t e => h1 ⟨t, e⟩) (fun t x e => h2 ⟨t, x, e⟩) (fun t a x e => h3 ⟨t, a, x, e⟩)
            have hmem : ∀ (cr : List Nat), d ∈ cr → tagOK cr (lex S0 ops.toList val j) o (val j) = true →
                o.dst = some d ∨ opTag d (lex S0 ops.toList val j) o.op.operands.toList = true := by
              intro cr
              induction cr with
              | nil => intro h; cases h
              | cons e r ih =>
                intro hm hok
                simp only [tagOK, Bool.and_eq_true, Bool.or_eq_true] at hok
                rcases List.mem_cons.1 hm with rfl | hm
                · rcases hok.1 with (h | h) | h
                  · left
                    split at h
                    · rename_i d2 hd2; rw [(beq_iff _ _).1 h, hd2]
                    · cases h
                  · rw [ht] at h; cases h
                  · exact .inr h
                · exact ih hm hok.2
            rcases hmem cr hcr hto with he | hop
            · have := k.dst i j d hi hj hdi (by rw [hdo, he])
              subst this; exact hl
            · have hex : ∀ (l : List Operand), opTag d (lex S0 ops.toList val j) l = true → ∃ t, t ∈ opTs l ∧ hasTag d (look (lex S0 ops.toList val j).tm t) = true := by
                intro l
                induction l with
                | nil => intro h; cases h
                | cons x r ih =>
                  intro h
                  cases x <;> simp only [opTag, Bool.or_eq_true] at h
                  case tmp t =>
                    rcases h with h | h
                    · exact ⟨t, by simp [opTs, opT], h⟩
                    · obtain ⟨t', h1, h2⟩ := ih h; exact ⟨t', by simp [opTs, h1], h2⟩
                  all_goals (obtain ⟨t', h1, h2⟩ := ih h; exact ⟨t', by simp [opTs, h1], h2⟩)
              obtain ⟨t, ht1, ht2⟩ := hex _ hop
              have htl : t ∈ looks ops.toList o := by simp only [looks, List.mem_append]; exact .inl ht1
              by_cases h : ∃ e, e < p ∧ dstOf ops.toList e = some t
              · obtain ⟨e, he, hde⟩ := h
                obtain ⟨g1, g2⟩ := k.look j o ho hj t htl e he hde
                simp only [lex] at ht2
                rw [look_tmL_some (i := e) (fun j' hj' hd' => k.dst j' e t (by omega) he hd' hde) g1 rfl hde] at ht2
                exact tag_listed k hf hn hdc hi hdi hcr n e (by omega) he (hdc j o ho hl e g2) ⟨t, hde⟩ ht2
              · simp only [lex] at ht2
                rw [look_tmL_none (fun j' hj' _ hd' => h ⟨j', by omega, hd'⟩)] at ht2
                rw [tmTag_spec d S0.tm (hn d hcr).1 t] at ht2; cases ht2

theorem tmTag_tmL {d : Nat} (h0 : tmTag d S0.tm = false) : ∀ {n : Nat}, (∀ j, j < n → ℓ j = true → (∃ d', dstOf ops.toList j = some d') → hasTag d (val j) = false) → tmTag d (tmL S0.tm (dstOf ops.toList) val ℓ n) = false
  | 0, _ => h0
  | n + 1, h => by
    have ih := tmTag_tmL h0 (n := n) fun j hj => h j (by omega)
    simp only [tmL]
    split
    · rename_i d' h1 h2
      simp only [tmTag, Bool.or_eq_false_iff]
      exact ⟨h n (by omega) h1 ⟨d', h2⟩, ih⟩
    · exact ih

theorem creators_mem {l : List Oper} {o : Oper} {d : Nat} (hm : o ∈ l) (hc : creates o = true) (hd : o.dst = some d) : d ∈ creators l := by
  induction l with
  | nil => cases hm
  | cons y r ih =>
    unfold creators
    rcases List.mem_cons.1 hm with rfl | hm
    · rw [hc, hd]; simp
    · have := ih hm
      split
      · exact List.mem_cons_of_mem _ this
      · exact this

theorem DC.upd (hdc : DC ops ℓ) {i : Nat} {o : Oper} (ho : ops[i]? = some o) (hl : ∀ j, bindOn o j = true → ℓ j = true) : DC ops (setF ℓ i true) := by
  intro j oj hoj hlj k hk
  unfold setF at hlj ⊢
  split at hlj
  · rename_i e; subst e
    rw [ho] at hoj; cases hoj
    have := hl k hk
    split <;> simp [this]
  · have := hdc j oj hoj hlj k hk
    split <;> simp [this]

/-- What an operation that has come up looks at is not written later. -/
theorem looked (k : DOK ops p fl) (hdc : DC ops ℓ) {s i : Nat} {os o : Oper} (hos : ops[s]? = some os) (hs : s < p) (hls : ℓ s = true) (ho : ops[i]? = some o) (hi : i < p) (hn : ℓ i = false) {t : Nat} (ht : t ∈ looks ops.toList os) : o.dst ≠ some t := by
  intro e
  obtain ⟨_, h2⟩ := k.look s os hos hs t ht i hi (by rw [dst_of ho, e])
  have := hdc s os hos hls i h2
  rw [hn] at this; cases this

theorem eval_same {a' : Act} {x : Operand} (h : ∀ t, t ∈ opT x → a'.tmps.getD t undef = a.tmps.getD t undef) : a'.eval x = a.eval x := by
  cases x with
  | tmp t => exact h t (by simp [opT])
  | _ => rfl

theorem store_looks {os : Oper} {t : Nat} {y x : Operand} (h : os.op = .store t y x) {u : Nat} (hu : u ∈ opT x) (all : List Oper) : u ∈ looks all os := by
  simp only [looks, h, List.mem_append]
  exact .inl (mem_opTs (x := x) (by simp [Op.operands]) hu)

theorem box_looks {os : Oper} {t : Nat} {x : Operand} (h : os.op = .box t x) {u : Nat} (hu : u ∈ opT x) (all : List Oper) : u ∈ looks all os := by
  simp only [looks, h, List.mem_append]
  exact .inl (mem_opTs (x := x) (by simp [Op.operands]) hu)

/-- The contents told stay as they are when an operation comes up that stores nothing in them. -/
theorem Cont.keep (k : DOK ops p fl) (hdc : DC ops ℓ) {j i : Nat} {oj o : Oper} {d : Nat} {arr : Array Value} {a' : Act} (hoj : ops[j]? = some oj) (hj : j < p) (hlj : ℓ j = true) (ho : ops[i]? = some o) (hi : i < p) (hn : ℓ i = false)
    (hns : ∀ t x, o.op ≠ .store t (.tmp d) x) (ha : ∀ t, o.dst ≠ some t → a'.tmps.getD t undef = a.tmps.getD t undef) (c : Cont Γ ops p ℓ oj d arr a) : Cont Γ ops p (setF ℓ i true) oj d arr a' := by
  refine ⟨fun t e h => c.fresh t e fun s os t' x hs hos hl => h s os t' x hs hos (by unfold setF; split <;> simp [hl]), fun t e s os t' x hs hos hl hop => ?_, fun t x e => ?_⟩
  · unfold setF at hl
    split at hl
    · rename_i e'; subst e'; rw [ho] at hos; cases hos; exact absurd hop (hns t' x)
    · rw [c.laid t e s os t' x hs hos hl hop]
      rw [eval_same fun u hu => ha u (looked k hdc hos hs hl ho hi hn (store_looks hop hu _))]
  · rw [c.box t x e]
    rw [eval_same fun u hu => ha u (looked k hdc hoj hj hlj ho hi hn (box_looks e hu _))]

/-- The dst of what is made is not written by another one. -/
theorem dst_keep (k : DOK ops p fl) {i j : Nat} {o oj : Oper} {d : Nat} (ho : ops[i]? = some o) (hi : i < p) (hn : ℓ i = false) (hoj : ops[j]? = some oj) (hj : j < p) (hlj : ℓ j = true) (hd : oj.dst = some d) : o.dst ≠ some d := by
  intro e
  have := k.dst i j d hi hj (by rw [dst_of ho, e]) (by rw [dst_of hoj, hd])
  subst this; rw [hn] at hlj; cases hlj

/-- One that makes no cell and stores nothing. -/
theorem Inv.quiet (k : DOK ops p fl) (hdc : DC ops ℓ) {i : Nat} {o : Oper} (ho : ops[i]? = some o) (hi : i < p) (hn : ℓ i = false) (hmk : ¬ Mk o) (hns : ∀ t y x, o.op ≠ .store t y x)
    (v : Inv Γ ops p S0 val w0 I0 X β0 σ0 ℓ a w I β σ bl) {a' : Act} {w' : World} {I' : Imm} {β' : Beta} {σ' : Nat → Sig}
    (hr : Rel Γ (putS (some' S0 ops val p ℓ) o.dst (val i)) a' w' I' (fun b => X b ∨ Hid ops p ℓ bl b) β' σ') (he : Ext I (fun b => X b ∨ Hid ops p ℓ bl b) w I' w') (hab : Above β β' σ σ')
    (ha : ∀ t, o.dst ≠ some t → a'.tmps.getD t undef = a.tmps.getD t undef) : Inv Γ ops p S0 val w0 I0 X β0 σ0 (setF ℓ i true) a' w' I' β' σ' bl := by
  have hmi : ¬ MkAt ops i := fun ⟨o', h1, h2⟩ => by rw [ho] at h1; cases h1; exact hmk h2
  have hup : ∀ j, MkAt ops j → setF ℓ i true j = true → ℓ j = true := fun j hm h => by
    unfold setF at h
    split at h
    · rename_i e; subst e; exact absurd hm hmi
    · exact h
  refine ⟨(hr.congr (look_upd k ho hi hn) (by cases o.dst <;> rfl) (by cases o.dst <;> rfl)).sub fun b hb => ?_, v.ext.trans (he.sub fun b hb => .inl hb), v.abv.trans hab, v.x0, fun j oj d hj hoj hm hd hl => ?_, fun i' j' hi' hj' hm hm' hl hl' => v.inj i' j' hi' hj' hm hm' (hup _ hm hl) (hup _ hm' hl')⟩
  · rcases hb with hb | ⟨j, h1, h2, h3, h4⟩
    · exact .inl hb
    · exact .inr ⟨j, h1, hup j h3 h2, h3, h4⟩
  · have hlj := hup j ⟨oj, hoj, hm⟩ hl
    obtain ⟨h1, h2, h3, arr, el, h4, h5⟩ := v.blk j oj d hj hoj hm hd hlj
    have hhid : X (bl j) ∨ Hid ops p ℓ bl (bl j) := .inr ⟨j, hj, hlj, ⟨oj, hoj, hm⟩, rfl⟩
    refine ⟨h1, by rw [ha d (dst_keep k ho hi hn hoj hj hlj hd)]; exact h2, fun x u hx hb => ?_, arr, el, by rw [he.keep _ hhid]; exact h4, h5.keep k hdc hoj hj hlj ho hi hn (fun t x => hns t _ x) ha⟩
    have : I' x = I x := he.new x (by rw [hb]; exact hhid)
    rw [this] at hx
    exact h3 x u hx hb

/-- One that makes a cell. -/
theorem Inv.makes (k : DOK ops p fl) (hdc : DC ops ℓ) {i : Nat} {o : Oper} {d : Nat} (ho : ops[i]? = some o) (hi : i < p) (hn : ℓ i = false) (hl : ∀ j, bindOn o j = true → ℓ j = true) (hmk : Mk o) (hd : o.dst = some d) (hnt : d < Γ.nt) (hv : val i = .dead)
    (v : Inv Γ ops p S0 val w0 I0 X β0 σ0 ℓ a w I β σ bl) {arr : Array Value} {el : Nat}
    (hc : (∀ t, o.op = .alloc t → arr.size = (Γ.T t).size ∧ ∀ I β s, CV I β s (Γ.T t).zero arr) ∧ ∀ t x, o.op = .box t x → arr = (a.eval x).cells) :
    ∃ bl', Inv Γ ops p S0 val w0 I0 X β0 σ0 (setF ℓ i true) (a.put (some d) (.pointer (some ⟨w.heap.size, 0, none⟩))) (w.alloc (.cells arr el)) I β σ bl' := by
  have hmi : MkAt ops i := ⟨o, ho, hmk⟩
  have hlt : ∀ j, j < p → MkAt ops j → ℓ j = true → bl j < w.heap.size := fun j hj hm hl => v.rel.mem.xb (bl j) (.inr ⟨j, hj, hl, hm, rfl⟩)
  have hput : ∀ t, o.dst ≠ some t → (a.put (some d) (.pointer (some ⟨w.heap.size, 0, none⟩))).tmps.getD t undef = a.tmps.getD t undef := fun t ht => by
    have hne : d ≠ t := fun e => ht (by rw [hd, e])
    simp only [Act.put, Array.getD_eq_getD_getElem?]
    rw [Array.getElem?_setIfInBounds_ne hne]
  have hcases : ∀ j, setF ℓ i true j = true → j = i ∨ (j ≠ i ∧ ℓ j = true) := fun j h => by
    unfold setF at h
    split at h
    · rename_i e; exact .inl e
    · rename_i e; exact .inr ⟨e, h⟩
  refine ⟨setF bl i w.heap.size, ?_, v.ext.trans (.alloc I X w _ fun b hb => v.rel.mem.xb b (.inl hb)), v.abv, v.x0, fun j oj dj hj hoj hm hdj hlj => ?_, fun i' j' hi' hj' hm hm' hl1 hl2 hb => ?_⟩
  · have r1 := v.rel.hide (.cells arr el) (Y := fun b => X b ∨ Hid ops p (setF ℓ i true) (setF bl i w.heap.size) b) (fun b hb => by
      rcases hb with hb | ⟨j, h1, h2, h3, h4⟩
      · exact .inl (.inl hb)
      · rcases hcases j h2 with e | ⟨e, h2⟩
        · subst e; right; rw [← h4, setF_self]
        · left; right; exact ⟨j, h1, h2, h3, by rw [← h4]; simp [setF, e]⟩)
    have r2 := r1.put (iv := .dead) (v := .pointer (some ⟨w.heap.size, 0, none⟩)) hnt (.data (.dead _))
    refine r2.congr (fun t => ?_) rfl rfl
    rw [look_upd k ho hi hn t, hd, hv]; rfl
  · rcases hcases j hlj with e | ⟨e, hlj'⟩
    · subst e
      rw [ho] at hoj; cases hoj
      rw [hd] at hdj; cases hdj
      rw [setF_self]
      have hdn : d < a.tmps.size := by have := v.rel.nt; omega
      refine ⟨v.ext.size, by simp [Act.put, hdn], fun x u hx hb => ?_, arr, el, heap_alloc_new w _, ⟨fun t e _ => hc.1 t e, fun t e s os t' x hs hos hls hop => ?_, fun t x e => ?_⟩⟩
      · have := World.block_lt_of_cell? w x (v.rel.mem.im x u hx)
        omega
      · -- nothing was stored in it before
        rcases hcases s hls with es | ⟨es, hls⟩
        · subst es; rw [ho] at hos; cases hos; rw [e] at hop; cases hop
        · have hmem : d ∈ looks ops.toList os := by
            simp only [looks, hop, List.mem_append]
            exact .inl (mem_opTs (x := .tmp d) (by simp [Op.operands]) (by simp [opT]))
          obtain ⟨_, h2⟩ := k.look s os hos hs d hmem j hj (by rw [dst_of ho, hd])
          have := hdc s os hos hls j h2
          rw [hn] at this; cases this
      · rw [hc.2 t x e]
        refine congrArg Value.cells (eval_same (a := a) fun u hu => hput u fun e' => ?_).symm
        obtain ⟨h1, _⟩ := k.look j o ho hi u (box_looks e hu _) j hj (by rw [dst_of ho, e'])
        omega
    · obtain ⟨h1, h2, h3, arr', el', h4, h5⟩ := v.blk j oj dj hj hoj hm hdj hlj'
      have hb : setF bl i w.heap.size j = bl j := by simp [setF, e]
      rw [hb]
      refine ⟨h1, by rw [hput dj (dst_keep k ho hi hn hoj hj hlj' hdj)]; exact h2, h3, arr', el', by rw [heap_alloc_old w _ _ (heap_lt h4)]; exact h4, h5.keep k hdc hoj hj hlj' ho hi hn (fun t x e => ?_) hput⟩
      rcases hmk with ⟨t', hm⟩ | ⟨t', x', hm⟩ <;> rw [hm] at e <;> cases e
  · rcases hcases i' hl1 with e | ⟨e, hl3⟩ <;> rcases hcases j' hl2 with e' | ⟨e', hl4⟩
    · rw [e, e']
    · subst e
      rw [setF_self, show setF bl i' w.heap.size j' = bl j' from by simp [setF, e']] at hb
      have := hlt j' hj' hm' hl4; omega
    · subst e'
      rw [setF_self, show setF bl j' w.heap.size i' = bl i' from by simp [setF, e]] at hb
      have := hlt i' hi' hm hl3; omega
    · rw [show setF bl i w.heap.size i' = bl i' from by simp [setF, e], show setF bl i w.heap.size j' = bl j' from by simp [setF, e']] at hb
      exact v.inj i' j' hi' hj' hm hm' hl3 hl4 hb

end
end Go.Proofs.YtllmejkmogepjaaGreatDoor.Ix
