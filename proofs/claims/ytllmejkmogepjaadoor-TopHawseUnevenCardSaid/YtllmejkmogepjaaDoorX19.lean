/-
  Ix19: a region that draws its order: every order of the front comes to the same.
-/
import Derived.Test.YtllmejkmogepjaaDoorX18
namespace Go.Proofs.YtllmejkmogepjaaDoor.Ix
set_option linter.unusedVariables false
set_option linter.unusedSimpArgs false

/-! ### Tags -/

mutual
theorem hasTag_drop (d e : Nat) : ∀ (v : IV), hasTag d v = false ∨ d = e → hasTag d (dropTag e v) = false
  | .lst none _ _ _, _ => rfl
  | .lst (some u) e' n f, h => by
    simp only [dropTag]
    split
    · rfl
    · rename_i hu
      rcases h with h | h
      · exact h
      · subst h; simpa [hasTag] using hu
  | .agg xs, h => by simp only [dropTag, hasTag]; exact hasTagL_drop d e xs (by simpa [hasTag] using h)
  | .tup xs, h => by simp only [dropTag, hasTag]; exact hasTagL_drop d e xs (by simpa [hasTag] using h)
  | .fn f a c, h => by
    simp only [dropTag, hasTag, Bool.or_eq_false_iff]
    exact ⟨hasTagL_drop d e a (by rcases h with h | h; · simp [hasTag] at h; exact .inl h.1
                                  · exact .inr h), hasTagL_drop d e c (by rcases h with h | h; · simp [hasTag] at h; exact .inl h.2
                                                                          · exact .inr h)⟩
  | .int _ _, _ | .bool _, _ | .str _, _ | .lit _, _ | .nilS, _ | .ptr _ _ _, _ | .vptr _ _ _ _ _, _ | .dead, _ => rfl
  | .raw u _ _, h => by
    simp only [dropTag]
    split
    · rfl
    · rename_i hu
      rcases h with h | h
      · exact h
      · subst h; simpa [hasTag] using hu
theorem hasTagL_drop (d e : Nat) : ∀ (l : List IV), hasTagL d l = false ∨ d = e → hasTagL d (dropTagL e l) = false
  | [], _ => rfl
  | x :: r, h => by
    simp only [dropTagL, hasTagL, Bool.or_eq_false_iff]
    exact ⟨hasTag_drop d e x (by rcases h with h | h; · simp [hasTagL] at h; exact .inl h.1
                                 · exact .inr h), hasTagL_drop d e r (by rcases h with h | h; · simp [hasTagL] at h; exact .inl h.2
                                                                         · exact .inr h)⟩
end

theorem tmTag_drop (d e : Nat) : ∀ (l : Tms), tmTag d l = false ∨ d = e → tmTag d (tmDrop e l) = false
  | [], _ => rfl
  | (i, v) :: r, h => by
    simp only [tmDrop, tmTag, Bool.or_eq_false_iff]
    exact ⟨hasTag_drop d e v (by rcases h with h | h; · simp [tmTag] at h; exact .inl h.1
                                 · exact .inr h), tmTag_drop d e r (by rcases h with h | h; · simp [tmTag] at h; exact .inl h.2
                                                                       · exact .inr h)⟩
theorem ceTag_drop (d e : Nat) : ∀ (l : Ces), ceTag d l = false ∨ d = e → ceTag d (ceDrop e l) = false
  | [], _ => rfl
  | (i, v) :: r, h => by
    simp only [ceDrop, ceTag, Bool.or_eq_false_iff]
    exact ⟨hasTagL_drop d e v (by rcases h with h | h; · simp [ceTag] at h; exact .inl h.1
                                  · exact .inr h), ceTag_drop d e r (by rcases h with h | h; · simp [ceTag] at h; exact .inl h.2
                                                                        · exact .inr h)⟩

def noTags (ds : List Nat) (S : St) : Prop := ∀ d ∈ ds, tmTag d S.tm = false ∧ ceTag d S.ce = false

section
variable {Γ : Env} {S : St} {a : Act} {w : World} {I : Imm} {X : Nat → Prop} {β : Beta} {σ : Nat → Sig} {K : St → Prop}

theorem untag_keeps {t : Nat} (h : untag t S K) : ∃ S', K S' ∧ (∀ d, (tmTag d S.tm = false ∨ d = t) → tmTag d S'.tm = false) ∧ (∀ d, (ceTag d S.ce = false ∨ d = t) → ceTag d S'.ce = false) ∧ untag t S (fun S2 => S2 = S') := by
  obtain ⟨tm, ce, up⟩ := S
  simp only [untag] at h ⊢
  split at h
  · rename_i hh
    exact ⟨_, h, fun d hd => tmTag_drop d t tm hd, fun d hd => ceTag_drop d t ce hd, rfl⟩
  · rename_i hn
    simp at hn
    exact ⟨_, h, fun d hd => by rcases hd with hd | rfl; · exact hd
                                · exact hn.1, fun d hd => by rcases hd with hd | rfl; · exact hd
                                                             · exact hn.2, rfl⟩

theorem untagL_sound : ∀ (ds ds0 : List Nat) (S : St) (σ : Nat → Sig), untagL ds K S → noTags ds0 S → Rel Γ S a w I X β σ → ∃ S' σ', K S' ∧ Rel Γ S' a w I X β σ' ∧ (∀ l, σ' (l + 1) = σ (l + 1)) ∧ noTags (ds ++ ds0) S'
  | [], ds0, S, σ, h, hn, r => ⟨S, σ, h, r, fun _ => rfl, hn⟩
  | d :: ds, ds0, S, σ, h, hn, r => by
    simp only [untagL] at h
    obtain ⟨S', hk, k1, k2, k3⟩ := untag_keeps h
    obtain ⟨S2, e, r', _, _⟩ := untag_sound k3 r
    subst e
    obtain ⟨S3, σ3, h1, h2, h3, h4⟩ := untagL_sound ds (d :: ds0) S2 _ hk (fun e he => by
      rcases List.mem_cons.1 he with rfl | he
      · exact ⟨k1 _ (.inr rfl), k2 _ (.inr rfl)⟩
      · exact ⟨k1 _ (.inl (hn e he).1), k2 _ (.inl (hn e he).2)⟩) r'
    exact ⟨S3, σ3, h1, h2, h3, fun e he => h4 e (by simp at he ⊢; rcases he with rfl | he | he <;> simp [*])⟩

/-! ### Small laws -/

theorem Rel.congr {S' : St} (r : Rel Γ S a w I X β σ) (h : ∀ t, look S'.tm t = look S.tm t) (hc : S'.ce = S.ce) (hu : S'.up = S.up) : Rel Γ S' a w I X β σ :=
  ⟨fun i => by rw [h]; exact r.tm i, r.df, r.nt, by rw [hc, hu]; exact r.mem, r.own⟩

theorem Rel.sub {Y : Nat → Prop} (r : Rel Γ S a w I Y β σ) (h : ∀ b, X b → Y b) : Rel Γ S a w I X β σ :=
  ⟨r.tm, r.df.to (fun _ _ h _ => h) (fun _ _ h hx => h (‹∀ b, X b → Y b› _ hx)), r.nt, ⟨fun l d c hc => by obtain ⟨b, arr, el, h1, h2, h3, h4, h5, h6, h7⟩ := r.mem.cell l d c hc; exact ⟨b, arr, el, h1, h2, h3, h4, h5, h6, fun hx => h7 (h b hx)⟩,
    r.mem.inj, r.mem.keys, r.mem.im, r.mem.glo, fun b hb => r.mem.xb b (h b hb)⟩,
   ⟨fun t g hg => by obtain ⟨cur, k1, k2, k3, k4, k5, k6, k7⟩ := r.own.row t g hg; exact ⟨cur, k1, k2, k3, k4, k5, fun hx => k6 (h _ hx), k7⟩, r.own.inj⟩⟩

/-- A new block, nobody's. -/
theorem hideAux {Y : Nat → Prop} (r : Rel Γ S a w I X β σ) (o : Obj) (h : ∀ b, Y b → X b ∨ b = w.heap.size) {D : Nat} (hs : D ≠ w.heap.size) (hx : ¬ X D) : ¬ Y D := by
  intro hy
  rcases h D hy with h | h
  · exact hx h
  · exact hs h

theorem Rel.hide {Y : Nat → Prop} (r : Rel Γ S a w I X β σ) (o : Obj) (h : ∀ b, Y b → X b ∨ b = w.heap.size) : Rel Γ S a (w.alloc o) I Y β σ := by
  have r' := r.alloc o
  refine ⟨r'.tm, (r.df.to (w' := w.alloc o) (Y := Y) (fun k o' hk _ => by rw [heap_alloc_old w o k (heap_lt hk)]; exact hk) (fun D hD hx => hideAux r o h (by have := heap_lt hD; omega) hx)), r'.nt, ⟨fun l d c hc => ?_, r'.mem.inj, r'.mem.keys, r'.mem.im, r'.mem.glo, fun b hb => ?_⟩, ⟨fun t g hg => ?_, r'.own.inj⟩⟩
  · obtain ⟨b, arr, el, h1, h2, h3, h4, h5, h6, h7⟩ := r.mem.cell l d c hc
    refine ⟨b, arr, el, h1, by rw [heap_alloc_old w o b (heap_lt h2)]; exact h2, h3, h4, h5, h6, fun hy => ?_⟩
    rcases h b hy with hx | hx
    · exact h7 hx
    · have := heap_lt h2; omega
  · rcases h b hb with hx | hx
    · have := r.mem.xb b hx; simp; omega
    · simp; omega
  · obtain ⟨cur, k1, k2, k3, k4, k5, k6, k7⟩ := r.own.row t g hg
    refine ⟨cur, by rw [heap_alloc_old w o _ (heap_lt k1)]; exact k1, k2, k3, k4, k5, fun hy => ?_, k7⟩
    rcases h _ hy with hx | hx
    · exact k6 hx
    · have := heap_lt k1; omega

theorem Rel.lays {b : Nat} (r : Rel Γ S a w I X β σ) (hX : X b) (hI : ∀ j, I ⟨b, j, none⟩ = none) (hI' : ∀ x v, I x = some v → x.block = b → False) (arr : Array Value) : Rel Γ S a (w.setRow b arr) I X β σ := by
  refine ⟨r.tm, r.df.to (setRow_fix w b arr) (fun _ _ h => h), r.nt, ⟨fun l d c hc => ?_, r.mem.inj, r.mem.keys, fun x v hx => ?_, r.mem.glo, fun b hb => by simpa using r.mem.xb b hb⟩, ⟨fun t g hg => ?_, r.own.inj⟩⟩
  · obtain ⟨b', arr', el, h1, h2, h3, h4, h5, h6, h7⟩ := r.mem.cell l d c hc
    refine ⟨b', arr', el, h1, ?_, h3, h4, h5, h6, h7⟩
    rw [setRow_other w b b' arr (fun e => h7 (e ▸ hX))]; exact h2
  · have hb : x.block ≠ b := fun e => hI' x v hx e
    have := r.mem.im x v hx
    rw [← this]
    unfold World.cell?
    rw [setRow_other w b x.block arr hb]
  · obtain ⟨cur, k1, k2, k3, k4, k5, k6, k7⟩ := r.own.row t g hg
    refine ⟨cur, ?_, k2, k3, k4, k5, k6, k7⟩
    rw [setRow_other w b g.b arr (fun e => k6 (e ▸ hX))]; exact k1

/-- A cell that stands in memory already, told from now on. -/
theorem adopt_sound {d b el : Nat} {c : List IV} {vs : Array Value} {Y : Nat → Prop} (h : newC Γ S d c K) (r : Rel Γ S a w I Y β σ) (hY : Y b) (hXY : ∀ b, X b → Y b) (hX : ¬ X b)
    (hh : w.heap[b]? = some (.cells vs el (0, 0))) (hI : ∀ j, I ⟨b, j, none⟩ = none) (ha : a.tmps.getD d undef = .pointer (some ⟨b, 0, none⟩)) (hc : CV I β (σ 0) c vs) :
    ∃ S' β', K S' ∧ Rel Γ S' a w I X β' σ ∧ Above β β' σ σ := by
  have r0 := r.sub hXY
  obtain ⟨tm, ce, up⟩ := S
  simp only [newC] at h
  split at h
  · exact h.elim
  rename_i hk
  split at h
  case h_2 => exact h.elim
  rename_i hd
  have hno := hasKey_spec ce d hk
  have hb0 : β 0 d = none := by
    cases hb : β 0 d with
    | none => rfl
    | some b => obtain ⟨c, hc⟩ := r.mem.keys 0 d b hb; simp [upC, hno] at hc
  let β' : Beta := fun l d' => if l = 0 ∧ d' = d then some b else β l d'
  have hle : ∀ l d' b, β l d' = some b → β' l d' = some b := by
    intro l d' b hb
    show (if l = 0 ∧ d' = d then _ else _) = _
    rw [if_neg]; exact hb
    rintro ⟨rfl, rfl⟩; rw [hb0] at hb; cases hb
  have hnew : ∀ l d' b', β l d' = some b' → b' ≠ b := by
    intro l d' b' hb e
    obtain ⟨c, hc⟩ := r.mem.keys l d' b' hb
    obtain ⟨b'', arr, el, h1, h2, _, _, _, _, h7⟩ := r.mem.cell l d' c hc
    rw [hb] at h1; cases h1
    exact h7 (e ▸ hY)
  refine ⟨_, β', h, ⟨fun i => ?_, r0.df, r.nt, ⟨fun l d' c' hc' => ?_, fun l d' l' d'' b hb hb' => ?_, fun l d' b hb => ?_, r0.mem.im, r0.mem.glo, r0.mem.xb⟩, ⟨fun t g hg => ?_, r.own.inj⟩⟩, ⟨fun l => ?_, fun _ => rfl⟩⟩
  · simp only [look_cons]
    split
    · rename_i e; subst e
      rw [ha]
      exact .ptr 0 d 0 _ (by show (if _ then _ else _) = _; simp)
    · exact (r.tm i).mono (fun _ _ h => h) hle (fun _ _ h => h)
  · by_cases hld : l = 0 ∧ d' = d
    · obtain ⟨rfl, rfl⟩ := hld
      simp [upC, lookC_cons] at hc'; subst hc'
      refine ⟨b, vs, el, by show (if _ then _ else _) = _; simp, hh, hc.1.symm, hc.2.1, fun j x hx => ?_, hI, hX⟩
      have := (hc.2.2 j x hx).mono (fun _ _ h => h) hle (fun _ _ h => h)
      simpa using this
    · have hc'' : lookC (upC (ce :: up) l) d' = some c' := by
        cases l with
        | zero => simp only [upC, lookC_cons] at hc' ⊢; rw [if_neg (fun e => hld ⟨rfl, e.symm⟩)] at hc'; exact hc'
        | succ l => exact hc'
      obtain ⟨b, arr, el', h1, h2, h3, h4, h5, h6⟩ := r0.mem.cell l d' c' hc''
      exact ⟨b, arr, el', hle _ _ _ h1, h2, h3, h4, fun j x hx => (h5 j x hx).mono (fun _ _ h => h) (fun l' d0 b0 h => hle _ _ _ h) (fun _ _ h => h), h6⟩
  · have hb : (if l = 0 ∧ d' = d then some _ else β l d') = some b := hb
    have hb' : (if l' = 0 ∧ d'' = d then some _ else β l' d'') = some b := hb'
    split at hb <;> split at hb'
    · rename_i h1 h2; exact ⟨by omega, by omega⟩
    · cases hb; exact absurd rfl (hnew _ _ _ hb')
    · cases hb'; exact absurd rfl (hnew _ _ _ hb)
    · exact r.mem.inj _ _ _ _ _ hb hb'
  · have hb : (if l = 0 ∧ d' = d then some _ else β l d') = some b := hb
    split at hb
    · rename_i h; obtain ⟨rfl, rfl⟩ := h; exact ⟨c, by simp [upC, lookC_cons]⟩
    · obtain ⟨c', hc'⟩ := r.mem.keys l d' b hb
      cases l with
      | zero => simp only [upC] at hc' ⊢; rw [lookC_cons]; split <;> exact ⟨_, by first | rfl | exact hc'⟩
      | succ l => exact ⟨c', hc'⟩
  · obtain ⟨cur, h1, h2, h3, h4, h5, h6, h7⟩ := r.own.row t g hg
    refine ⟨cur, h1, h2, h3, h4, h5, fun hx => h6 (hXY _ hx), fun l d' hb => ?_⟩
    have hb : (if l = 0 ∧ d' = d then some b else β l d') = some g.b := hb
    split at hb
    · cases hb; exact h6 hY
    · exact h7 l d' hb
  · funext d'
    show (if l + 1 = 0 ∧ d' = d then _ else _) = _
    rw [if_neg (by omega)]

theorem Oper.wp_put {P : Program} {o : Oper} {a : Act} {w : World} {K : Act → World → Prop} {Q : Exit → Act → World → Prop} (h : o.wp P a w K Q) :
    o.wp P a w (fun a' w' => K a' w' ∧ ∀ t, o.dst ≠ some t → a'.tmps.getD t undef = a.tmps.getD t undef) Q := by
  have hp : ∀ (a : Act) v t, o.dst ≠ some t → (a.put o.dst v).tmps.getD t undef = a.tmps.getD t undef := by
    intro a v t ht
    cases hd : o.dst with
    | none => rfl
    | some d =>
      have hne : d ≠ t := fun e => ht (by rw [hd, e])
      simp only [Act.put, Array.getD_eq_getD_getElem?]
      rw [Array.getElem?_setIfInBounds_ne hne]
  unfold Oper.wp at *
  generalize (execOp a.eval o).run P w = r at *
  cases r with
  | ok n w' =>
    cases n <;> simp only [Oper.upon] at h ⊢
    case value u => exact ⟨h, hp _ _⟩
    case skip => exact ⟨h, hp _ _⟩
    case defer d => exact ⟨h, hp _ _⟩
    case enter f args =>
      refine Calls.mono h fun e w'' he => ?_
      cases e with
      | returned u => exact ⟨he, hp _ _⟩
      | panicked c => exact he
      | outgrown => exact he
    case row row args => exact Rows.mono h fun u w'' he => ⟨he, hp _ _⟩
  | halt x w' =>
    cases x <;> simp only [Oper.upon] at h ⊢
    case panic u => exact h

end
end Go.Proofs.YtllmejkmogepjaaDoor.Ix
