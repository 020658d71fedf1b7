/-
  Ix25: a range over a function.
-/
import Derived.Test.YtllmejkmogepjaaDoorX24
namespace Go.Proofs.YtllmejkmogepjaaDoor.Ix
set_option linter.unusedVariables false
set_option linter.unusedSimpArgs false

section
variable {C : Con} {Γ : Env} {S : St} {a : Act} {w : World} {I : Imm} {X : Nat → Prop} {β : Beta} {σ : Nat → Sig} {K : St → Prop}

theorem Rel.later {X1 : Nat → Prop} {w2 : World} {I2 : Imm} (r : Rel Γ S a w I X β σ) (hX : ∀ b, X b → X1 b) (hβ : ∀ l d b, β l d = some b → X1 b) (hσ : ∀ t g, σ 0 t = some g → X1 g.b) (he : Ext I X1 w I2 w2) (hb : Base Γ.gl w2 I2 X1) : Rel Γ S a w2 I2 X β σ := by
  refine ⟨fun i => (r.tm i).mono he.imm (fun _ _ _ h => h) (fun _ _ h => h), r.df.to he.fix (fun _ _ h => h), r.nt, ⟨fun l d c hc => ?_, r.mem.inj, r.mem.keys, hb.im, hb.glo, fun b h => hb.xb b (hX b h)⟩, ⟨fun t g hg => ?_, r.own.inj⟩⟩
  · obtain ⟨b, arr, el, h1, h2, h3, h4, h5, h6, h7⟩ := r.mem.cell l d c hc
    have hx := hβ l d b h1
    exact ⟨b, arr, el, h1, by rw [he.keep b hx]; exact h2, h3, h4, fun j x hj => (h5 j x hj).mono he.imm (fun _ _ _ h => h) (fun _ _ h => h), fun j => by rw [he.new ⟨b, j, none⟩ hx]; exact h6 j, h7⟩
  · obtain ⟨cur, k1, k2, k3, k4, k5, k6, k7⟩ := r.own.row t g hg
    have hx := hσ t g hg
    exact ⟨cur, by rw [he.keep g.b hx]; exact k1, k2, k3, k4, fun j hj => by rw [he.new ⟨g.b, j, none⟩ hx]; exact k5 j hj, k6, k7⟩

theorem fixed_cells {w : World} {b : Nat} {arr : Array Value} {el : Nat} (h : w.heap[b]? = some (.cells arr el (0, 0))) {l : Nat} {o : Obj} (hl : w.heap[l]? = some o) (ho : fixed o = true) : b ≠ l := by
  intro e; subst e; rw [h] at hl; cases hl; cases ho

theorem cell_put {w : World} {x : Addr} {v : Value} (h : w.cell? x = some v) {l : Nat} {o o' : Obj} (hl : w.heap[l]? = some o) (ho : fixed o = true) : (w.putObj l o').cell? x = some v := by
  have hne : x.block ≠ l := by
    intro e
    unfold World.cell? at h
    rw [e, hl] at h
    cases o <;> first | (cases ho; done) | (simp at h)
  rw [← h]
  exact World.cell?_of_block (World.putObj_heap_other hne)

/-- A loop's record may turn. -/
theorem Rel.putLoop {l : Nat} {o : Loop} (r : Rel Γ S a w I X β σ) (hl : w.heap[l]? = some (.loop o)) (o' : Loop) : Rel Γ S a (w.putObj l (.loop o')) I X β σ := by
  refine ⟨r.tm, ?_, r.nt, ⟨fun l' d c hc => ?_, r.mem.inj, r.mem.keys, fun x v hx => cell_put (r.mem.im x v hx) hl rfl, r.mem.glo, fun b h => by simpa using r.mem.xb b h⟩, ⟨fun t g hg => ?_, r.own.inj⟩⟩
  · obtain ⟨⟨Ds, h1, h2, h3⟩, h4⟩ := r.df
    refine ⟨⟨Ds, h1, h2, fun D hD => ⟨?_, (h3 D hD).2⟩⟩, h4⟩
    have hne : D ≠ l := fun e => by have := (h3 D hD).1; rw [e, hl] at this; cases this
    rw [World.putObj_heap_other hne]; exact (h3 D hD).1
  · obtain ⟨b, arr, el, h1, h2, h3, h4, h5, h6, h7⟩ := r.mem.cell l' d c hc
    exact ⟨b, arr, el, h1, by rw [World.putObj_heap_other (fixed_cells h2 hl rfl)]; exact h2, h3, h4, h5, h6, h7⟩
  · obtain ⟨cur, k1, k2⟩ := r.own.row t g hg
    exact ⟨cur, by rw [World.putObj_heap_other (fixed_cells k1 hl rfl)]; exact k1, k2⟩

theorem Ext.put {w0 : World} {I0 : Imm} (h : Ext I0 X w0 I w) {l : Nat} (hl : w0.heap.size ≤ l) (hX : ∀ b, X b → b < w0.heap.size) (o : Obj) : Ext I0 X w0 I (w.putObj l o) :=
  ⟨h.os, h.tape, h.output, by simpa using h.size, fun b hb => by
      have := hX b hb
      rw [World.putObj_heap_other (by omega)]; exact h.keep b hb,
    h.imm, h.new, fun k o' hk ho => by
      have := (Array.getElem?_eq_some_iff.1 hk).1
      rw [World.putObj_heap_other (by omega)]; exact h.fix k o' hk ho⟩

/-- The temporaries at a round's begin. -/
theorem roundT_rel {β0 : Beta} {s : Sig} : ∀ (ps : List Nat) (xs : List IV) (vs : List Value) (tm : Tms) (tmps : Array Value), xs.length = ps.length → vs.length = ps.length → (∀ p ∈ ps, p < tmps.size) →
    (∀ i, V I β0 s (look tm i) (tmps.getD i undef)) → (∀ (j : Nat) x, xs[j]? = some x → V I β0 s x (vs.getD j undef)) →
    (∀ i, V I β0 s (look (roundT ps xs tm) i) (((ps.zip vs).foldl (fun t (p, v) => t.setIfInBounds p v) tmps).getD i undef)) ∧ ((ps.zip vs).foldl (fun t (p, v) => t.setIfInBounds p v) tmps).size = tmps.size ∧
      ∀ i, i ∉ ps → ((ps.zip vs).foldl (fun t (p, v) => t.setIfInBounds p v) tmps).getD i undef = tmps.getD i undef
  | [], xs, vs, tm, tmps, h1, h2, hp, ht, hx => by
    cases vs with
    | nil => cases xs with
      | nil => exact ⟨by simpa [roundT] using ht, rfl, fun _ _ => rfl⟩
      | cons _ _ => simp at h1
    | cons _ _ => simp at h2
  | p :: ps, [], vs, tm, tmps, h1, h2, hp, ht, hx => by simp at h1
  | p :: ps, x :: xs, [], tm, tmps, h1, h2, hp, ht, hx => by simp at h2
  | p :: ps, x :: xs, v :: vs, tm, tmps, h1, h2, hp, ht, hx => by
    have hpl : p < tmps.size := hp p (by simp)
    obtain ⟨g1, g2, g3⟩ := roundT_rel ps xs vs ((p, x) :: tm) (tmps.setIfInBounds p v) (by simpa using h1) (by simpa using h2) (fun q hq => by simpa using hp q (by simp [hq])) (fun i => by
      rw [look_cons, getD_set _ _ _ _ hpl]
      split
      · exact hx 0 x (by simp)
      · exact ht i) (fun j y hy => hx (j + 1) y (by simpa using hy))
    refine ⟨by simpa [roundT] using g1, by simpa using g2, fun i hi => ?_⟩
    simp only [List.mem_cons, not_or] at hi
    simp only [List.zip_cons_cons, List.foldl_cons]
    rw [g3 i hi.2, getD_set _ _ _ _ hpl, if_neg (fun e => hi.1 e.symm)]

theorem isIn_iff {l : List Nat} {i : Nat} : isIn l i = true ↔ i ∈ l := by
  induction l with
  | nil => simp [isIn]
  | cons x r ih =>
    simp only [isIn, Bool.or_eq_true, ih, List.mem_cons, beq_iff]
    exact ⟨fun h => h.imp Eq.symm id, fun h => h.imp Eq.symm id⟩

theorem look_drop {wr : List Nat} {i : Nat} : ∀ (tm : Tms), look (dropW wr tm) i = if isIn wr i = true then .dead else look tm i
  | [] => by simp [dropW, look]
  | (k, v) :: r => by
    simp only [dropW]
    split
    · rename_i h
      rw [look_drop r, look_cons]
      by_cases e : k = i
      · subst e; simp [h]
      · simp [e]
    · rename_i h
      rw [look_cons, look_cons, look_drop r]
      by_cases e : k = i
      · subst e; simp [h]
      · simp [e]

theorem look_ok {wr : List Nat} {i : Nat} : ∀ {tm : Tms}, okW wr tm = true → isIn wr i = true → look tm i = .dead
  | [], _, _ => rfl
  | (k, v) :: r, h, hi => by
    simp only [okW, Bool.and_eq_true] at h
    rw [look_cons, if_neg]
    · exact look_ok h.2 hi
    · intro e; subst e; rw [hi] at h; simp at h

/-- The blocks of one's own. -/
def mine (X : Nat → Prop) (β : Beta) (σ : Nat → Sig) (b : Nat) : Prop := X b ∨ (∃ l d, β l d = some b) ∨ ∃ t g, σ 0 t = some g ∧ g.b = b

theorem Rel.mine_lt (r : Rel Γ S a w I X β σ) : ∀ b, mine X β σ b → b < w.heap.size := by
  rintro b (h | ⟨l, d, h⟩ | ⟨t, g, h, rfl⟩)
  · exact r.mem.xb b h
  · obtain ⟨c, hc⟩ := r.mem.keys l d b h
    obtain ⟨b', arr, el, h1, h2, _⟩ := r.mem.cell l d c hc
    rw [h] at h1; cases h1; exact heap_lt h2
  · obtain ⟨cur, k1, _⟩ := r.own.row t g h; exact heap_lt k1

theorem Rel.mine_not {Y : Nat → Prop} (r : Rel Γ S a w I (fun b => X b ∨ Y b) β σ) (hxy : ∀ b, Y b → ¬ X b) : ∀ b, Y b → ¬ mine X β σ b := by
  rintro b hy (h | ⟨l, d, h⟩ | ⟨t, g, h, rfl⟩)
  · exact hxy b hy h
  · obtain ⟨c, hc⟩ := r.mem.keys l d b h
    obtain ⟨b', arr, el, h1, h2, _, _, _, _, h7⟩ := r.mem.cell l d c hc
    rw [h] at h1; cases h1; exact h7 (.inr hy)
  · obtain ⟨cur, k1, _, _, _, _, k6, _⟩ := r.own.row t g h; exact k6 (.inr hy)

/-- The caller's state between two rounds. -/
structure JB (Γ : Env) (a : Act) (w : World) (I : Imm) (X : Nat → Prop) (β : Beta) (σ : Nat → Sig) (l D : Nat) (o : Loop) (S' : St) (w' : World) (I' : Imm) (X' : Nat → Prop) (β' : Beta) (σ' : Nat → Sig) : Prop where
  rel : Rel Γ S' a w' I' X β' σ'
  mine : ∀ b, mine X β' σ' b → X' b
  ext : Ext I X w I' w'
  abv : Above β β' σ σ'
  loop : w'.heap[l]? = some (.loop o)
  dfr : w'.heap[D]? = some (.deferred (some []))

theorem JB.later {l D : Nat} {o : Loop} {S' : St} {w' : World} {I' : Imm} {X' : Nat → Prop} {β' : Beta} {σ' : Nat → Sig} {w2 : World} {I2 : Imm} (j : JB Γ a w I X β σ l D o S' w' I' X' β' σ') (he : Ext I' X' w' I2 w2) (hb : Base Γ.gl w2 I2 X') :
    JB Γ a w I X β σ l D o S' w2 I2 X' β' σ' :=
  ⟨j.rel.later (fun b h => j.mine b (.inl h)) (fun l d b h => j.mine b (.inr (.inl ⟨l, d, h⟩))) (fun t g h => j.mine _ (.inr (.inr ⟨t, g, h, rfl⟩))) he hb, j.mine,
    j.ext.trans (he.sub fun b h => j.mine b (.inl h)), j.abv, he.fix _ _ j.loop rfl, he.fix _ _ j.dfr rfl⟩

end
end Go.Proofs.YtllmejkmogepjaaDoor.Ix
