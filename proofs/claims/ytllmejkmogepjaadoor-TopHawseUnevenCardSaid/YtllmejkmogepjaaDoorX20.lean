/-
  Ix20: a region that draws its order: the orders of the front.
-/
import Derived.Test.YtllmejkmogepjaaDoorX19
namespace Go.Proofs.YtllmejkmogepjaaDoor.Ix
set_option linter.unusedVariables false
set_option linter.unusedSimpArgs false

def Mk (o : Oper) : Prop := (∃ t, o.op = .alloc t) ∨ ∃ t x, o.op = .box t x
def MkAt (ops : Array Oper) (i : Nat) : Prop := ∃ o, ops[i]? = some o ∧ Mk o
def Hid (ops : Array Oper) (p : Nat) (ℓ : Nat → Bool) (bl : Nat → Nat) (b : Nat) : Prop := ∃ i, i < p ∧ ℓ i = true ∧ MkAt ops i ∧ bl i = b

/-- What a cell that the front made holds by now. -/
structure Cont (Γ : Env) (ops : Array Oper) (p : Nat) (ℓ : Nat → Bool) (o : Oper) (d : Nat) (arr : Array Value) (a : Act) : Prop where
  fresh : ∀ t, o.op = .alloc t → (∀ (s : Nat) os t' x, s < p → ops[s]? = some os → ℓ s = true → os.op ≠ .store t' (.tmp d) x) → arr.size = (Γ.T t).size ∧ ∀ I β s, CV I β s (Γ.T t).zero arr
  laid : ∀ t, o.op = .alloc t → ∀ (s : Nat) os t' x, s < p → ops[s]? = some os → ℓ s = true → os.op = .store t' (.tmp d) x → arr = (a.eval x).cells
  box : ∀ t x, o.op = .box t x → arr = (a.eval x).cells

/-- The state when those of 'ℓ' have come up. -/
def some' (S0 : St) (ops : Array Oper) (val : Nat → IV) (p : Nat) (ℓ : Nat → Bool) : St := ⟨tmL S0.tm (dstOf ops.toList) val ℓ p, S0.ce, S0.up⟩

structure Inv (Γ : Env) (ops : Array Oper) (p : Nat) (S0 : St) (val : Nat → IV) (w0 : World) (I0 : Imm) (X : Nat → Prop) (β0 : Beta) (σ0 : Nat → Sig) (ℓ : Nat → Bool) (a : Act) (w : World)
    (I : Imm) (β : Beta) (σ : Nat → Sig) (bl : Nat → Nat) : Prop where
  rel : Rel Γ (some' S0 ops val p ℓ) a w I (fun b => X b ∨ Hid ops p ℓ bl b) β σ
  ext : Ext I0 X w0 I w
  abv : Above β0 β σ0 σ
  x0 : ∀ b, X b → b < w0.heap.size
  blk : ∀ (i : Nat) o d, i < p → ops[i]? = some o → Mk o → o.dst = some d → ℓ i = true → w0.heap.size ≤ bl i ∧ a.tmps.getD d undef = .pointer (some ⟨bl i, 0, none⟩) ∧ (∀ x v, I x = some v → x.block = bl i → False) ∧
    ∃ arr el, w.heap[bl i]? = some (.cells arr el (0, 0)) ∧ Cont Γ ops p ℓ o d arr a
  inj : ∀ i j, i < p → j < p → MkAt ops i → MkAt ops j → ℓ i = true → ℓ j = true → bl i = bl j → i = j

section
variable {C : Con} {Γ : Env} {ops : Array Oper} {p : Nat} {S0 : St} {val : Nat → IV} {act : Nat → Bool} {w0 : World} {I0 : Imm} {X : Nat → Prop} {β0 : Beta} {σ0 : Nat → Sig} {ℓ : Nat → Bool} {a : Act} {w : World}
  {I : Imm} {β : Beta} {σ : Nat → Sig} {bl : Nat → Nat} {cr : List Nat}

theorem dst_of {i : Nat} {o : Oper} (ho : ops[i]? = some o) : dstOf ops.toList i = o.dst := by
  rw [dstOf_eq]; simp [ho]

theorem look_agree (k : DOK ops p) (hdc : DC ops ℓ) {i : Nat} {o : Oper} (ho : ops[i]? = some o) (hi : i < p) (hl : ∀ j, bindOn o j = true → ℓ j = true) {t : Nat} (ht : t ∈ looks ops.toList o) :
    look (some' S0 ops val p ℓ).tm t = look (lex S0 ops.toList val i).tm t := by
  simp only [some', lex]
  by_cases h : ∃ j, j < p ∧ dstOf ops.toList j = some t
  · obtain ⟨j, hj, hd⟩ := h
    obtain ⟨h1, h2⟩ := k.look i o ho hi t ht j hj hd
    rw [look_tmL_some (i := j) (fun j' hj' hd' => k.dst j' j t hj' hj hd' hd) hj (hl j h2) hd,
      look_tmL_some (i := j) (fun j' hj' hd' => k.dst j' j t (by omega) hj hd' hd) h1 rfl hd]
  · rw [look_tmL_none (fun j hj _ hd => h ⟨j, hj, hd⟩), look_tmL_none (fun j hj _ hd => h ⟨j, by omega, hd⟩)]

theorem look_upd (k : DOK ops p) {i : Nat} {o : Oper} (ho : ops[i]? = some o) (hi : i < p) (hn : ℓ i = false) (t : Nat) :
    look (some' S0 ops val p (setF ℓ i true)).tm t = look (putS (some' S0 ops val p ℓ) o.dst (val i)).tm t := by
  have hd := dst_of ho
  have hne : ∀ t, o.dst ≠ some t → look (some' S0 ops val p (setF ℓ i true)).tm t = look (some' S0 ops val p ℓ).tm t := by
    intro t hne
    simp only [some']
    by_cases h : ∃ j, j < p ∧ ℓ j = true ∧ dstOf ops.toList j = some t
    · obtain ⟨j, hj, hlj, hdj⟩ := h
      rw [look_tmL_some (i := j) (fun j' hj' hd' => k.dst j' j t hj' hj hd' hdj) hj hlj hdj,
        look_tmL_some (i := j) (fun j' hj' hd' => k.dst j' j t hj' hj hd' hdj) hj (by unfold setF; split <;> simp [hlj]) hdj]
    · rw [look_tmL_none (fun j hj hl hd' => h ⟨j, hj, hl, hd'⟩), look_tmL_none (fun j hj hl hd' => ?_)]
      unfold setF at hl
      split at hl
      · rename_i e; subst e; rw [hd] at hd'; exact hne hd'
      · exact h ⟨j, hj, hl, hd'⟩
  cases hdo : o.dst with
  | none => simp only [putS]; exact hne t (by rw [hdo]; nofun)
  | some d =>
    simp only [putS, look_cons]
    split
    · rename_i e; subst e
      simp only [some']
      rw [hdo] at hd
      exact look_tmL_some (i := i) (fun j' hj' hd' => k.dst j' i d hj' hi hd' hd) hi (setF_self _ _ _) hd
    · rename_i hne'
      exact hne t (by rw [hdo]; intro e; cases e; exact hne' rfl)

/-- Tags lie only in what hangs on what hands them out. -/
theorem tag_listed (k : DOK ops p) (hf : ∀ (j : Nat) o, j < p → ops[j]? = some o → Fact C Γ ops.toList cr S0 val act j o) (hn : noTags cr S0) (hdc : DC ops ℓ)
    {i d : Nat} (hi : i < p) (hdi : dstOf ops.toList i = some d) (hcr : d ∈ cr) : ∀ (n j : Nat), j < n → j < p → ℓ j = true → (∃ d', dstOf ops.toList j = some d') → hasTag d (val j) = true → ℓ i = true
  | n + 1, j, hjn, hj, hl, ⟨d', hd'⟩, ht => by
    have hjs : j < ops.size := by have := k.le; omega
    have ho : ops[j]? = some ops[j] := by simp [hjs]
    generalize ops[j] = o at ho
    have F := hf j o hj ho
    have hdo := dst_of ho
    cases hact : act j with
    | false => rw [F.off hact] at ht; cases ht
    | true =>
      by_cases h1 : ∃ t, o.op = .alloc t
      · obtain ⟨t, h1⟩ := h1; rw [(F.alloc hact t h1).2] at ht; cases ht
      · by_cases h2 : ∃ t x, o.op = .box t x
        · obtain ⟨t, x, h2⟩ := h2; rw [(F.box hact t x h2).2] at ht; cases ht
        · by_cases h3 : ∃ t a x, o.op = .store t a x
          · obtain ⟨t, a, x, h3⟩ := h3
            obtain ⟨_, _, e, _⟩ := k.st j o t a x ho hj h3
            rw [hdo, e] at hd'; cases hd'
          · obtain ⟨_, hto⟩ := F.other hact (fun t e => h1 ⟨t, e⟩) (fun t x e => h2 ⟨t, x, e⟩) (fun t a x e => h3 ⟨t, a, x, e⟩)
            have hmem : ∀ (cr : List Nat), d ∈ cr → tagOK cr (lex S0 ops.toList val j) o (val j) = true →
                o.dst = some d ∨ opTag d (lex S0 ops.toList val j) o.op.operands.toList = true := by
              intro cr
              induction cr with
              | nil => intro h; cases h
              | cons e r ih =>
                intro hm hok
                simp only [tagOK, Bool.and_eq_true, Bool.or_eq_true] at hok
                rcases List.mem_cons.1 hm with rfl | hm
                · rcases hok.1 with (h | h) | h
                  · left
                    split at h
                    · rename_i d2 hd2; rw [(beq_iff _ _).1 h, hd2]
                    · cases h
                  · rw [ht] at h; cases h
                  · exact .inr h
                · exact ih hm hok.2
            rcases hmem cr hcr hto with he | hop
            · have := k.dst i j d hi hj hdi (by rw [hdo, he])
              subst this; exact hl
            · have hex : ∀ (l : List Operand), opTag d (lex S0 ops.toList val j) l = true → ∃ t, t ∈ opTs l ∧ hasTag d (look (lex S0 ops.toList val j).tm t) = true := by
                intro l
                induction l with
                | nil => intro h; cases h
                | cons x r ih =>
                  intro h
                  cases x <;> simp only [opTag, Bool.or_eq_true] at h
                  case tmp t =>
                    rcases h with h | h
                    · exact ⟨t, by simp [opTs, opT], h⟩
                    · obtain ⟨t', h1, h2⟩ := ih h; exact ⟨t', by simp [opTs, h1], h2⟩
                  all_goals (obtain ⟨t', h1, h2⟩ := ih h; exact ⟨t', by simp [opTs, h1], h2⟩)
              obtain ⟨t, ht1, ht2⟩ := hex _ hop
              have htl : t ∈ looks ops.toList o := by simp only [looks, List.mem_append]; exact .inl ht1
              by_cases h : ∃ e, e < p ∧ dstOf ops.toList e = some t
              · obtain ⟨e, he, hde⟩ := h
                obtain ⟨g1, g2⟩ := k.look j o ho hj t htl e he hde
                simp only [lex] at ht2
                rw [look_tmL_some (i := e) (fun j' hj' hd' => k.dst j' e t (by omega) he hd' hde) g1 rfl hde] at ht2
                exact tag_listed k hf hn hdc hi hdi hcr n e (by omega) he (hdc j o ho hl e g2) ⟨t, hde⟩ ht2
              · simp only [lex] at ht2
                rw [look_tmL_none (fun j' hj' _ hd' => h ⟨j', by omega, hd'⟩)] at ht2
                rw [tmTag_spec d S0.tm (hn d hcr).1 t] at ht2; cases ht2

theorem tmTag_tmL {d : Nat} (h0 : tmTag d S0.tm = false) : ∀ {n : Nat}, (∀ j, j < n → ℓ j = true → (∃ d', dstOf ops.toList j = some d') → hasTag d (val j) = false) → tmTag d (tmL S0.tm (dstOf ops.toList) val ℓ n) = false
  | 0, _ => h0
  | n + 1, h => by
    have ih := tmTag_tmL h0 (n := n) fun j hj => h j (by omega)
    simp only [tmL]
    split
    · rename_i d' h1 h2
      simp only [tmTag, Bool.or_eq_false_iff]
      exact ⟨h n (by omega) h1 ⟨d', h2⟩, ih⟩
    · exact ih

theorem creators_mem {l : List Oper} {o : Oper} {d : Nat} (hm : o ∈ l) (hc : creates o = true) (hd : o.dst = some d) : d ∈ creators l := by
  induction l with
  | nil => cases hm
  | cons y r ih =>
    unfold creators
    rcases List.mem_cons.1 hm with rfl | hm
    · rw [hc, hd]; simp
    · have := ih hm
      split
      · exact List.mem_cons_of_mem _ this
      · exact this

theorem DC.upd (hdc : DC ops ℓ) {i : Nat} {o : Oper} (ho : ops[i]? = some o) (hl : ∀ j, bindOn o j = true → ℓ j = true) : DC ops (setF ℓ i true) := by
  intro j oj hoj hlj k hk
  unfold setF at hlj ⊢
  split at hlj
  · rename_i e; subst e
    rw [ho] at hoj; cases hoj
    have := hl k hk
    split <;> simp [this]
  · have := hdc j oj hoj hlj k hk
    split <;> simp [this]

/-- What an operation that has come up looks at is not written later. -/
theorem looked (k : DOK ops p) (hdc : DC ops ℓ) {s i : Nat} {os o : Oper} (hos : ops[s]? = some os) (hs : s < p) (hls : ℓ s = true) (ho : ops[i]? = some o) (hi : i < p) (hn : ℓ i = false) {t : Nat} (ht : t ∈ looks ops.toList os) : o.dst ≠ some t := by
  intro e
  obtain ⟨_, h2⟩ := k.look s os hos hs t ht i hi (by rw [dst_of ho, e])
  have := hdc s os hos hls i h2
  rw [hn] at this; cases this

theorem eval_same {a' : Act} {x : Operand} (h : ∀ t, t ∈ opT x → a'.tmps.getD t undef = a.tmps.getD t undef) : a'.eval x = a.eval x := by
  cases x with
  | tmp t => exact h t (by simp [opT])
  | _ => rfl

theorem store_looks {os : Oper} {t : Nat} {y x : Operand} (h : os.op = .store t y x) {u : Nat} (hu : u ∈ opT x) (all : List Oper) : u ∈ looks all os := by
  simp only [looks, h, List.mem_append]
  exact .inl (mem_opTs (x := x) (by simp [Op.operands]) hu)

theorem box_looks {os : Oper} {t : Nat} {x : Operand} (h : os.op = .box t x) {u : Nat} (hu : u ∈ opT x) (all : List Oper) : u ∈ looks all os := by
  simp only [looks, h, List.mem_append]
  exact .inl (mem_opTs (x := x) (by simp [Op.operands]) hu)

/-- The contents told stay as they are when an operation comes up that stores nothing in them. -/
theorem Cont.keep (k : DOK ops p) (hdc : DC ops ℓ) {j i : Nat} {oj o : Oper} {d : Nat} {arr : Array Value} {a' : Act} (hoj : ops[j]? = some oj) (hj : j < p) (hlj : ℓ j = true) (ho : ops[i]? = some o) (hi : i < p) (hn : ℓ i = false)
    (hns : ∀ t x, o.op ≠ .store t (.tmp d) x) (ha : ∀ t, o.dst ≠ some t → a'.tmps.getD t undef = a.tmps.getD t undef) (c : Cont Γ ops p ℓ oj d arr a) : Cont Γ ops p (setF ℓ i true) oj d arr a' := by
  refine ⟨fun t e h => c.fresh t e fun s os t' x hs hos hl => h s os t' x hs hos (by unfold setF; split <;> simp [hl]), fun t e s os t' x hs hos hl hop => ?_, fun t x e => ?_⟩
  · unfold setF at hl
    split at hl
    · rename_i e'; subst e'; rw [ho] at hos; cases hos; exact absurd hop (hns t' x)
    · rw [c.laid t e s os t' x hs hos hl hop]
      rw [eval_same fun u hu => ha u (looked k hdc hos hs hl ho hi hn (store_looks hop hu _))]
  · rw [c.box t x e]
    rw [eval_same fun u hu => ha u (looked k hdc hoj hj hlj ho hi hn (box_looks e hu _))]

/-- The dst of what is made is not written by another one. -/
theorem dst_keep (k : DOK ops p) {i j : Nat} {o oj : Oper} {d : Nat} (ho : ops[i]? = some o) (hi : i < p) (hn : ℓ i = false) (hoj : ops[j]? = some oj) (hj : j < p) (hlj : ℓ j = true) (hd : oj.dst = some d) : o.dst ≠ some d := by
  intro e
  have := k.dst i j d hi hj (by rw [dst_of ho, e]) (by rw [dst_of hoj, hd])
  subst this; rw [hn] at hlj; cases hlj

/-- One that makes no cell and stores nothing. -/
theorem Inv.quiet (k : DOK ops p) (hdc : DC ops ℓ) {i : Nat} {o : Oper} (ho : ops[i]? = some o) (hi : i < p) (hn : ℓ i = false) (hmk : ¬ Mk o) (hns : ∀ t y x, o.op ≠ .store t y x)
    (v : Inv Γ ops p S0 val w0 I0 X β0 σ0 ℓ a w I β σ bl) {a' : Act} {w' : World} {I' : Imm} {β' : Beta} {σ' : Nat → Sig}
    (hr : Rel Γ (putS (some' S0 ops val p ℓ) o.dst (val i)) a' w' I' (fun b => X b ∨ Hid ops p ℓ bl b) β' σ') (he : Ext I (fun b => X b ∨ Hid ops p ℓ bl b) w I' w') (hab : Above β β' σ σ')
    (ha : ∀ t, o.dst ≠ some t → a'.tmps.getD t undef = a.tmps.getD t undef) : Inv Γ ops p S0 val w0 I0 X β0 σ0 (setF ℓ i true) a' w' I' β' σ' bl := by
  have hmi : ¬ MkAt ops i := fun ⟨o', h1, h2⟩ => by rw [ho] at h1; cases h1; exact hmk h2
  have hup : ∀ j, MkAt ops j → setF ℓ i true j = true → ℓ j = true := fun j hm h => by
    unfold setF at h
    split at h
    · rename_i e; subst e; exact absurd hm hmi
    · exact h
  refine ⟨(hr.congr (look_upd k ho hi hn) (by cases o.dst <;> rfl) (by cases o.dst <;> rfl)).sub fun b hb => ?_, v.ext.trans (he.sub fun b hb => .inl hb), v.abv.trans hab, v.x0, fun j oj d hj hoj hm hd hl => ?_, fun i' j' hi' hj' hm hm' hl hl' => v.inj i' j' hi' hj' hm hm' (hup _ hm hl) (hup _ hm' hl')⟩
  · rcases hb with hb | ⟨j, h1, h2, h3, h4⟩
    · exact .inl hb
    · exact .inr ⟨j, h1, hup j h3 h2, h3, h4⟩
  · have hlj := hup j ⟨oj, hoj, hm⟩ hl
    obtain ⟨h1, h2, h3, arr, el, h4, h5⟩ := v.blk j oj d hj hoj hm hd hlj
    have hhid : X (bl j) ∨ Hid ops p ℓ bl (bl j) := .inr ⟨j, hj, hlj, ⟨oj, hoj, hm⟩, rfl⟩
    refine ⟨h1, by rw [ha d (dst_keep k ho hi hn hoj hj hlj hd)]; exact h2, fun x u hx hb => ?_, arr, el, by rw [he.keep _ hhid]; exact h4, h5.keep k hdc hoj hj hlj ho hi hn (fun t x => hns t _ x) ha⟩
    have : I' x = I x := he.new x (by rw [hb]; exact hhid)
    rw [this] at hx
    exact h3 x u hx hb

/-- One that makes a cell. -/
theorem Inv.makes (k : DOK ops p) (hdc : DC ops ℓ) {i : Nat} {o : Oper} {d : Nat} (ho : ops[i]? = some o) (hi : i < p) (hn : ℓ i = false) (hl : ∀ j, bindOn o j = true → ℓ j = true) (hmk : Mk o) (hd : o.dst = some d) (hnt : d < Γ.nt) (hv : val i = .dead)
    (v : Inv Γ ops p S0 val w0 I0 X β0 σ0 ℓ a w I β σ bl) {arr : Array Value} {el : Nat}
    (hc : (∀ t, o.op = .alloc t → arr.size = (Γ.T t).size ∧ ∀ I β s, CV I β s (Γ.T t).zero arr) ∧ ∀ t x, o.op = .box t x → arr = (a.eval x).cells) :
    ∃ bl', Inv Γ ops p S0 val w0 I0 X β0 σ0 (setF ℓ i true) (a.put (some d) (.pointer (some ⟨w.heap.size, 0, none⟩))) (w.alloc (.cells arr el)) I β σ bl' := by
  have hmi : MkAt ops i := ⟨o, ho, hmk⟩
  have hlt : ∀ j, j < p → MkAt ops j → ℓ j = true → bl j < w.heap.size := fun j hj hm hl => v.rel.mem.xb (bl j) (.inr ⟨j, hj, hl, hm, rfl⟩)
  have hput : ∀ t, o.dst ≠ some t → (a.put (some d) (.pointer (some ⟨w.heap.size, 0, none⟩))).tmps.getD t undef = a.tmps.getD t undef := fun t ht => by
    have hne : d ≠ t := fun e => ht (by rw [hd, e])
    simp only [Act.put, Array.getD_eq_getD_getElem?]
    rw [Array.getElem?_setIfInBounds_ne hne]
  have hcases : ∀ j, setF ℓ i true j = true → j = i ∨ (j ≠ i ∧ ℓ j = true) := fun j h => by
    unfold setF at h
    split at h
    · rename_i e; exact .inl e
    · rename_i e; exact .inr ⟨e, h⟩
  refine ⟨setF bl i w.heap.size, ?_, v.ext.trans (.alloc I X w _ fun b hb => v.rel.mem.xb b (.inl hb)), v.abv, v.x0, fun j oj dj hj hoj hm hdj hlj => ?_, fun i' j' hi' hj' hm hm' hl1 hl2 hb => ?_⟩
  · have r1 := v.rel.hide (.cells arr el) (Y := fun b => X b ∨ Hid ops p (setF ℓ i true) (setF bl i w.heap.size) b) (fun b hb => by
      rcases hb with hb | ⟨j, h1, h2, h3, h4⟩
      · exact .inl (.inl hb)
      · rcases hcases j h2 with e | ⟨e, h2⟩
        · subst e; right; rw [← h4, setF_self]
        · left; right; exact ⟨j, h1, h2, h3, by rw [← h4]; simp [setF, e]⟩)
    have r2 := r1.put (iv := .dead) (v := .pointer (some ⟨w.heap.size, 0, none⟩)) hnt (.data (.dead _))
    refine r2.congr (fun t => ?_) rfl rfl
    rw [look_upd k ho hi hn t, hd, hv]; rfl
  · rcases hcases j hlj with e | ⟨e, hlj'⟩
    · subst e
      rw [ho] at hoj; cases hoj
      rw [hd] at hdj; cases hdj
      rw [setF_self]
      have hdn : d < a.tmps.size := by have := v.rel.nt; omega
      refine ⟨v.ext.size, by simp [Act.put, hdn], fun x u hx hb => ?_, arr, el, heap_alloc_new w _, ⟨fun t e _ => hc.1 t e, fun t e s os t' x hs hos hls hop => ?_, fun t x e => ?_⟩⟩
      · have := World.block_lt_of_cell? w x (v.rel.mem.im x u hx)
        omega
      · -- nothing was stored in it before
        rcases hcases s hls with es | ⟨es, hls⟩
        · subst es; rw [ho] at hos; cases hos; rw [e] at hop; cases hop
        · have hmem : d ∈ looks ops.toList os := by
            simp only [looks, hop, List.mem_append]
            exact .inl (mem_opTs (x := .tmp d) (by simp [Op.operands]) (by simp [opT]))
          obtain ⟨_, h2⟩ := k.look s os hos hs d hmem j hj (by rw [dst_of ho, hd])
          have := hdc s os hos hls j h2
          rw [hn] at this; cases this
      · rw [hc.2 t x e]
        refine congrArg Value.cells (eval_same (a := a) fun u hu => hput u fun e' => ?_).symm
        obtain ⟨h1, _⟩ := k.look j o ho hi u (box_looks e hu _) j hj (by rw [dst_of ho, e'])
        omega
    · obtain ⟨h1, h2, h3, arr', el', h4, h5⟩ := v.blk j oj dj hj hoj hm hdj hlj'
      have hb : setF bl i w.heap.size j = bl j := by simp [setF, e]
      rw [hb]
      refine ⟨h1, by rw [hput dj (dst_keep k ho hi hn hoj hj hlj' hdj)]; exact h2, h3, arr', el', by rw [heap_alloc_old w _ _ (heap_lt h4)]; exact h4, h5.keep k hdc hoj hj hlj' ho hi hn (fun t x e => ?_) hput⟩
      rcases hmk with ⟨t', hm⟩ | ⟨t', x', hm⟩ <;> rw [hm] at e <;> cases e
  · rcases hcases i' hl1 with e | ⟨e, hl3⟩ <;> rcases hcases j' hl2 with e' | ⟨e', hl4⟩
    · rw [e, e']
    · subst e
      rw [setF_self, show setF bl i' w.heap.size j' = bl j' from by simp [setF, e']] at hb
      have := hlt j' hj' hm' hl4; omega
    · subst e'
      rw [setF_self, show setF bl j' w.heap.size i' = bl i' from by simp [setF, e]] at hb
      have := hlt i' hi' hm hl3; omega
    · rw [show setF bl i w.heap.size i' = bl i' from by simp [setF, e], show setF bl i w.heap.size j' = bl j' from by simp [setF, e']] at hb
      exact v.inj i' j' hi' hj' hm hm' hl3 hl4 hb

end
end Go.Proofs.YtllmejkmogepjaaDoor.Ix
