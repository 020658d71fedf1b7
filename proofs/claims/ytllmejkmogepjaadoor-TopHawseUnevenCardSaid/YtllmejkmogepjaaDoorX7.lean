/-
  Ix7: the state behind what an operation does: a temporary set, a tag gone, a new cell, a store, a reading.
-/
import Derived.Test.YtllmejkmogepjaaDoorX6
namespace Go.Proofs.YtllmejkmogepjaaDoor.Ix

section
variable {Γ : Env} {S : St} {a : Act} {w : World} {I : Imm} {X : Nat → Prop} {β : Beta} {σ : Nat → Sig} {K : St → Prop}

def Aft (Γ : Env) (K : St → Prop) (I : Imm) (X : Nat → Prop) (w : World) (β : Beta) (σ : Nat → Sig) : Act → World → Prop :=
  fun a' w' => ∃ S' I' β' σ', K S' ∧ Rel Γ S' a' w' I' X β' σ' ∧ Ext I X w I' w' ∧ Above β β' σ σ'

theorem ofConst_V (I : Imm) (β : Beta) (s : Sig) (v : Value) : V I β s (ofConst v) v := by
  unfold ofConst
  split
  · exact .data (.int _ _)
  · exact .data (.bool _)
  · exact .data (.str _)
  · exact .data .nilS
  · exact .data (.lit _ rfl)
  · exact .data (.lit _ rfl)
  · exact .data (.lit _ rfl)
  · exact .data (.dead _)

theorem evo_V (r : Rel Γ S a w I X β σ) (x : Operand) : V I β (σ 0) (evo Γ S x) (a.eval x) := by
  cases x with
  | tmp t => exact r.tm t
  | const v => exact ofConst_V _ _ _ v
  | global g => exact .data (r.mem.glo g)
  | func f => exact .data (.fn f [] [] #[] #[] rfl rfl (fun j x h => by simp at h) (fun j x h => by simp at h))

theorem getD_set (v : Array Value) (d i : Nat) (x : Value) (hd : d < v.size) : (v.setIfInBounds d x).getD i undef = if d = i then x else v.getD i undef := by
  simp only [Array.getD_eq_getD_getElem?, Array.getElem?_setIfInBounds]
  by_cases h : d = i
  · subst h; simp [hd]
  · simp [h]

theorem blt_lt {a b : Nat} (h : Nat.blt a b = true) : a < b := by
  unfold Nat.blt at h
  exact Nat.le_of_ble_eq_true h

theorem Rel.put (r : Rel Γ S a w I X β σ) {d : Nat} {iv : IV} {v : Value} (hd : d < Γ.nt) (hv : V I β (σ 0) iv v) :
    Rel Γ ⟨(d, iv) :: S.tm, S.ce, S.up⟩ (a.put (some d) v) w I X β σ := by
  refine ⟨fun i => ?_, r.df, ?_, r.mem, r.own⟩
  · simp only [look_cons, Act.put]
    rw [getD_set _ _ _ _ (by have := r.nt; omega)]
    split
    · exact hv
    · exact r.tm i
  · simp only [Act.put, Array.size_setIfInBounds]; exact r.nt

theorem putT_sound {d : Option Nat} {iv : IV} {v : Value} (h : putT Γ S d iv K) (r : Rel Γ S a w I X β σ) (hv : V I β (σ 0) iv v) :
    ∃ S', K S' ∧ Rel Γ S' (a.put d v) w I X β σ := by
  cases d with
  | none => exact ⟨S, by simpa [putT] using h, r⟩
  | some d =>
    simp only [putT] at h
    split at h
    · rename_i hd
      exact ⟨_, h, r.put (blt_lt hd) hv⟩
    · exact h.elim

/-- A reading handed on to a temporary. -/
theorem put_aft {d : Option Nat} {iv : IV} {v : Value} (h : putT Γ S d iv K) (r : Rel Γ S a w I X β σ) (hv : V I β (σ 0) iv v) :
    Aft Γ K I X w β σ (a.put d v) w :=
  let ⟨S', hk, r'⟩ := putT_sound h r hv
  ⟨S', I, β, σ, hk, r', .refl _ _ _, .refl _ _⟩

def setSig (σ : Nat → Sig) (s : Sig) : Nat → Sig := fun l => match l with | 0 => s | l + 1 => σ (l + 1)

theorem tmTag_spec (t : Nat) : ∀ (l : Tms), tmTag t l = false → ∀ i, hasTag t (look l i) = false
  | [], _, i => rfl
  | (k, v) :: r, h, i => by
    simp [tmTag] at h
    rw [look_cons]
    split
    · exact h.1
    · exact tmTag_spec t r h.2 i
theorem ceTag_spec (t : Nat) : ∀ (l : Ces), ceTag t l = false → ∀ d c, lookC l d = some c → hasTagL t c = false
  | [], _, d, c, hc => by simp [lookC] at hc
  | (k, v) :: r, h, d, c, hc => by
    simp [ceTag] at h
    rw [lookC_cons] at hc
    split at hc
    · simp at hc; subst hc; exact h.1
    · exact ceTag_spec t r h.2 d c hc
theorem tmDrop_look (t : Nat) : ∀ (l : Tms) i, look (tmDrop t l) i = dropTag t (look l i)
  | [], i => rfl
  | (k, v) :: r, i => by
    simp only [tmDrop, look_cons, tmDrop_look t r i]
    split <;> rfl
theorem ceDrop_look (t : Nat) : ∀ (l : Ces) d, lookC (ceDrop t l) d = (lookC l d).map (dropTagL t)
  | [], d => rfl
  | (k, v) :: r, d => by
    simp only [ceDrop, lookC_cons, ceDrop_look t r d]
    split <;> rfl

theorem untag_sound {t : Nat} (h : untag t S K) (r : Rel Γ S a w I X β σ) :
    ∃ S', K S' ∧ Rel Γ S' a w I X β (setSig σ fun u => if u = t then none else σ 0 u) ∧ S'.up = S.up ∧ (∀ d, (lookC S'.ce d).isSome = (lookC S.ce d).isSome) := by
  have hs : ∀ u g, u ≠ t → σ 0 u = some g → (if u = t then none else σ 0 u) = some g := fun u g hu hg => by rw [if_neg hu]; exact hg
  have own : OwnR w I X β (setSig σ (fun u => if u = t then none else σ 0 u) 0) := by
    refine ⟨fun u g hu => ?_, fun u u' g g' hu hu' hb => ?_⟩
    · simp only [setSig] at hu
      split at hu
      · cases hu
      · exact r.own.row u g hu
    · simp only [setSig] at hu hu'
      split at hu
      · cases hu
      · split at hu'
        · cases hu'
        · exact r.own.inj u u' g g' hu hu' hb
  obtain ⟨tm, ce, up⟩ := S
  simp only [untag] at h
  split at h
  · refine ⟨_, h, ⟨fun i => ?_, r.df, r.nt, ⟨fun l d c hc => ?_, r.mem.inj, fun l d b hb => ?_, r.mem.im, r.mem.glo, r.mem.xb⟩, own⟩, rfl, fun d => by simp [ceDrop_look]⟩
    · simp only [tmDrop_look]; exact (r.tm i).dropTag t hs
    · cases l with
      | zero =>
        simp only [upC, ceDrop_look] at hc
        cases hl : lookC ce d with
        | none => simp [hl] at hc
        | some c0 =>
          simp [hl] at hc; subst hc
          obtain ⟨b, arr, el, h1, h2, h3, h4, h5, h6⟩ := r.mem.cell 0 d c0 hl
          refine ⟨b, arr, el, h1, h2, by simp [dropTagL_eq, h3], h4, fun j x hx => ?_, h6⟩
          rw [dropTagL_eq] at hx
          obtain ⟨y, hy, rfl⟩ := map_get hx
          exact (h5 j y hy).dropTag t hs
      | succ l => exact r.mem.cell (l + 1) d c hc
    · cases l with
      | zero =>
        obtain ⟨c, hc⟩ := r.mem.keys 0 d b hb
        exact ⟨_, by simp only [upC, ceDrop_look]; rw [show lookC ce d = some c from hc]; rfl⟩
      | succ l => exact r.mem.keys (l + 1) d b hb
  · rename_i hn
    simp at hn
    refine ⟨_, h, ⟨fun i => ?_, r.df, r.nt, ⟨fun l d c hc => ?_, r.mem.inj, r.mem.keys, r.mem.im, r.mem.glo, r.mem.xb⟩, own⟩, rfl, fun d => rfl⟩
    · exact (r.tm i).noTag t hs (tmTag_spec t tm hn.1 i)
    · cases l with
      | zero =>
        obtain ⟨b, arr, el, h1, h2, h3, h4, h5, h6⟩ := r.mem.cell 0 d c hc
        exact ⟨b, arr, el, h1, h2, h3, h4, fun j x hx => (h5 j x hx).noTag t hs (hasTagL_spec t c (ceTag_spec t ce hn.2 d c hc) j x hx), h6⟩
      | succ l => exact r.mem.cell (l + 1) d c hc

theorem Above.setSig (β : Beta) (σ : Nat → Sig) (s : Sig) : Above β β σ (setSig σ s) := ⟨fun _ => rfl, fun _ => rfl⟩

theorem heap_lt {w : World} {b : Nat} {o : Obj} (h : w.heap[b]? = some o) : b < w.heap.size := (Array.getElem?_eq_some_iff.1 h).1

theorem Ext.alloc (I : Imm) (X : Nat → Prop) (w : World) (o : Obj) (hX : ∀ b, X b → b < w.heap.size) : Ext I X w I (w.alloc o) :=
  ⟨rfl, rfl, rfl, by simp, fun b hb => heap_alloc_old w o b (hX b hb), fun _ _ h => h, fun _ _ => rfl, fun k o' hk _ => by rw [heap_alloc_old w o k (heap_lt hk)]; exact hk⟩

/-- A new block under everything that is told. -/
theorem MemR.alloc {cs : List Ces} (m : MemR Γ.gl cs w I X β σ) (o : Obj) : MemR Γ.gl cs (w.alloc o) I X β σ := by
  refine ⟨fun l d c hc => ?_, m.inj, m.keys, fun x v hx => ?_, m.glo, fun b hb => by have := m.xb b hb; simp; omega⟩
  · obtain ⟨b, arr, el, h1, h2, h3⟩ := m.cell l d c hc
    exact ⟨b, arr, el, h1, by rw [heap_alloc_old w o b (heap_lt h2)]; exact h2, h3⟩
  · have := m.im x v hx
    rw [World.cell?_alloc_lt _ _ _ (World.block_lt_of_cell? w _ this)]
    exact this
theorem OwnR.alloc {s : Sig} (m : OwnR w I X β s) (o : Obj) : OwnR (w.alloc o) I X β s := by
  refine ⟨fun t g hg => ?_, m.inj⟩
  obtain ⟨cur, h1, h2⟩ := m.row t g hg
  exact ⟨cur, by rw [heap_alloc_old w o g.b (heap_lt h1)]; exact h1, h2⟩

theorem Rel.alloc (r : Rel Γ S a w I X β σ) (o : Obj) : Rel Γ S a (w.alloc o) I X β σ := ⟨r.tm, r.df.ext (.alloc I X w o r.mem.xb), r.nt, r.mem.alloc o, r.own.alloc o⟩

theorem newC_sound {d : Nat} {c : List IV} {vs : Array Value} {el : Nat} (h : newC Γ S d c K) (r : Rel Γ S a w I X β σ) (hc : CV I β (σ 0) c vs) :
    Aft Γ K I X w β σ (a.put (some d) (.pointer (some ⟨w.heap.size, 0, none⟩))) (w.alloc (.cells vs el)) := by
  have hX := r.mem.xb
  obtain ⟨tm, ce, up⟩ := S
  simp only [newC] at h
  split at h
  · exact h.elim
  rename_i hk
  split at h
  case h_2 => exact h.elim
  rename_i hd
  have hno := hasKey_spec ce d hk
  have hb0 : β 0 d = none := by
    cases hb : β 0 d with
    | none => rfl
    | some b => obtain ⟨c, hc⟩ := r.mem.keys 0 d b hb; simp [upC, hno] at hc
  let β' : Beta := fun l d' => if l = 0 ∧ d' = d then some w.heap.size else β l d'
  have hle : ∀ l d' b, β l d' = some b → β' l d' = some b := by
    intro l d' b hb
    show (if l = 0 ∧ d' = d then _ else _) = _
    rw [if_neg]; exact hb
    rintro ⟨rfl, rfl⟩; rw [hb0] at hb; cases hb
  have hnew : ∀ l d' b, β l d' = some b → b < w.heap.size := by
    intro l d' b hb
    obtain ⟨c, hc⟩ := r.mem.keys l d' b hb
    obtain ⟨b', arr, el, h1, h2, _⟩ := r.mem.cell l d' c hc
    rw [hb] at h1; cases h1; exact heap_lt h2
  have hmem := r.mem.alloc (.cells vs el)
  have hrel : Rel Γ ⟨(d, .ptr 0 d 0) :: tm, (d, c) :: ce, up⟩ (a.put (some d) (.pointer (some ⟨w.heap.size, 0, none⟩))) (w.alloc (.cells vs el)) I X β' σ := by
    have base : Rel Γ ⟨tm, (d, c) :: ce, up⟩ a (w.alloc (.cells vs el)) I X β' σ := by
      refine ⟨fun i => (r.tm i).mono (fun _ _ h => h) hle (fun _ _ h => h), r.df.ext (.alloc I X w _ hX), r.nt, ⟨fun l d' c' hc' => ?_, fun l d' l' d'' b hb hb' => ?_, fun l d' b hb => ?_, hmem.im, hmem.glo, hmem.xb⟩, ?_⟩
      · by_cases hld : l = 0 ∧ d' = d
        · obtain ⟨rfl, rfl⟩ := hld
          simp [upC, lookC_cons] at hc'; subst hc'
          refine ⟨w.heap.size, vs, el, by show (if _ then _ else _) = _; simp, heap_alloc_new w _, hc.1.symm, hc.2.1, fun j x hx => ?_, fun j => ?_, fun hx => Nat.lt_irrefl _ (hX _ hx)⟩
          · have := (hc.2.2 j x hx).mono (fun _ _ h => h) hle (fun _ _ h => h)
            simpa using this
          · cases hI : I ⟨w.heap.size, j, none⟩ with
            | none => rfl
            | some v => exact absurd (World.block_lt_of_cell? w _ (r.mem.im _ _ hI)) (Nat.lt_irrefl _)
        · have hc'' : lookC (upC (ce :: up) l) d' = some c' := by
            cases l with
            | zero => simp only [upC, lookC_cons] at hc' ⊢; rw [if_neg (fun e => hld ⟨rfl, e.symm⟩)] at hc'; exact hc'
            | succ l => exact hc'
          obtain ⟨b, arr, el', h1, h2, h3, h4, h5, h6⟩ := hmem.cell l d' c' hc''
          refine ⟨b, arr, el', hle _ _ _ h1, h2, h3, h4, fun j x hx => (h5 j x hx).mono (fun _ _ h => h) (fun l' d0 b0 h => hle _ _ _ h) (fun _ _ h => h), h6⟩
      · have hb : (if l = 0 ∧ d' = d then some w.heap.size else β l d') = some b := hb
        have hb' : (if l' = 0 ∧ d'' = d then some w.heap.size else β l' d'') = some b := hb'
        split at hb <;> split at hb'
        · rename_i h1 h2; exact ⟨by omega, by omega⟩
        · cases hb; exact absurd (hnew _ _ _ hb') (Nat.lt_irrefl _)
        · cases hb'; exact absurd (hnew _ _ _ hb) (Nat.lt_irrefl _)
        · exact r.mem.inj _ _ _ _ _ hb hb'
      · have hb : (if l = 0 ∧ d' = d then some w.heap.size else β l d') = some b := hb
        split at hb
        · rename_i h; obtain ⟨rfl, rfl⟩ := h; exact ⟨c, by simp [upC, lookC_cons]⟩
        · obtain ⟨c', hc'⟩ := r.mem.keys l d' b hb
          cases l with
          | zero => simp only [upC] at hc' ⊢; rw [lookC_cons]; split <;> exact ⟨_, by first | rfl | exact hc'⟩
          | succ l => exact ⟨c', hc'⟩
      · refine ⟨fun t g hg => ?_, r.own.inj⟩
        obtain ⟨cur, h1, h2, h3, h4, h5, h6, h7⟩ := (r.own.alloc (.cells vs el)).row t g hg
        refine ⟨cur, h1, h2, h3, h4, h5, h6, fun l d' hb => ?_⟩
        have hb : (if l = 0 ∧ d' = d then some w.heap.size else β l d') = some g.b := hb
        split at hb
        · obtain ⟨cur', h1', _⟩ := r.own.row t g hg
          have := heap_lt h1'
          simp at hb; omega
        · exact h7 l d' hb
    exact base.put (blt_lt hd) (.ptr 0 d 0 _ (by show (if _ then _ else _) = _; simp))
  refine ⟨_, I, β', σ, h, hrel, .alloc _ _ _ _ hX, ⟨fun l => ?_, fun _ => rfl⟩⟩
  funext d'
  show (if l + 1 = 0 ∧ d' = d then _ else _) = _
  rw [if_neg (by omega)]

theorem I_none {l d b : Nat} {c : List IV} {cs : List Ces} (m : MemR Γ.gl cs w I X β σ) (hc : lookC (upC cs l) d = some c) (hb : β l d = some b) {x : Addr} {v : Value} (hx : I x = some v) :
    x.block ≠ b ∧ x.spot = none := by
  have h1 := m.im x v hx
  have hs : x.spot = none := by
    unfold World.cell? at h1
    split at h1
    · split at h1
      · cases h1
      · rename_i h; simpa using h
    · cases h1
  obtain ⟨b', arr, el, h2, _, _, _, _, h3, _⟩ := m.cell l d c hc
  rw [hb] at h2; cases h2
  refine ⟨fun e => ?_, hs⟩
  obtain ⟨xb, xo, xs⟩ := x
  simp at hs e; subst hs; subst e
  rw [h3 xo] at hx; cases hx

theorem MemR.store {cs cs' : List Ces} (m : MemR Γ.gl cs w I X β σ) {l d b el : Nat} {c c' : List IV} {arr arr' : Array Value} (hc : lookC (upC cs l) d = some c)
    (hcs : ∀ l' d', lookC (upC cs' l') d' = if l' = l ∧ d' = d then some c' else lookC (upC cs l') d') (hb : β l d = some b) (hh : w.heap[b]? = some (.cells arr el (0, 0)))
    (hs : arr'.size = c'.length) (h1 : ∀ (j : Nat) u, arr'[j]? = some u → u.oneCell' = true) (hV : ∀ (j : Nat) x, c'[j]? = some x → V I (fun l' => β (l + l')) (σ l) x (arr'.getD j undef)) :
    MemR Γ.gl cs' (w.setRow b arr') I X β σ := by
  refine ⟨fun l' d' c0 hc0 => ?_, m.inj, fun l' d' b' hb' => ?_, fun x v hx => ?_, m.glo, fun b hb => by have := m.xb b hb; simpa using this⟩
  · rw [hcs] at hc0
    by_cases hld : l' = l ∧ d' = d
    · obtain ⟨rfl, rfl⟩ := hld
      simp at hc0; subst hc0
      obtain ⟨b', arr0, el0, g1, g2, g3, g4, g5, g6⟩ := m.cell _ _ _ hc
      rw [hb] at g1; cases g1
      exact ⟨b, arr', el, hb, setRow_heap w b arr arr' el _ hh, hs, h1, hV, g6⟩
    · rw [if_neg hld] at hc0
      obtain ⟨b', arr0, el0, g1, g2, g3⟩ := m.cell _ _ _ hc0
      refine ⟨b', arr0, el0, g1, ?_, g3⟩
      rw [setRow_other w b b' arr' (fun e => hld (by subst e; exact m.inj _ _ _ _ _ g1 hb))]
      exact g2
  · rw [hcs]
    split
    · exact ⟨_, rfl⟩
    · exact m.keys l' d' b' hb'
  · obtain ⟨hne, _⟩ := I_none m hc hb hx
    rw [World.cell?_of_block (w := w) (setRow_other w b x.block arr' hne)]
    exact m.im x v hx

theorem setRow_fix (w : World) (b : Nat) (arr : Array Value) (k : Nat) (o : Obj) (hk : w.heap[k]? = some o) (ho : fixed o = true) : (w.setRow b arr).heap[k]? = some o := by
  by_cases e : k = b
  · subst e
    unfold World.setRow
    simp only [Array.getElem?_modify, if_true, hk, Option.map_some]
    cases o <;> first | rfl | (cases ho)
  · rw [setRow_other w b k arr e]; exact hk
theorem Ext.setRow {b : Nat} (hX : ¬ X b) (arr : Array Value) : Ext I X w I (w.setRow b arr) :=
  ⟨rfl, rfl, rfl, by simp, fun k hk => setRow_other w b k arr (fun e => hX (e ▸ hk)), fun _ _ h => h, fun _ _ => rfl, fun k o hk ho => setRow_fix w b arr k o hk ho⟩

theorem OwnR.setRow {s : Sig} (m : OwnR w I X β s) {l d b : Nat} (hb : β l d = some b) (arr : Array Value) : OwnR (w.setRow b arr) I X β s := by
  refine ⟨fun t g hg => ?_, m.inj⟩
  obtain ⟨cur, h1, h2, h3, h4, h5, h6, h7⟩ := m.row t g hg
  exact ⟨cur, by rw [setRow_other w b g.b arr (fun e => h7 l d (e ▸ hb))]; exact h1, h2, h3, h4, h5, h6, h7⟩

/-- The cells behind a store. -/
theorem lay_vals {β0 : Beta} {s : Sig} {c x c' : List IV} {arr vs : Array Value} {off : Nat} (hl : lay c off x = some c') (hsz : arr.size = c.length)
    (h1 : ∀ (j : Nat) (u : Value), arr[j]? = some u → u.oneCell' = true) (hV : ∀ (j : Nat) y, c[j]? = some y → V I β0 s y (arr.getD j undef)) (hx : CV I β0 s x vs) :
    CV I β0 s c' (arr.toList.take off ++ vs.toList ++ arr.toList.drop (off + vs.toList.length)).toArray ∧ off + vs.toList.length ≤ arr.size := by
  obtain ⟨g1, g2, g3⟩ := lay_spec c off x c' hl
  obtain ⟨e1, e2, e3⟩ := hx
  have hlen : vs.toList.length = x.length := by simp [e1]
  have key : ∀ j, (arr.toList.take off ++ vs.toList ++ arr.toList.drop (off + vs.toList.length))[j]? = if off ≤ j ∧ j < off + x.length then vs[j - off]? else arr[j]? := by
    intro j
    have ht : (arr.toList.take off).length = off := by simp; omega
    by_cases hj : j < off
    · rw [List.append_assoc, List.getElem?_append_left (by omega), List.getElem?_take, if_pos hj, if_neg (by omega)]; simp
    · by_cases hj2 : j < off + x.length
      · rw [List.append_assoc, List.getElem?_append_right (by omega), ht, List.getElem?_append_left (by omega), if_pos (by omega)]; simp
      · rw [List.getElem?_append_right (by simp; omega), if_neg (by omega), List.getElem?_drop]
        simp only [List.length_append, ht, hlen, Array.getElem?_toList]
        congr 1; omega
  refine ⟨⟨by simp; omega, fun j u hu => ?_, fun j y hy => ?_⟩, by omega⟩
  · rw [List.getElem?_toArray, key] at hu
    split at hu
    · exact e2 _ _ hu
    · exact h1 _ _ hu
  · rw [g3] at hy
    simp only [Array.getD_eq_getD_getElem?, List.getElem?_toArray, key] at hV e3 ⊢
    split at hy
    · rename_i h; rw [if_pos h]; exact e3 _ _ hy
    · rename_i h; rw [if_neg h]; exact hV _ _ hy

theorem cellsK_spec {v : IV} {n : Nat} {K : List IV → Prop} (h : cellsK v n K) : ∃ c, cellsI v = some c ∧ c.length = n ∧ K c := by
  unfold cellsK at h
  split at h
  · rename_i c hc
    split at h
    · rename_i hn; exact ⟨c, hc, (beq_iff _ _).1 hn, h⟩
    · exact h.elim
  · exact h.elim

theorem run_storeAt {P : Program} {t n : Nat} (hs : (P.info? t).map (·.size) = some n) {w : World} {b off el : Nat} {arr : Array Value} {v : Value}
    (hh : w.heap[b]? = some (.cells arr el (0, 0))) (hn : v.cells.size = n) (h1 : ∀ (j : Nat) (u : Value), v.cells[j]? = some u → u.oneCell' = true) (hl : off + v.cells.toList.length ≤ arr.size) :
    (Instr.storeAt t (.pointer (some ⟨b, off, none⟩)) v).run P w = .ok () (w.setRow b (arr.toList.take off ++ v.cells.toList ++ arr.toList.drop (off + v.cells.toList.length)).toArray) := by
  have hst := run_storeCells_at P b off el v.cells.toList 0 arr w hh (by simpa using hl) (fun u hu => by
    obtain ⟨j, hj⟩ := List.getElem?_of_mem hu
    exact h1 j u (by simpa using hj))
  simp only [Nat.add_zero] at hst
  simp [Instr.storeAt, Instr.sureAddr, storeVar, run_sz hs, hn, hst]

theorem storeI_sound {t : Nat} {inf : TypeInfo} {p v : IV} {vp vv : Value} (hs : (Γ.P.info? t).map (·.size) = some (Γ.T t).size) (h : storeI S (Γ.T t).size p v K)
    (r : Rel Γ S a w I X β σ) (hp : V I β (σ 0) p vp) (hv : V I β (σ 0) v vv) :
    ∃ w', (Instr.storeAt t vp vv).run Γ.P w = .ok () w' ∧ Aft Γ K I X w β σ a w' := by
  obtain ⟨tm, ce, up⟩ := S
  cases p with
  | ptr l d off =>
    obtain ⟨b, rfl, hb⟩ := hp.ptr_inv
    cases l with
    | zero =>
      simp only [storeI] at h
      split at h
      · rename_i c hc
        obtain ⟨x, hx, hn, h⟩ := cellsK_spec h
        split at h
        · rename_i c' hl
          obtain ⟨b', arr, el, g1, g2, g3, g4, g5, g6, g7⟩ := r.mem.cell 0 d c hc
          rw [hb] at g1; cases g1
          simp only [Nat.zero_add] at g5
          have hcv := hv.cells hx
          obtain ⟨k1, k2⟩ := lay_vals hl g3 g4 g5 hcv
          refine ⟨_, run_storeAt hs g2 (by rw [← hcv.1, hn]) hcv.2.1 k2, _, I, β, σ, h, ⟨r.tm, r.df.ext (I := I) (.setRow g7 _), r.nt, ?_, r.own.setRow hb _⟩, .setRow g7 _, .refl _ _⟩
          refine MemR.store (l := 0) (d := d) (c := c) r.mem (show lookC (upC (ce :: up) 0) d = some c from hc) (fun l' d' => ?_) hb g2 k1.1.symm k1.2.1 (by simpa using k1.2.2)
          cases l' with
          | zero => simp only [upC, lookC_putC, show lookC ce d = some c from hc]; by_cases e : d = d' <;> simp [e, eq_comm]
          | succ l' => simp [upC]
        · exact h.elim
      · exact h.elim
    | succ l =>
      simp only [storeI] at h
      split at h
      · rename_i c y hc hy
        obtain ⟨x, hx, hn, h⟩ := cellsK_spec h
        split at h
        · rename_i c' hl
          obtain ⟨b', arr, el, g1, g2, g3, g4, g5, g6, g7⟩ := r.mem.cell (l + 1) d c hc
          rw [hb] at g1; cases g1
          have hv' : V I (fun l' => β (l + 1 + l')) (σ (l + 1)) y vv := hv.lower (l + 1) y hy
          have hcv := hv'.cells hx
          obtain ⟨k1, k2⟩ := lay_vals hl g3 g4 g5 hcv
          refine ⟨_, run_storeAt hs g2 (by rw [← hcv.1, hn]) hcv.2.1 k2, _, I, β, σ, h, ⟨r.tm, r.df.ext (I := I) (.setRow g7 _), r.nt, ?_, r.own.setRow hb _⟩, .setRow g7 _, .refl _ _⟩
          refine MemR.store (l := l + 1) (d := d) (c := c) r.mem (show lookC (upC (ce :: up) (l + 1)) d = some c from hc) (fun l' d' => ?_) hb g2 k1.1.symm k1.2.1 k1.2.2
          cases l' with
          | zero => simp [upC]
          | succ l' =>
            simp only [upC, upC_putUp]
            by_cases e : l' = l
            · subst e; simp only [if_true, lookC_putC, show lookC (upC up l') d = some c from hc]; by_cases e : d = d' <;> simp [e, eq_comm]
            · simp [e]
        · exact h.elim
      · exact h.elim
  | _ => simp [storeI] at h

theorem loadI_sound {t : Nat} {p : IV} {vp : Value} {K : IV → Prop} (hs : (Γ.P.info? t).map (·.size) = some (Γ.T t).size) (ha : aggOf Γ.P t = some (Γ.T t).agg) (h0 : 0 < (Γ.T t).size)
    (h1 : (Γ.T t).agg = false → (Γ.T t).size = 1) (h : loadI S (Γ.T t) p K) (r : Rel Γ S a w I X β σ) (hp : V I β (σ 0) p vp) :
    ∃ v u, K v ∧ V I β (σ 0) v u ∧ (Instr.loadAt t vp).run Γ.P w = .ok u w := by
  have fin : ∀ (b off : Nat) (f : Nat → Value), (∀ j, j < (Γ.T t).size → w.cell? ⟨b, off + j, none⟩ = some (f j)) →
      (Instr.loadAt t (.pointer (some ⟨b, off, none⟩))).run Γ.P w = .ok (if (Γ.T t).agg then .agg ((List.range (Γ.T t).size).map f).toArray else f 0) w := by
    intro b off f hf
    simp [Instr.loadAt, Instr.sureAddr, run_loadVar' hs ha h0 hf]
  have bound : ∀ (off len : Nat), ((Γ.T t).agg = true → off + (Γ.T t).size ≤ len) → ((Γ.T t).agg = false → off < len) → off + (Γ.T t).size ≤ len := by
    intro off len g1 g2
    cases hag : (Γ.T t).agg
    · have := h1 hag; have := g2 hag; omega
    · exact g1 hag
  cases p with
  | ptr l d off =>
    obtain ⟨b, rfl, hb⟩ := hp.ptr_inv
    cases l with
    | zero =>
      simp only [loadI] at h
      split at h
      · rename_i c hc
        obtain ⟨b', arr, el, g1, g2, g3, g4, g5, g6, g7⟩ := r.mem.cell 0 d c hc
        rw [hb] at g1; cases g1
        simp only [Nat.zero_add] at g5
        have hone : ∀ j, j < c.length → (arr.getD j undef).oneCell' = true := by
          intro j hj
          have hj' : j < arr.size := by omega
          exact g4 j _ (by simp [Array.getD_eq_getD_getElem?, hj'])
        obtain ⟨v, hk, k1, k2, k3⟩ := part1_sound h hone g5 h0
        have hbd := bound off c.length k1 k2
        refine ⟨v, _, hk, k3, ?_⟩
        rw [fin b off (fun j => arr.getD (off + j) undef) (fun j hj => by rw [cell_of_row w b _ arr el _ g2]; have : off + j < arr.size := by omega
                                                                          simp [this])]
        simp
      · exact h.elim
    | succ l =>
      simp only [loadI] at h
      split at h
      · rename_i c hc
        obtain ⟨b', arr, el, g1, g2, g3, g4, g5, g6, g7⟩ := r.mem.cell (l + 1) d c hc
        rw [hb] at g1; cases g1
        have hone : ∀ j, j < c.length → (arr.getD j undef).oneCell' = true := by
          intro j hj
          have hj' : j < arr.size := by omega
          exact g4 j _ (by simp [Array.getD_eq_getD_getElem?, hj'])
        obtain ⟨v, hk, k1, k2, k3⟩ := part1_sound h hone g5 h0
        have hbd := bound off c.length k1 k2
        refine ⟨_, _, hk, k3.lift (l + 1), ?_⟩
        rw [fin b off (fun j => arr.getD (off + j) undef) (fun j hj => by rw [cell_of_row w b _ arr el _ g2]; have : off + j < arr.size := by omega
                                                                          simp [this])]
        simp
      · exact h.elim
  | vptr e n f i j =>
    obtain ⟨b, off, g, rfl, hi, hl, hI, hone, hD⟩ := hp.vptr_inv
    simp only [loadI] at h
    obtain ⟨v, hk, k1, k2, k3⟩ := part1_sound h (f := g i) (fun j hj => hone i j hi (by rw [hl i hi] at hj; exact hj)) (fun j x hx => .data (hD i j x hi hx)) h0
    have hbd := bound j _ k1 k2
    rw [hl i hi] at hbd
    refine ⟨v, _, hk, k3, ?_⟩
    rw [fin b (off + i * e + j) (fun j' => g i (j + j')) (fun j' hj' => by have := r.mem.im _ _ (hI i (j + j') hi (by omega)); rwa [← Nat.add_assoc] at this)]
    simp
  | _ => simp [loadI] at h

end
end Go.Proofs.YtllmejkmogepjaaDoor.Ix
