/-
  Ix9: one operation, sound (calls and appends by themselves: Ix10).
-/
import Derived.Test.YtllmejkmogepjaaDoorX8
namespace Go.Proofs.YtllmejkmogepjaaDoor.Ix
set_option linter.unusedVariables false

section
variable {Γ : Env} {S : St} {a : Act} {w : World} {I : Imm} {X : Nat → Prop} {β : Beta} {σ : Nat → Sig} {K : St → Prop}

theorem tyK_spec {t : Nat} {p : Prop} (h : tyK Γ t p) : 0 < (Γ.T t).size ∧ p := by
  unfold tyK at h
  split at h
  · rename_i hb; exact ⟨blt_lt hb, h⟩
  · exact h.elim

theorem TOK.get (hT : TOK Γ.P Γ.T) {t : Nat} (h : (Γ.T t).size ≠ 0 ∨ (Γ.T t).k ≠ .other) : ∃ inf d z, TOK1 Γ.P Γ.T t inf d z := by
  rcases hT t with h1 | h'
  · rw [h1] at h
    rcases h with h | h
    · exact absurd rfl h
    · exact absurd rfl h
  · exact h'

theorem TOK1.msize {t : Nat} {inf : TypeInfo} {d : TypeDesc} {z : Value} (h : TOK1 Γ.P Γ.T t inf d z) : (Γ.P.info? t).map (·.size) = some (Γ.T t).size := by
  rw [h.info]; simp [h.size]

theorem agg_of_vals {s : Sig} {xs : List IV} {off size : Nat} {cs : Array Value} (hb : off + size ≤ cs.size) :
    cs.extract off (off + size) = ((List.range size).map fun j => cs.getD (off + j) undef).toArray := by
  apply Array.ext
  · simp; omega
  · intro j h1 h2
    simp at h1 h2 ⊢
    have : off + j < cs.size := by omega
    simp [this]

theorem part_sound {P : Program} {t : Nat} {s : Sig} {off : Nat} {size : Nat} {ag : Bool} {xs : List IV} {cs : Array Value} {K : IV → Prop} (hs : (P.info? t).map (·.size) = some size)
    (ha : aggOf P t = some ag) (h0 : 0 < size) (h1 : ag = false → size = 1) (h : part1 ag off size xs K) (hc : CV I β s xs cs) :
    ∃ v u, K v ∧ V I β s v u ∧ (part t cs off).run P w = .ok u w := by
  obtain ⟨e1, e2, e3⟩ := hc
  obtain ⟨v, hk, k1, k2, k3⟩ := part1_sound h (f := fun j => cs.getD j undef) (fun j hj => by
    have hj' : j < cs.size := by omega
    exact e2 j _ (by simp [Array.getD_eq_getD_getElem?, hj'])) e3 h0
  refine ⟨v, _, hk, k3, ?_⟩
  cases ag
  · have := k2 rfl
    have hlt : off < cs.size := by omega
    simp [part, run_isAgg' ha, hlt]
  · have := k1 rfl
    simp only [part, Sem.run_bind, run_isAgg' ha, Result.andThen_ok, if_true, run_sz hs, Sem.run_pure]
    rw [agg_of_vals (s := s) (xs := xs) (by omega)]

theorem idx_spec {i : IV} {n : Nat} {s : Sig} {K : Nat → Prop} {v : Value} (h : idx i n K) (hv : V I β s i v) : ∃ k m, v = .int k m ∧ 0 ≤ m ∧ m < n ∧ K m.toNat := by
  unfold idx at h
  split at h
  · rename_i k m
    obtain ⟨h1, h2⟩ := chk_spec h
    obtain ⟨h3, h4⟩ := chk_spec h2
    simp at h1 h3
    exact ⟨k, m, hv.int_inv, h1, h3, h4⟩
  · exact h.elim

theorem addI_spec {p : IV} {n : Nat} {s : Sig} {K : IV → Prop} {v : Value} (h : addI p n K) (hv : V I β s p v) : ∃ b off q, v = .pointer (some ⟨b, off, none⟩) ∧ K q ∧ V I β s q (.pointer (some ⟨b, off + n, none⟩)) := by
  unfold addI at h
  split at h
  · obtain ⟨b, rfl, hb⟩ := hv.ptr_inv
    exact ⟨b, _, _, rfl, h, .ptr _ _ _ b hb⟩
  · rename_i e m f i j
    obtain ⟨b, off, g, rfl, hi, hl, hI, h1, hD⟩ := hv.vptr_inv
    exact ⟨b, _, _, rfl, h, by
      have := D.vptr (I := I) e m f i (j + n) b off g hi hl hI h1 hD
      rw [← Nat.add_assoc] at this
      exact .data this⟩
  · exact h.elim

theorem fill_foldl (off : Nat) : ∀ (vs : List Value) (k : Nat) (cells : Array Value), 
    (((vs.zipIdx k).foldl (fun (cs : Array Value) (x : Value × Nat) => cs.setIfInBounds (off + x.2) x.1) cells).size = cells.size) ∧
    ∀ j, ((vs.zipIdx k).foldl (fun (cs : Array Value) (x : Value × Nat) => cs.setIfInBounds (off + x.2) x.1) cells)[j]? =
      if off + k ≤ j ∧ j < off + k + vs.length ∧ j < cells.size then vs[j - (off + k)]? else cells[j]?
  | [], k, cells => by simp; intro j h1 h2; omega
  | v :: vs, k, cells => by
    obtain ⟨h1, h2⟩ := fill_foldl off vs (k + 1) (cells.setIfInBounds (off + k) v)
    simp only [List.zipIdx_cons, List.foldl_cons]
    refine ⟨by rw [h1]; simp, fun j => ?_⟩
    rw [h2]
    simp only [Array.size_setIfInBounds, Array.getElem?_setIfInBounds, List.length_cons]
    by_cases hj : j = off + k
    · subst hj
      rw [if_neg (show ¬ (off + (k + 1) ≤ off + k ∧ off + k < off + (k + 1) + vs.length ∧ off + k < cells.size) by omega)]
      by_cases hs : off + k < cells.size
      · simp [hs]
      · simp [hs]
    · by_cases hc : off + (k + 1) ≤ j ∧ j < off + (k + 1) + vs.length ∧ j < cells.size
      · rw [if_pos hc, if_pos (by omega), show j - (off + k) = (j - (off + (k + 1))) + 1 by omega]; simp
      · rw [if_neg hc, if_neg (fun e => hj e.symm), if_neg (by omega)]

theorem fill_step {s : Sig} {z z' c : List IV} {cells vs : Array Value} {off : Nat} (hl : lay z off c = some z') (hz : CV I β s z cells) (hc : CV I β s c vs) :
    off + vs.size ≤ cells.size ∧ CV I β s z' (vs.zipIdx.foldl (fun (cs : Array Value) (x : Value × Nat) => cs.setIfInBounds (off + x.2) x.1) cells) := by
  obtain ⟨g1, g2, g3⟩ := lay_spec z off c z' hl
  obtain ⟨e1, e2, e3⟩ := hz
  obtain ⟨d1, d2, d3⟩ := hc
  have hf := fill_foldl off vs.toList 0 cells
  have heq : vs.zipIdx.foldl (fun (cs : Array Value) (x : Value × Nat) => cs.setIfInBounds (off + x.2) x.1) cells = (vs.toList.zipIdx 0).foldl (fun (cs : Array Value) (x : Value × Nat) => cs.setIfInBounds (off + x.2) x.1) cells := by
    rw [← Array.foldl_toList, Array.toList_zipIdx]
  rw [heq]
  obtain ⟨f1, f2⟩ := hf
  simp only [Nat.add_zero, Array.length_toList] at f2
  refine ⟨by omega, by rw [f1, g2, e1], fun j u hu => ?_, fun j y hy => ?_⟩
  · rw [f2] at hu
    split at hu
    · exact d2 _ _ (by simpa using hu)
    · exact e2 _ _ hu
  · rw [g3] at hy
    simp only [Array.getD_eq_getD_getElem?, f2] at e3 d3 ⊢
    split at hy
    · rename_i h
      rw [if_pos (by omega)]
      have := d3 _ _ hy
      simpa using this
    · rename_i h
      rw [if_neg (by omega)]
      exact e3 _ _ hy

theorem buildI_sound (r : Rel Γ S a w I X β σ) {place : Nat → Option (Nat × Nat)} {placeR : Nat → Option (Nat × Nat)} (hpl : ∀ i x, place i = some x → placeR i = some x) :
    ∀ (parts : List (Nat × Operand)) (z : List IV) (cells : Array Value) (K : List IV → Prop), buildI Γ S place parts z K → CV I β (σ 0) z cells →
    ∃ xs cs, K xs ∧ CV I β (σ 0) xs cs ∧ Instr.fill placeR cells (parts.map fun (i, x) => (i, a.eval x)) = some cs
  | [], z, cells, K, h, hz => ⟨z, cells, h, hz, rfl⟩
  | (i, x) :: rest, z, cells, K, h, hz => by
    simp only [buildI] at h
    split at h
    · exact h.elim
    · rename_i off sz hp
      rw [ev_eq] at h
      obtain ⟨c, hc, hn, h⟩ := cellsK_spec h
      split at h
      · rename_i z' hl
        have hcv := (evo_V r x).cells hc
        obtain ⟨hb, hz'⟩ := fill_step hl hz hcv
        obtain ⟨xs, cs, hk, hcs, hf⟩ := buildI_sound r hpl rest z' _ K h hz'
        refine ⟨xs, cs, hk, hcs, ?_⟩
        simp only [List.map_cons, Instr.fill, hpl _ _ hp]
        rw [if_neg]
        · exact hf
        · have : (a.eval x).cells.size = sz := by rw [← hcv.1, hn]
          simp only [this]
          rw [this] at hb
          simp; omega
      · exact h.elim

theorem zero_CV {t : Nat} {inf : TypeInfo} {d : TypeDesc} {z : Value} (h : TOK1 Γ.P Γ.T t inf d z) (I : Imm) (β : Beta) (s : Sig) : CV I β s (Γ.T t).zero z.cells :=
  ⟨by rw [h.zlen, h.zsize], h.zone, fun j x hx => .data (h.zval I j x hx)⟩

theorem repZ_get (z : List IV) (hz : 0 < z.length) : ∀ (n j : Nat), (repZ n z)[j]? = if j < n * z.length then z[j % z.length]? else none
  | 0, j => by simp [repZ]
  | n + 1, j => by
    simp only [repZ]
    by_cases h : j < z.length
    · rw [List.getElem?_append_left h, if_pos (by rw [Nat.add_mul]; omega), Nat.mod_eq_of_lt h]
    · rw [List.getElem?_append_right (by omega), repZ_get z hz n]
      have h2 : (j - z.length) % z.length = j % z.length := by
        rw [← Nat.mod_eq_sub_mod (by omega)]
      rw [h2]
      by_cases h3 : j < (n + 1) * z.length
      · rw [if_pos h3, if_pos (by rw [Nat.add_mul] at h3; omega)]
      · rw [if_neg h3, if_neg (by rw [Nat.add_mul] at h3; omega)]

theorem repZ_len (z : List IV) : ∀ n, (repZ n z).length = n * z.length
  | 0 => by simp [repZ]
  | n + 1 => by simp [repZ, repZ_len z n, Nat.add_mul]; omega

theorem repZ_CV {s : Sig} {z : List IV} {zc : Array Value} (h : CV I β s z zc) (h0 : 0 < zc.size) (n : Nat) :
    CV I β s (repZ n z) ((Array.range (n * zc.size)).map (zc[· % zc.size]!)) := by
  obtain ⟨e1, e2, e3⟩ := h
  have hget : ∀ k, zc[k % zc.size]! = zc.getD (k % zc.size) undef := by
    intro k
    have : k % zc.size < zc.size := Nat.mod_lt _ h0
    simp [this]
  refine ⟨by simp [repZ_len, e1], fun j u hu => ?_, fun j x hx => ?_⟩
  · simp at hu
    obtain ⟨k, hk, rfl⟩ := hu
    have : k % zc.size < zc.size := Nat.mod_lt _ h0
    exact e2 (k % zc.size) _ (by simp [this])
  · rw [repZ_get z (by omega)] at hx
    split at hx
    · rename_i hj
      have := e3 _ _ hx
      rw [e1] at hj this
      have hlt : j % zc.size < zc.size := Nat.mod_lt _ h0
      simpa [hj, hlt] using this
    · cases hx

/-- A row of the call's own, new or grown: the state with the tag. -/
theorem fresh_fix (w : World) : ∀ o, w.heap[w.heap.size]? = some o → fixed o = false := by intro o h; simp at h
theorem cells_fix {w : World} {b el : Nat} {cur : Array Value} (h : w.heap[b]? = some (.cells cur el (0, 0))) : ∀ o, w.heap[b]? = some o → fixed o = false := by intro o h'; rw [h] at h'; cases h'; rfl

theorem row_sound {d e n el b : Nat} {f : Nat → List IV} {vs : Array Value} {c : Nat} (r : Rel Γ S a w I X β σ) (htag : σ 0 d = none) (h : putT Γ S (some d) (.lst (some d) e n f) K)
    (hn : n ≤ c) (hc : c ≤ maxLen) (hs : vs.size = c * e) (h1 : ∀ (j : Nat) u, vs[j]? = some u → j < n * e → u.oneCell' = true)
    (hf : ∀ i, i < n → (f i).length = e) (hD : ∀ i (j : Nat) x, i < n → (f i)[j]? = some x → D I x (vs.getD (i * e + j) undef)) (w' : World)
    (hh : w'.heap[b]? = some (.cells vs el (0, 0))) (hold : ∀ (k : Nat) (o : Obj), k ≠ b → w.heap[k]? = some o → w'.heap[k]? = some o) (hsz : w.heap.size ≤ w'.heap.size)
    (hbX : ¬ X b) (hbβ : ∀ l d, β l d ≠ some b) (hbσ : ∀ t g, σ 0 t = some g → g.b ≠ b)
    (hbI : ∀ x v, I x = some v → x.block = b → x.off < n * e ∧ vs[x.off]? = some v)
    (hos : w'.os = w.os) (hta : w'.tape = w.tape) (hou : w'.output = w.output) (hfx : ∀ o, w.heap[b]? = some o → fixed o = false) :
    Aft Γ K I X w β σ (a.put (some d) (.slice (some ⟨b, 0, none⟩) n c)) w' := by
  have hfix : ∀ (k : Nat) o, w.heap[k]? = some o → fixed o = true → w'.heap[k]? = some o := fun k o hk ho => by
    by_cases e : k = b
    · subst e; have := hfx o hk; rw [this] at ho; cases ho
    · exact hold k o e hk
  let I' : Imm := fun x => if x.block = b then (if x.off < n * e ∧ x.spot = none then some (vs.getD x.off undef) else none) else I x
  have hspot : ∀ x v, I x = some v → x.spot = none := by
    intro x v hx
    have h1 := r.mem.im x v hx
    unfold World.cell? at h1
    split at h1
    · split at h1
      · cases h1
      · rename_i h; simpa using h
    · cases h1
  have hI : ∀ x v, I x = some v → I' x = some v := by
    intro x v hx
    show (if _ then _ else _) = _
    by_cases hb : x.block = b
    · obtain ⟨g1, g2⟩ := hbI x v hx hb
      rw [if_pos hb, if_pos ⟨g1, hspot x v hx⟩]
      simp [Array.getD_eq_getD_getElem?, g2]
    · rw [if_neg hb]; exact hx
  have hbig : n * e ≤ vs.size := by rw [hs]; exact Nat.mul_le_mul_right _ hn
  let σ' := setSig σ fun u => if u = d then some ⟨b, el, e, n, c⟩ else σ 0 u
  have hσ : ∀ u g, σ 0 u = some g → σ' 0 u = some g := by
    intro u g hu
    show (if _ then _ else _) = _
    rw [if_neg]; exact hu
    rintro rfl; rw [htag] at hu; cases hu
  have rel' : Rel Γ S a w' I' X β σ' := by
    refine ⟨fun i => (r.tm i).mono hI (fun _ _ _ h => h) hσ, r.df.to hfix (fun _ _ h => h), r.nt, ⟨fun l d' c0 hc0 => ?_, r.mem.inj, r.mem.keys, fun x v hx => ?_, fun g => (r.mem.glo g).mono hI, fun k hk => by have := r.mem.xb k hk; omega⟩, ⟨fun t g hg => ?_, fun t t' g g' hg hg' hb => ?_⟩⟩
    · obtain ⟨b', arr, el', g1, g2, g3, g4, g5, g6, g7⟩ := r.mem.cell l d' c0 hc0
      have hne : b' ≠ b := fun e => hbβ l d' (e ▸ g1)
      refine ⟨b', arr, el', g1, hold _ _ hne g2, g3, g4, fun j x hx => (g5 j x hx).mono hI (fun _ _ _ h => h) (fun t g h => ?_), fun j => ?_, g7⟩
      · cases l with
        | zero => exact hσ t g h
        | succ l => exact h
      · show (if _ then _ else _) = _
        rw [if_neg hne]; exact g6 j
    · replace hx : (if x.block = b then (if x.off < n * e ∧ x.spot = none then some (vs.getD x.off undef) else none) else I x) = some v := hx
      split at hx
      · rename_i hb
        split at hx
        · rename_i ho
          obtain ⟨xb, xo, xs⟩ := x
          simp only at hb ho hx; subst hb; obtain ⟨ho, rfl⟩ := ho
          rw [cell_of_row w' xb xo vs el _ hh]
          have : xo < vs.size := by omega
          simpa [this] using hx
        · cases hx
      · rename_i hb
        have h0 := r.mem.im x v hx
        have hlt := World.block_lt_of_cell? w _ h0
        have hsame : w'.heap[x.block]? = w.heap[x.block]? := by
          rw [Array.getElem?_eq_getElem hlt]
          exact hold _ _ hb (Array.getElem?_eq_getElem hlt)
        rw [World.cell?_of_block hsame]; exact h0
    · have hg : (if t = d then some _ else σ 0 t) = some g := hg
      split at hg
      · simp at hg; subst hg
        refine ⟨vs, hh, hn, hc, hs, fun j hj => ?_, hbX, hbβ⟩
        show (if _ then _ else _) = _
        rw [if_pos rfl, if_neg (by simp at hj ⊢; omega)]
      · obtain ⟨cur, k1, k2, k3, k4, k5, k6, k7⟩ := r.own.row t g hg
        refine ⟨cur, hold _ _ (hbσ t g hg) k1, k2, k3, k4, fun j hj => ?_, k6, k7⟩
        show (if _ then _ else _) = _
        rw [if_neg (hbσ t g hg)]; exact k5 j hj
    · have hg : (if t = d then some _ else σ 0 t) = some g := hg
      have hg' : (if t' = d then some _ else σ 0 t') = some g' := hg'
      split at hg <;> split at hg'
      · subst_vars; rfl
      · simp at hg; subst hg
        exact absurd hb.symm (hbσ t' g' hg')
      · simp at hg'; subst hg'
        exact absurd hb (hbσ t g hg)
      · exact r.own.inj t t' g g' hg hg' hb
  have hlt : ∀ i j, i < n → j < e → i * e + j < n * e := by
    intro i j hi hj
    have := Nat.mul_le_mul_right e (show i + 1 ≤ n by omega)
    rw [Nat.add_mul] at this; omega
  have hv : V I' β (σ' 0) (.lst (some d) e n f) (.slice (some ⟨b, 0, none⟩) n c) := by
    refine .own d e n f b el c (fun i j => vs.getD (i * e + j) undef) (by show (if _ then _ else _) = _; simp) hn hf (fun i j hi hj => ?_) (fun i j hi hj => ?_) (fun i j x hi hx => (hD i j x hi hx).mono hI)
    · show (if _ then _ else _) = _
      rw [if_pos rfl, if_pos ⟨hlt i j hi hj, rfl⟩]
    · have hl := hlt i j hi hj
      have hl2 : i * e + j < vs.size := by omega
      exact h1 (i * e + j) _ (by simp [hl2]) hl
  obtain ⟨S', hk, r'⟩ := putT_sound h rel' hv
  refine ⟨S', I', β, σ', hk, r', ⟨hos, hta, hou, hsz, fun k hk => ?_, hI, fun x hx => ?_, hfix⟩, .setSig β σ _⟩
  · have := r.mem.xb k hk
    have hne : k ≠ b := fun e => hbX (e ▸ hk)
    rw [Array.getElem?_eq_getElem this]
    exact hold _ _ hne (Array.getElem?_eq_getElem this)
  · show (if _ then _ else _) = _
    rw [if_neg (fun (e : x.block = b) => hbX (e ▸ hx))]

/-- A new block is nobody's. -/
theorem fresh_block (r : Rel Γ S a w I X β σ) : (¬ X w.heap.size) ∧ (∀ l d, β l d ≠ some w.heap.size) ∧ (∀ t g, σ 0 t = some g → g.b ≠ w.heap.size) ∧ ∀ x v, I x = some v → x.block ≠ w.heap.size := by
  refine ⟨fun h => Nat.lt_irrefl _ (r.mem.xb _ h), fun l d hb => ?_, fun t g hg hb => ?_, fun x v hx hb => ?_⟩
  · obtain ⟨c0, hc0⟩ := r.mem.keys l d _ hb
    obtain ⟨b, arr, el', g1, g2, _⟩ := r.mem.cell l d c0 hc0
    rw [hb] at g1; cases g1
    exact Nat.lt_irrefl _ (heap_lt g2)
  · obtain ⟨cur, h1, _⟩ := r.own.row t g hg
    have := heap_lt h1; omega
  · have := World.block_lt_of_cell? w _ (r.mem.im x v hx); omega

end
end Go.Proofs.YtllmejkmogepjaaDoor.Ix
