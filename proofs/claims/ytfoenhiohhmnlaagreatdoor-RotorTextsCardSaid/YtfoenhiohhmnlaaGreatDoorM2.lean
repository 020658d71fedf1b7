/- YtfoenhiohhmnlaaGreatDoorM2 -/
import Derived.Test.YtfoenhiohhmnlaaGreatDoorM1
import Derived.MapKept
import Derived.Laws.MakeOwn
import Derived.Laws.IdiomStrings
namespace Go.Proofs.YtfoenhiohhmnlaaGreatDoor.Ix
set_option linter.unusedVariables false
section
variable {Γ : Env} {S : St} {a : Act} {w : World} {I : Imm} {X : Nat → Prop} {β : Beta} {σ : Nat → Sig} {K : St → Prop}
theorem tyK_spec {t : Nat} {p : Prop} (h : tyK Γ t p) : 0 < (Γ.T t).size ∧ p := by
  unfold tyK at h
  split at h
  · rename_i hb; exact ⟨blt_lt hb, h⟩
  · exact h.elim
theorem TOK.get (hT : TOK Γ.P Γ.T) {t : Nat} (h : (Γ.T t).size ≠ 0 ∨ (Γ.T t).k ≠ .other) : ∃ inf d z, TOK1 Γ.P Γ.T t inf d z := by
  rcases hT t with h1 | h'
  · rw [h1] at h
    rcases h with h | h
    · exact absurd rfl h
    · exact absurd rfl h
  · exact h'
theorem TOK1.msize {t : Nat} {inf : TypeInfo} {d : TypeDesc} {z : Value} (h : TOK1 Γ.P Γ.T t inf d z) : (Γ.P.info? t).map (·.size) = some (Γ.T t).size := by
  rw [h.info]; simp [h.size]
theorem agg_of_vals {s : Sig} {xs : List IV} {off size : Nat} {cs : Array Value} (hb : off + size ≤ cs.size) :
    cs.extract off (off + size) = ((List.range size).map fun j => cs.getD (off + j) undef).toArray := by
  apply Array.ext
  · simp; omega
  · intro j h1 h2
    simp at h1 h2 ⊢
    have : off + j < cs.size := by omega
    simp [this]
theorem part_sound {P : Program} {t : Nat} {s : Sig} {off : Nat} {size : Nat} {ag : Bool} {xs : List IV} {cs : Array Value} {K : IV → Prop} (hs : (P.info? t).map (·.size) = some size)
    (ha : aggOf P t = some ag) (h0 : 0 < size) (h1 : ag = false → size = 1) (h : part1 ag off size xs K) (hc : CV I β s xs cs) :
    ∃ v u, K v ∧ V I β s v u ∧ (part t cs off).run P w = .ok u w := by
  obtain ⟨e1, e2, e3⟩ := hc
  obtain ⟨v, hk, k1, k2, k3⟩ := part1_sound h (f := fun j => cs.getD j undef) (fun j hj => by
    have hj' : j < cs.size := by omega
    exact e2 j _ (by simp [Array.getD_eq_getD_getElem?, hj'])) e3 h0
  refine ⟨v, _, hk, k3, ?_⟩
  cases ag
  · have := k2 rfl
    have hlt : off < cs.size := by omega
    simp [part, run_isAgg' ha, hlt]
  · have := k1 rfl
    simp only [part, Sem.run_bind, run_isAgg' ha, Result.andThen_ok, if_true, run_sz hs, Sem.run_pure]
    rw [agg_of_vals (s := s) (xs := xs) (by omega)]
theorem idx_spec {i : IV} {n : Nat} {s : Sig} {K : Nat → Prop} {v : Value} (h : idx i n K) (hv : V I β s i v) : ∃ k m, v = .int k m ∧ 0 ≤ m ∧ m < n ∧ K m.toNat := by
  unfold idx at h
  split at h
  · rename_i k m
    obtain ⟨h1, h2⟩ := chk_spec h
    obtain ⟨h3, h4⟩ := chk_spec h2
    simp at h1 h3
    exact ⟨k, m, hv.int_inv, h1, h3, h4⟩
  · exact h.elim
theorem addI_spec {p : IV} {n : Nat} {s : Sig} {K : IV → Prop} {v : Value} (h : addI p n K) (hv : V I β s p v) : ∃ b off q, v = .pointer (some ⟨b, off, none⟩) ∧ K q ∧ V I β s q (.pointer (some ⟨b, off + n, none⟩)) := by
  unfold addI at h
  split at h
  · obtain ⟨b, rfl, hb⟩ := hv.ptr_inv
    exact ⟨b, _, _, rfl, h, .ptr _ _ _ b hb⟩
  · rename_i e m f i j
    obtain ⟨b, off, g, rfl, hi, hl, hI, h1, hD⟩ := hv.vptr_inv
    exact ⟨b, _, _, rfl, h, by
      have := D.vptr (I := I) e m f i (j + n) b off g hi hl hI h1 hD
      rw [← Nat.add_assoc] at this
      exact .data this⟩
  · exact h.elim
theorem fill_foldl (off : Nat) : ∀ (vs : List Value) (k : Nat) (cells : Array Value),
    (((vs.zipIdx k).foldl (fun (cs : Array Value) (x : Value × Nat) => cs.setIfInBounds (off + x.2) x.1) cells).size = cells.size) ∧
    ∀ j, ((vs.zipIdx k).foldl (fun (cs : Array Value) (x : Value × Nat) => cs.setIfInBounds (off + x.2) x.1) cells)[j]? =
      if off + k ≤ j ∧ j < off + k + vs.length ∧ j < cells.size then vs[j - (off + k)]? else cells[j]?
  | [], k, cells => by simp; intro j h1 h2; omega
  | v :: vs, k, cells => by
    obtain ⟨h1, h2⟩ := fill_foldl off vs (k + 1) (cells.setIfInBounds (off + k) v)
    simp only [List.zipIdx_cons, List.foldl_cons]
    refine ⟨by rw [h1]; simp, fun j => ?_⟩
    rw [h2]
    simp only [Array.size_setIfInBounds, Array.getElem?_setIfInBounds, List.length_cons]
    by_cases hj : j = off + k
    · subst hj
      rw [if_neg (show ¬ (off + (k + 1) ≤ off + k ∧ off + k < off + (k + 1) + vs.length ∧ off + k < cells.size) by omega)]
      by_cases hs : off + k < cells.size
      · simp [hs]
      · simp [hs]
    · by_cases hc : off + (k + 1) ≤ j ∧ j < off + (k + 1) + vs.length ∧ j < cells.size
      · rw [if_pos hc, if_pos (by omega), show j - (off + k) = (j - (off + (k + 1))) + 1 by omega]; simp
      · rw [if_neg hc, if_neg (fun e => hj e.symm), if_neg (by omega)]
theorem fill_step {s : Sig} {z z' c : List IV} {cells vs : Array Value} {off : Nat} (hl : lay z off c = some z') (hz : CV I β s z cells) (hc : CV I β s c vs) :
    off + vs.size ≤ cells.size ∧ CV I β s z' (vs.zipIdx.foldl (fun (cs : Array Value) (x : Value × Nat) => cs.setIfInBounds (off + x.2) x.1) cells) := by
  obtain ⟨g1, g2, g3⟩ := lay_spec z off c z' hl
  obtain ⟨e1, e2, e3⟩ := hz
  obtain ⟨d1, d2, d3⟩ := hc
  have hf := fill_foldl off vs.toList 0 cells
  have heq : vs.zipIdx.foldl (fun (cs : Array Value) (x : Value × Nat) => cs.setIfInBounds (off + x.2) x.1) cells = (vs.toList.zipIdx 0).foldl (fun (cs : Array Value) (x : Value × Nat) => cs.setIfInBounds (off + x.2) x.1) cells := by
    rw [← Array.foldl_toList, Array.toList_zipIdx]
  rw [heq]
  obtain ⟨f1, f2⟩ := hf
  simp only [Nat.add_zero, Array.length_toList] at f2
  refine ⟨by omega, by rw [f1, g2, e1], fun j u hu => ?_, fun j y hy => ?_⟩
  · rw [f2] at hu
    split at hu
    · exact d2 _ _ (by simpa using hu)
    · exact e2 _ _ hu
  · rw [g3] at hy
    simp only [Array.getD_eq_getD_getElem?, f2] at e3 d3 ⊢
    split at hy
    · rename_i h
      rw [if_pos (by omega)]
      have := d3 _ _ hy
      simpa using this
    · rename_i h
      rw [if_neg (by omega)]
      exact e3 _ _ hy
theorem buildI_sound (r : Rel Γ S a w I X β σ) {place : Nat → Option (Nat × Nat)} {placeR : Nat → Option (Nat × Nat)} (hpl : ∀ i x, place i = some x → placeR i = some x) :
    ∀ (parts : List (Nat × Operand)) (z : List IV) (cells : Array Value) (K : List IV → Prop), buildI Γ S place parts z K → CV I β (σ 0) z cells →
    ∃ xs cs, K xs ∧ CV I β (σ 0) xs cs ∧ Instr.fill placeR cells (parts.map fun (i, x) => (i, a.eval x)) = some cs
  | [], z, cells, K, h, hz => ⟨z, cells, h, hz, rfl⟩
  | (i, x) :: rest, z, cells, K, h, hz => by
    simp only [buildI] at h
    split at h
    · exact h.elim
    · rename_i off sz hp
      rw [ev_eq] at h
      obtain ⟨c, hc, hn, h⟩ := cellsK_spec h
      split at h
      · rename_i z' hl
        have hcv := (evo_V r x).cells hc
        obtain ⟨hb, hz'⟩ := fill_step hl hz hcv
        obtain ⟨xs, cs, hk, hcs, hf⟩ := buildI_sound r hpl rest z' _ K h hz'
        refine ⟨xs, cs, hk, hcs, ?_⟩
        simp only [List.map_cons, Instr.fill, hpl _ _ hp]
        rw [if_neg]
        · exact hf
        · have : (a.eval x).cells.size = sz := by rw [← hcv.1, hn]
          simp only [this]
          rw [this] at hb
          simp; omega
      · exact h.elim
theorem zero_CV {t : Nat} {inf : TypeInfo} {d : TypeDesc} {z : Value} (h : TOK1 Γ.P Γ.T t inf d z) (I : Imm) (β : Beta) (s : Sig) : CV I β s (Γ.T t).zero z.cells :=
  ⟨by rw [h.zlen, h.zsize], h.zone, fun j x hx => .data (h.zval I j x hx)⟩
theorem repZ_get (z : List IV) (hz : 0 < z.length) : ∀ (n j : Nat), (repZ n z)[j]? = if j < n * z.length then z[j % z.length]? else none
  | 0, j => by simp [repZ]
  | n + 1, j => by
    simp only [repZ]
    by_cases h : j < z.length
    · rw [List.getElem?_append_left h, if_pos (by rw [Nat.add_mul]; omega), Nat.mod_eq_of_lt h]
    · rw [List.getElem?_append_right (by omega), repZ_get z hz n]
      have h2 : (j - z.length) % z.length = j % z.length := by
        rw [← Nat.mod_eq_sub_mod (by omega)]
      rw [h2]
      by_cases h3 : j < (n + 1) * z.length
      · rw [if_pos h3, if_pos (by rw [Nat.add_mul] at h3; omega)]
      · rw [if_neg h3, if_neg (by rw [Nat.add_mul] at h3; omega)]
theorem repZ_len (z : List IV) : ∀ n, (repZ n z).length = n * z.length
  | 0 => by simp [repZ]
  | n + 1 => by simp [repZ, repZ_len z n, Nat.add_mul]; omega
theorem repZ_CV {s : Sig} {z : List IV} {zc : Array Value} (h : CV I β s z zc) (h0 : 0 < zc.size) (n : Nat) :
    CV I β s (repZ n z) ((Array.range (n * zc.size)).map (zc[· % zc.size]!)) := by
  obtain ⟨e1, e2, e3⟩ := h
  have hget : ∀ k, zc[k % zc.size]! = zc.getD (k % zc.size) undef := by
    intro k
    have : k % zc.size < zc.size := Nat.mod_lt _ h0
    simp [this]
  refine ⟨by simp [repZ_len, e1], fun j u hu => ?_, fun j x hx => ?_⟩
  · simp at hu
    obtain ⟨k, hk, rfl⟩ := hu
    have : k % zc.size < zc.size := Nat.mod_lt _ h0
    exact e2 (k % zc.size) _ (by simp [this])
  · rw [repZ_get z (by omega)] at hx
    split at hx
    · rename_i hj
      have := e3 _ _ hx
      rw [e1] at hj this
      have hlt : j % zc.size < zc.size := Nat.mod_lt _ h0
      simpa [hj, hlt] using this
    · cases hx
theorem fresh_fix (w : World) {N : Nat} : ∀ o, w.heap[w.heap.size]? = some o → ∃ arr el, o = .cells arr el (0, 0) ∧ arr.size = N := by intro o h; simp at h
theorem cells_fix {w : World} {b el N : Nat} {cur : Array Value} (h : w.heap[b]? = some (.cells cur el (0, 0))) (hs : cur.size = N) : ∀ o, w.heap[b]? = some o → ∃ arr el, o = .cells arr el (0, 0) ∧ arr.size = N := by intro o h'; rw [h] at h'; cases h'; exact ⟨_, _, rfl, hs⟩
theorem rep_one {z : Array Value} (h0 : 0 < z.size) (h : ∀ (j : Nat) u, z[j]? = some u → u.oneCell' = true) (n : Nat) : ∀ (j : Nat) (u : Value), ((Array.range n).map fun i => z[i % z.size]!)[j]? = some u → u.oneCell' = true := fun j u hu => by
  simp only [Array.getElem?_map, Option.map_eq_some_iff] at hu
  obtain ⟨i, hi, rfl⟩ := hu
  have hlt : i % z.size < z.size := Nat.mod_lt _ h0
  exact h (i % z.size) _ (by rw [getElem!_pos z _ hlt]; exact Array.getElem?_eq_getElem hlt)
theorem row_sound {d e n el b : Nat} {f : Nat → List IV} {vs : Array Value} {c : Nat} (r : Rel Γ S a w I X β σ) (htag : σ 0 d = none) (h : putT Γ S (some d) (.lst (some d) e n f) K)
    (hn : n ≤ c) (hc : c ≤ maxLen) (hs : vs.size = c * e) (h1 : ∀ (j : Nat) u, vs[j]? = some u → u.oneCell' = true)
    (hf : ∀ i, i < n → (f i).length = e) (hD : ∀ i (j : Nat) x, i < n → (f i)[j]? = some x → D I x (vs.getD (i * e + j) undef)) (w' : World)
    (hh : w'.heap[b]? = some (.cells vs el (0, 0))) (hold : ∀ (k : Nat) (o : Obj), k ≠ b → w.heap[k]? = some o → w'.heap[k]? = some o) (hsz : w.heap.size ≤ w'.heap.size)
    (hbX : ¬ X b) (hbβ : ∀ l d, β l d ≠ some b) (hbσ : ∀ t g, σ 0 t = some g → g.b ≠ b)
    (hbI : ∀ x v, I x = some v → x.block = b → x.off < n * e ∧ vs[x.off]? = some v)
    (hos : w'.os = w.os) (hta : w'.tape = w.tape) (hou : w'.output = w.output) (hfx : ∀ o, w.heap[b]? = some o → ∃ arr el, o = .cells arr el (0, 0) ∧ arr.size = c * e) :
    Aft Γ K I X w β σ (a.put (some d) (.slice (some ⟨b, 0, none⟩) n c)) w' := by
  have hfix : ∀ (k : Nat) o, w.heap[k]? = some o → fixed o = true → w'.heap[k]? = some o := fun k o hk ho => by
    by_cases e : k = b
    · subst e; obtain ⟨_, _, rfl, _⟩ := hfx o hk; cases ho
    · exact hold k o e hk
  let I' : Imm := fun x => if x.block = b then (if x.off < n * e ∧ x.spot = none then some (vs.getD x.off undef) else none) else I x
  have hspot : ∀ x v, I x = some v → x.block = b → x.spot = none := by
    intro x v hx hb
    have h1 := r.mem.im x v hx
    have hlt := hcell_lt h1
    obtain ⟨arr, el', ho, _⟩ := hfx _ (by rw [← hb]; exact Array.getElem?_eq_getElem hlt)
    exact (hcell_cells h1 (by rw [Array.getElem?_eq_getElem hlt, ho])).1
  have hI : ∀ x v, I x = some v → I' x = some v := by
    intro x v hx
    show (if _ then _ else _) = _
    by_cases hb : x.block = b
    · obtain ⟨g1, g2⟩ := hbI x v hx hb
      rw [if_pos hb, if_pos ⟨g1, hspot x v hx hb⟩]
      simp [Array.getD_eq_getD_getElem?, g2]
    · rw [if_neg hb]; exact hx
  have hbig : n * e ≤ vs.size := by rw [hs]; exact Nat.mul_le_mul_right _ hn
  let σ' := setSig σ fun u => if u = d then some ⟨b, el, e, n, c⟩ else σ 0 u
  have hσ : ∀ u g, σ 0 u = some g → σ' 0 u = some g := by
    intro u g hu
    show (if _ then _ else _) = _
    rw [if_neg]; exact hu
    rintro rfl; rw [htag] at hu; cases hu
  have rel' : Rel Γ S a w' I' X β σ' := by
    refine ⟨fun i => (r.tm i).mono hI (fun _ _ _ h => h) hσ, r.df.to hfix (fun _ _ h => h), r.nt, ⟨fun l d' c0 hc0 => ?_, r.mem.inj, r.mem.keys, fun x v hx => ?_, fun g => (r.mem.glo g).mono hI, fun k hk => by have := r.mem.xb k hk; omega, r.mem.gz.of fun g0 arr0 el0 m0 hg0 => by
      by_cases q : g0 = b
      · subst q; obtain ⟨_, _, q1, q2⟩ := hfx _ hg0; cases q1; exact ⟨vs, el, _, hh, hs.trans q2.symm⟩
      · exact ⟨_, _, _, hold _ _ q hg0, rfl⟩⟩, ⟨fun t g hg => ?_, fun t t' g g' hg hg' hb => ?_⟩⟩
    · obtain ⟨b', arr, el', g1, g2, g3, g4, g5, g6, g7⟩ := r.mem.cell l d' c0 hc0
      have hne : b' ≠ b := fun e => hbβ l d' (e ▸ g1)
      refine ⟨b', arr, el', g1, hold _ _ hne g2, g3, g4, fun j x hx => (g5 j x hx).mono hI (fun _ _ _ h => h) (fun t g h => ?_), fun j => ?_, g7⟩
      · cases l with
        | zero => exact hσ t g h
        | succ l => exact h
      · show (if _ then _ else _) = _
        rw [if_neg hne]; exact g6 j
    · replace hx : (if x.block = b then (if x.off < n * e ∧ x.spot = none then some (vs.getD x.off undef) else none) else I x) = some v := hx
      split at hx
      · rename_i hb
        split at hx
        · rename_i ho
          obtain ⟨xb, xo, xs⟩ := x
          simp only at hb ho hx; subst hb; obtain ⟨ho, rfl⟩ := ho
          rw [hcell_none, cell_of_row w' xb xo vs el _ hh]
          have : xo < vs.size := by omega
          simpa [this] using hx
        · cases hx
      · rename_i hb
        have h0 := r.mem.im x v hx
        have hlt := hcell_lt h0
        have hsame : w'.heap[x.block]? = w.heap[x.block]? := by
          rw [Array.getElem?_eq_getElem hlt]
          exact hold _ _ hb (Array.getElem?_eq_getElem hlt)
        rw [hcell_of_block hsame]; exact h0
    · have hg : (if t = d then some _ else σ 0 t) = some g := hg
      split at hg
      · simp at hg; subst hg
        refine ⟨vs, hh, ⟨hn, h1⟩, hc, hs, fun j hj => ?_, hbX, hbβ⟩
        show (if _ then _ else _) = _
        rw [if_pos rfl, if_neg (by simp at hj ⊢; omega)]
      · obtain ⟨cur, k1, k2, k3, k4, k5, k6, k7⟩ := r.own.row t g hg
        refine ⟨cur, hold _ _ (hbσ t g hg) k1, k2, k3, k4, fun j hj => ?_, k6, k7⟩
        show (if _ then _ else _) = _
        rw [if_neg (hbσ t g hg)]; exact k5 j hj
    · have hg : (if t = d then some _ else σ 0 t) = some g := hg
      have hg' : (if t' = d then some _ else σ 0 t') = some g' := hg'
      split at hg <;> split at hg'
      · subst_vars; rfl
      · simp at hg; subst hg
        exact absurd hb.symm (hbσ t' g' hg')
      · simp at hg'; subst hg'
        exact absurd hb (hbσ t g hg)
      · exact r.own.inj t t' g g' hg hg' hb
  have hlt : ∀ i j, i < n → j < e → i * e + j < n * e := by
    intro i j hi hj
    have := Nat.mul_le_mul_right e (show i + 1 ≤ n by omega)
    rw [Nat.add_mul] at this; omega
  have hv : V I' β (σ' 0) (.lst (some d) e n f) (.slice (some ⟨b, 0, none⟩) n c) := by
    refine .own d e n f b el c (fun i j => vs.getD (i * e + j) undef) (by show (if _ then _ else _) = _; simp) hn hf (fun i j hi hj => ?_) (fun i j hi hj => ?_) (fun i j x hi hx => (hD i j x hi hx).mono hI)
    · show (if _ then _ else _) = _
      rw [if_pos rfl, if_pos ⟨hlt i j hi hj, rfl⟩]
    · have hl := hlt i j hi hj
      have hl2 : i * e + j < vs.size := by omega
      exact h1 (i * e + j) _ (by simp [hl2])
  obtain ⟨S', hk, r'⟩ := putT_sound h rel' hv
  refine ⟨S', I', β, σ', hk, r', ⟨hos, hta, hou, hsz, fun k hk => ?_, hI, fun x hx => ?_, hfix⟩, .setSig β σ _⟩
  · have := r.mem.xb k hk
    have hne : k ≠ b := fun e => hbX (e ▸ hk)
    rw [Array.getElem?_eq_getElem this]
    exact hold _ _ hne (Array.getElem?_eq_getElem this)
  · show (if _ then _ else _) = _
    rw [if_neg (fun (e : x.block = b) => hbX (e ▸ hx))]
theorem fresh_block (r : Rel Γ S a w I X β σ) : (¬ X w.heap.size) ∧ (∀ l d, β l d ≠ some w.heap.size) ∧ (∀ t g, σ 0 t = some g → g.b ≠ w.heap.size) ∧ ∀ x v, I x = some v → x.block ≠ w.heap.size := by
  refine ⟨fun h => Nat.lt_irrefl _ (r.mem.xb _ h), fun l d hb => ?_, fun t g hg hb => ?_, fun x v hx hb => ?_⟩
  · obtain ⟨c0, hc0⟩ := r.mem.keys l d _ hb
    obtain ⟨b, arr, el', g1, g2, _⟩ := r.mem.cell l d c0 hc0
    rw [hb] at g1; cases g1
    exact Nat.lt_irrefl _ (heap_lt g2)
  · obtain ⟨cur, h1, _⟩ := r.own.row t g hg
    have := heap_lt h1; omega
  · have := hcell_lt (r.mem.im x v hx); omega
end
end Go.Proofs.YtfoenhiohhmnlaaGreatDoor.Ix

namespace Go.Proofs.YtfoenhiohhmnlaaGreatDoor.Ix
set_option linter.unusedVariables false
section
variable {Γ : Env} {S : St} {a : Act} {w : World} {I : Imm} {X : Nat → Prop} {β : Beta} {σ : Nat → Sig} {K : St → Prop}
theorem run_ifaceNil {P : Program} {t : Nat} {ms : Array (String × TypeId)} {d : TypeId} {x : Value} (hu : P.underlying t = some (.interface ms)) (w : World) : (Op.equal t (.iface d x) .nilIface).run P w = .ok false w := by
  have : ∀ n, (Op.equalIn (n + 1) t (.iface d x) .nilIface).run P w = .ok false w := by
    intro n
    rw [Op.equalIn]
    simp only [Sem.run_bind, run_underlying hu, Result.andThen_ok]
    rfl
  exact this 9999
theorem run_nilNil {P : Program} {t : Nat} {ms : Array (String × TypeId)} (hu : P.underlying t = some (.interface ms)) (w : World) : (Op.equal t .nilIface .nilIface).run P w = .ok true w := by
  have : ∀ n, (Op.equalIn (n + 1) t .nilIface .nilIface).run P w = .ok true w := by
    intro n
    rw [Op.equalIn]
    simp only [Sem.run_bind, run_underlying hu, Result.andThen_ok]
    rfl
  exact this 9999
theorem nilB_sound (hT : TOK Γ.P Γ.T) {t : Nat} {op : BinOp} {x : IV} {vx : Value} {K : IV → Prop} {s : Sig} (h : nilB op (Γ.T t).k x K) (hx : V I β s x vx) (ox : Operand) :
    ∃ iv v, K iv ∧ V I β s iv v ∧ (do eqGuard op t ox (.const .nilIface) vx .nilIface; binOp op t vx .nilIface : Sem Value).run Γ.P w = .ok v w := by
  have key : (Γ.T t).k = .iface → ∃ ms, Γ.P.underlying t = some (.interface ms) := fun hk => by
    obtain ⟨inf, d, z, tk⟩ := TOK.get hT (t := t) (.inr (by rw [hk]; nofun))
    have := tk.kind
    rw [hk] at this
    obtain ⟨ms, hm⟩ := this
    exact ⟨ms, by rw [tk.und, hm]⟩
  unfold nilB at h
  split at h
  · rename_i hk
    obtain ⟨ms, hu⟩ := key hk
    have := hx.lit_inv; subst this
    exact ⟨_, .bool true, h, .data (.bool _), by simp [eqGuard, binOp, run_nilNil hu]⟩
  · rename_i hk
    obtain ⟨ms, hu⟩ := key hk
    have := hx.lit_inv; subst this
    exact ⟨_, .bool false, h, .data (.bool _), by simp [eqGuard, binOp, run_nilNil hu]⟩
  · rename_i hk
    obtain ⟨ms, hu⟩ := key hk
    obtain ⟨d, y, rfl⟩ : ∃ d y, vx = .iface d y := by cases hx with | data h => cases h with | ifc d x => exact ⟨d, x, rfl⟩
    exact ⟨_, .bool false, h, .data (.bool _), by simp [eqGuard, binOp, run_ifaceNil hu]⟩
  · rename_i hk
    obtain ⟨ms, hu⟩ := key hk
    obtain ⟨d, y, rfl⟩ : ∃ d y, vx = .iface d y := by cases hx with | data h => cases h with | ifc d x => exact ⟨d, x, rfl⟩
    exact ⟨_, .bool true, h, .data (.bool _), by simp [eqGuard, binOp, run_ifaceNil hu]⟩
  · exact h.elim
theorem bytes_ext {a b : ByteArray} (h : a.toList = b.toList) : a = b := by
  rw [ByteArray.toList_eq, ByteArray.toList_eq] at h
  have := Array.toList_inj.1 h
  cases a; cases b; simp only at this; rw [this]
theorem selM_spec {s : ByteArray} {z : IV} {K : IV → Bool → Prop} : ∀ (ks : List ByteArray) (xs : List IV), ks.length = xs.length → selM s ks xs z K →
    (∃ (i : Nat) (x : IV), ks[i]? = some s ∧ xs[i]? = some x ∧ K x true) ∨ ((∀ i : Nat, ks[i]? ≠ some s) ∧ K z false)
  | [], [], _, h => .inr ⟨fun i e => by simp at e, h⟩
  | [], _ :: _, hl, _ => by simp at hl
  | _ :: _, [], hl, _ => by simp at hl
  | k :: ks, x :: xs, hl, h => by
    simp only [selM] at h
    split at h
    · rename_i hb
      have : s = k := bytes_ext (by simpa using hb)
      subst this
      exact .inl ⟨0, x, rfl, rfl, h⟩
    · rename_i hb
      have hne : s ≠ k := fun e => by subst e; simp at hb
      rcases selM_spec ks xs (by simpa using hl) h with ⟨i, y, h1, h2, h3⟩ | ⟨h1, h2⟩
      · exact .inl ⟨i + 1, y, by simpa using h1, by simpa using h2, h3⟩
      · refine .inr ⟨fun i e => ?_, h2⟩
        cases i with
        | zero => simp at e; exact hne e.symm
        | succ i => exact h1 i (by simpa using e)
theorem V.mp_inv {s : Sig} {ks : List ByteArray} {xs : List IV} {v : Value} (h : V I β s (.mp ks xs) v) : ∃ b vs, v = .map (some b) ∧ MapAt I b ks vs ∧ xs.length = vs.size ∧ ∀ (j : Nat) x, xs[j]? = some x → V I β s x (vs.getD j undef) := by
  cases h with
  | data h => cases h
  | mp _ _ b vs hm hl h => exact ⟨b, vs, rfl, hm, hl, h⟩
theorem MapAt.heap (him : ∀ a v, I a = some v → hcell w a = some v) {b : Nat} {ks : List ByteArray} {us : Array Value} (h : MapAt I b ks us) : ∃ (es : Array MapEntry) (c : Nat), w.heap[b]? = some (.map es c) ∧
    (∀ e ∈ es.toList, ∃ (i : Nat) (k : ByteArray), ks[i]? = some k ∧ e.key = .string k ∧ e.val = us.getD i undef) ∧ ∀ (i : Nat) k, ks[i]? = some k → ∃ e ∈ es.toList, e.key = .string k := by
  obtain ⟨h1, h2, h3, π, h4, h5⟩ := h
  have hget : ∀ (i : Nat) k, ks[i]? = some k → ∃ (es : Array MapEntry) (c : Nat) (e : MapEntry), w.heap[b]? = some (.map es c) ∧ es.size = ks.length ∧ es[π i]? = some e ∧ e.key = .string k ∧ e.val = us.getD i undef := fun i k hk => by
    have h := him _ _ (h4 i k hk)
    unfold hcell at h
    simp only at h
    cases hb : w.heap[b]? with
    | none => rw [hb] at h; cases h
    | some o =>
      rw [hb] at h
      cases o with
      | map es c =>
        simp only at h
        split at h
        · rename_i hs
          cases he : es[π i]? with
          | none => rw [he] at h; cases h
          | some e =>
            rw [he] at h
            simp only [Option.map_some, Option.some.injEq, Value.tuple.injEq] at h
            have e1 : e.key = .string k ∧ e.val = us.getD i undef := by
              have := congrArg Array.toList h
              simpa using this
            exact ⟨es, c, e, rfl, hs, he, e1.1, e1.2⟩
        · cases h
      | cells c el f =>
        simp at h
      | _ => cases h
  obtain ⟨k0, hk0⟩ : ∃ k, ks[0]? = some k := ⟨_, List.getElem?_eq_getElem h2⟩
  obtain ⟨es, c, e0, g1, g2, _⟩ := hget 0 k0 hk0
  refine ⟨es, c, g1, fun e he => ?_, fun i k hk => ?_⟩
  · obtain ⟨j, hj⟩ := List.mem_iff_getElem?.1 he
    have hjl : j < ks.length := by
      have := (List.getElem?_eq_some_iff.1 hj).1
      simp at this; omega
    obtain ⟨i, hi, hp⟩ := h5 j hjl
    obtain ⟨es', c', e', k1, k2, k3, k4, k5⟩ := hget i _ (List.getElem?_eq_getElem hi)
    rw [g1] at k1; cases k1
    rw [hp] at k3
    have : e' = e := by
      rw [Array.getElem?_toList] at hj
      rw [hj] at k3; cases k3; rfl
    subst this
    exact ⟨i, _, List.getElem?_eq_getElem hi, k4, k5⟩
  · obtain ⟨es', c', e', k1, k2, k3, k4, k5⟩ := hget i k hk
    rw [g1] at k1; cases k1
    exact ⟨e', List.mem_of_getElem? (i := π i) (by simpa using k3), k4⟩
theorem lookK_sound (hT : TOK Γ.P Γ.T) {t : Nat} {m ix : IV} {vm vi : Value} {K : IV → Prop} {s : Sig} (him : ∀ a v, I a = some v → hcell w a = some v) (h : lookK Γ t m ix K) (hm : V I β s m vm) (hi : V I β s ix vi) :
    ∃ iv v, K iv ∧ V I β s iv v ∧ (Instr.lookup t vm vi true).run Γ.P w = .ok v w := by
  unfold lookK at h
  split at h
  case h_2 => exact h.elim
  rename_i kt e ks xs sk hk
  split at h
  case h_2 => exact h.elim
  rename_i hkt
  obtain ⟨_, h⟩ := tyK_spec h
  obtain ⟨he0, h⟩ := tyK_spec h
  rw [fv_eq] at h
  obtain ⟨inf, dd, z, tk⟩ := TOK.get hT (t := t) (.inr (by rw [hk]; nofun))
  have kd := tk.kind
  rw [hk] at kd
  obtain ⟨rfl, ie, vz, hie, hze⟩ := kd
  obtain ⟨inf', dd', z', tk'⟩ := TOK.get hT (t := kt) (.inr (by rw [hkt]; nofun))
  have kd' := tk'.kind
  rw [hkt] at kd'
  have kd' : dd' = .string := kd'
  subst kd'
  obtain ⟨inf2, dd2, z2, tk2⟩ := TOK.get hT (t := e) (.inl (by omega))
  have hz2 : z2 = .agg vz := by
    have := tk2.info
    rw [hie] at this
    cases this
    have := tk2.zero
    rw [hze] at this
    cases this; rfl
  subst hz2
  obtain ⟨b, us, rfl, hat, hl, hV⟩ := hm.mp_inv
  have := hi.str_inv
  subst this
  obtain ⟨es, clock, h4, hgot, hhas⟩ := hat.heap him
  have hkeys : ∀ e ∈ es.toList, MapKept.IsKey .string e.key := fun e he => by
    obtain ⟨i, k, _, e1, _⟩ := hgot e he
    rw [e1]; trivial
  have hlen : ks.length = xs.length := by rw [hat.1, hl]
  have run0 : ∀ r, Instr.findNow .string (.string sk) es.toList 0 = some r → (Instr.lookup t (.map (some b)) (.string sk) true).run Γ.P w = (match r with
      | some (_, v) => Result.ok (.tuple #[v, .bool true]) w
      | none => Result.ok (.tuple #[.agg vz, .bool false]) w) := fun r hr => by
    unfold Instr.lookup
    cases r with
    | none => simp [Sem.run_bind, run_underlying tk.und, Result.andThen_ok, MapKept.run_getObj_map h4, MapKept.run_checkKey (d := .string) tk'.und (k := .string sk) trivial, MapKept.run_findKey tk'.und hr, zeroValue, typeInfo, hie, hze]
    | some q => simp [Sem.run_bind, run_underlying tk.und, Result.andThen_ok, MapKept.run_getObj_map h4, MapKept.run_checkKey (d := .string) tk'.und (k := .string sk) trivial, MapKept.run_findKey tk'.und hr]
  have pair : ∀ (x : IV) (v : Value) (c : Bool), V I β s x v → V I β s (.tup [x, .bool c]) (.tuple #[v, .bool c]) := fun x v c hx => by
    refine .tup _ _ rfl fun j y hy => ?_
    match j, hy with
    | 0, hy => cases hy; exact hx
    | 1, hy => cases hy; exact .data (.bool c)
  rcases selM_spec ks xs hlen h with ⟨i, x, q1, q2, q3⟩ | ⟨q1, q2⟩
  · rcases MapKept.findNow_spec (d := .string) (k := .string sk) trivial es.toList 0 hkeys with ⟨_, hno⟩ | ⟨j', e', q, p1, p2⟩
    · obtain ⟨e', e1, e2⟩ := hhas i sk q1
      exact absurd e2 (hno e' e1)
    · obtain ⟨i', k', g1, g2, g3⟩ := hgot e' (List.mem_of_getElem? p1)
      rw [p2] at g2; cases g2
      have := hat.2.2.1 i i' sk q1 g1
      subst this
      exact ⟨_, _, q3, pair x _ true (hV i x q2), by rw [run0 _ q]; simp only; rw [g3]⟩
  · rcases MapKept.findNow_spec (d := .string) (k := .string sk) trivial es.toList 0 hkeys with ⟨q, _⟩ | ⟨j', e', q, p1, p2⟩
    · refine ⟨_, _, q2, pair _ _ false ?_, by rw [run0 _ q]⟩
      have hcv := zero_CV tk2 I β s
      exact .agg _ vz hcv.1 hcv.2.1 hcv.2.2
    · obtain ⟨i', k', g1, g2, g3⟩ := hgot e' (List.mem_of_getElem? p1)
      rw [p2] at g2; cases g2
      exact absurd g1 (q1 i')
end
end Go.Proofs.YtfoenhiohhmnlaaGreatDoor.Ix

namespace Go.Proofs.YtfoenhiohhmnlaaGreatDoor.Ix
set_option linter.unusedVariables false
section
variable {Γ : Env} {S : St} {a : Act} {w : World} {I : Imm} {X : Nat → Prop} {β : Beta} {σ : Nat → Sig} {K : St → Prop}
theorem Aft.mono {K K' : St → Prop} (hk : ∀ S, K S → K' S) {a' : Act} {w' : World} (h : Aft Γ K I X w β σ a' w') : Aft Γ K' I X w β σ a' w' :=
  let ⟨S', I', β', σ', h1, h2⟩ := h
  ⟨S', I', β', σ', hk _ h1, h2⟩
theorem Aft.sig {σ' : Nat → Sig} (hs : ∀ l, σ' (l + 1) = σ (l + 1)) {a' : Act} {w' : World} (h : Aft Γ K I X w β σ' a' w') : Aft Γ K I X w β σ a' w' :=
  let ⟨S', I', β', σ'', h1, h2, h3, h4⟩ := h
  ⟨S', I', β', σ'', h1, h2, h3, h4.1, fun l => (h4.2 l).trans (hs l)⟩
theorem litF_spec {e : Nat} {xs : List IV} {n : Nat} (hl : xs.length = n * e) (i : Nat) (hi : i < n) : (litF e xs i).length = e ∧ ∀ j, (litF e xs i)[j]? = if j < e then xs[i * e + j]? else none := by
  have hb : i * e + e ≤ n * e := by
    have := Nat.mul_le_mul_right e (show i + 1 ≤ n by omega)
    rw [Nat.add_mul] at this; omega
  unfold litF
  rw [dropN_eq]
  split
  · rename_i t ht
    obtain ⟨rfl, hn⟩ := takeN_spec _ _ _ ht
    refine ⟨by simp at hn ⊢; omega, fun j => ?_⟩
    rw [List.getElem?_take, List.getElem?_drop]
  · rename_i hnone
    exfalso
    have : ∀ (n : Nat) (l : List IV), takeN n l = none → l.length < n := by
      intro n
      induction n with
      | zero => intro l h; simp [takeN] at h
      | succ n ih =>
        intro l h
        cases l with
        | nil => simp
        | cons x r =>
          simp only [takeN] at h
          split at h
          · cases h
          · rename_i h2; have := ih r h2; simp; omega
    have := this _ _ hnone
    simp at this; omega
theorem run_mapM_places {P : Program} (fs : List Field) (szs : List Nat) (hl : fs.length = szs.length) (h : ∀ (i : Nat) f s, fs[i]? = some f → szs[i]? = some s → (P.info? f.type).map (·.size) = some s) (w : World) :
    (fs.mapM (fun f => do pure (f.offset, ← sizeOf f.type) : Field → Sem (Nat × Nat))).run P w = .ok ((fs.zip szs).map fun (f, s) => (f.offset, s)) w := by
  induction fs generalizing szs with
  | nil => cases szs <;> simp at hl ⊢
  | cons f fs ih =>
    cases szs with
    | nil => simp at hl
    | cons s szs =>
      have h0 := h 0 f s (by simp) (by simp)
      have := ih szs (by simpa using hl) (fun i f s hf hs => h (i + 1) f s (by simpa using hf) (by simpa using hs))
      simp only [List.mapM_cons, Sem.run_bind, run_sz h0, Result.andThen_ok, Sem.run_pure, this]
      rfl
theorem evoL_eq (Γ : Env) (S : St) : ∀ l, evoL Γ S l = l.map (evo Γ S)
  | [] => rfl
  | x :: r => by simp [evoL, evoL_eq Γ S r]
theorem fill_size {place : Nat → Option (Nat × Nat)} : ∀ {parts : List (Nat × Value)} {cells cs : Array Value}, Instr.fill place cells parts = some cs → cs.size = cells.size
  | [], cells, cs, h => by simp [Instr.fill] at h; rw [h]
  | (i, v) :: rest, cells, cs, h => by
    simp only [Instr.fill] at h
    split at h
    · cases h
    · split at h
      · cases h
      · rename_i off size _ _
        rw [fill_size h]
        have := (fill_foldl off v.cells.toList 0 cells).1
        rw [← Array.foldl_toList, Array.toList_zipIdx]; exact this
theorem noPtrL_get : ∀ {xs : List IV}, noPtrL xs = true → ∀ (j : Nat) x, xs[j]? = some x → noPtr x = true
  | [], _, j, x, h => by simp at h
  | y :: r, h, j, x, hx => by
    simp [noPtrL] at h
    cases j with
    | zero => simp at hx; subst hx; exact h.1
    | succ j => exact noPtrL_get h.2 j x (by simpa using hx)
theorem V.data' {I : Imm} {β : Beta} {σ : Sig} {x : IV} {v : Value} (h : V I β σ x v) : noPtr x = true → D I (Ix.noOwn x) v := by
  induction h with
  | data h => exact fun _ => h.noOwn
  | ptr l d off b h => intro hn; simp [noPtr] at hn
  | ownN t e f => exact fun _ => .lstN e f
  | own t e n f b el c g ht hc hl hi h1 h => exact fun _ => .lst e n f b 0 c g hc hl (fun i j a b => by simpa using hi i j a b) h1 h
  | raw t e n b el ht => exact fun _ => .dead _
  | row d e n b c h hc => intro hn; simp [noPtr] at hn
  | agg xs vs hl h1 _ ih =>
    intro hn
    simp only [Ix.noOwn, noOwnL_eq]
    exact .agg _ vs (by simpa using hl) h1 fun j x hx => by obtain ⟨y, hy, rfl⟩ := map_get hx; exact ih j y hy (noPtrL_get (by simpa [noPtr] using hn) j y hy)
  | tup xs vs hl _ ih =>
    intro hn
    simp only [Ix.noOwn, noOwnL_eq]
    exact .tup _ vs (by simpa using hl) fun j x hx => by obtain ⟨y, hy, rfl⟩ := map_get hx; exact ih j y hy (noPtrL_get (by simpa [noPtr] using hn) j y hy)
  | mp ks xs b vs hm hl _ ih => intro hn; simp [noPtr] at hn
  | fn f xs ys vs us hl hk _ _ ih ih' =>
    intro hn
    simp [noPtr] at hn
    simp only [Ix.noOwn, noOwnL_eq]
    exact .fn f _ _ vs us (by simpa using hl) (by simpa using hk) (fun j x hx => by obtain ⟨y, hy, rfl⟩ := map_get hx; exact ih j y hy (noPtrL_get hn.1 j y hy))
      (fun j x hx => by obtain ⟨y, hy, rfl⟩ := map_get hx; exact ih' j y hy (noPtrL_get hn.2 j y hy))
theorem bnd_run {P : Program} (r : Rel Γ S a w I X β σ) (x : Option Operand) (d : Int) {n : Int} (h : bnd d (x.map (evo Γ S)) = some n) :
    (x = none ∧ n = d) ∨ ∃ y k, x = some y ∧ a.eval y = .int k n := by
  cases x with
  | none => simp [bnd] at h; exact .inl ⟨rfl, h.symm⟩
  | some y =>
    right
    have hv := evo_V r y
    simp only [Option.map_some] at h
    unfold bnd at h
    split at h
    · rename_i he; cases he
    · rename_i k m he
      simp at he h; subst h
      rw [he] at hv
      exact ⟨y, k, rfl, hv.int_inv⟩
    · cases h
theorem run_sliceBound {P : Program} {k : IntKind} {n : Int} {y : Nat} (h0 : 0 ≤ n) (h1 : n ≤ y) (code : BoundsCode) (w : World) : (Instr.sliceBound (.int k n) y code).run P w = .ok n.toNat w := by
  simp [Instr.sliceBound, asIntOf, h0, h1]
theorem run_sliceBounds {P : Program} (r : Rel Γ S a w I X β σ) (lo hi : Option Operand) (isS : Bool) (len cap : Nat) {l h : Int} (hl : bnd 0 (lo.map (evo Γ S)) = some l) (hh : bnd len (hi.map (evo Γ S)) = some h)
    (h0 : 0 ≤ l) (h1 : l ≤ h) (h2 : h ≤ len) (hlc : len ≤ cap) (hsame : isS = false → cap = len) :
    (Instr.sliceBounds isS len cap (lo.map a.eval) (hi.map a.eval) none).run P w = .ok (l.toNat, h.toNat, cap) w := by
  have hhi : h ≤ (cap : Int) := by omega
  rcases bnd_run (P := P) r hi len hh with ⟨rfl, rfl⟩ | ⟨y, k, rfl, hy⟩
  · rcases bnd_run (P := P) r lo 0 hl with ⟨rfl, rfl⟩ | ⟨y', k', rfl, hy'⟩
    · simp [Instr.sliceBounds]
    · have e1 := fun c => run_sliceBound (P := P) (k := k') (n := l) (y := len) h0 (by omega) c w
      simp [Instr.sliceBounds, hy', e1]
  · have e2 := fun c => run_sliceBound (P := P) (k := k) (n := h) (y := cap) (by omega) hhi c w
    rcases bnd_run (P := P) r lo 0 hl with ⟨rfl, rfl⟩ | ⟨y', k', rfl, hy'⟩
    · simp [Instr.sliceBounds, hy, e2]
    · have e1 := fun c => run_sliceBound (P := P) (k := k') (n := l) (y := h.toNat) h0 (by omega) c w
      simp [Instr.sliceBounds, hy, hy', e2, e1]
theorem dropN_get : ∀ (off : Nat) (xs : List IV) (j : Nat), (dropN off xs)[j]? = xs[off + j]?
  | 0, xs, j => by simp [dropN]
  | off + 1, [], j => by simp [dropN]
  | off + 1, x :: r, j => by
    simp only [dropN]
    rw [dropN_get off r j, show off + 1 + j = (off + j) + 1 by omega]
    rfl
theorem dropN_len : ∀ (off : Nat) (xs : List IV), (dropN off xs).length = xs.length - off
  | 0, xs => by simp [dropN]
  | off + 1, [] => by simp [dropN]
  | off + 1, x :: r => by simp [dropN, dropN_len off r]
theorem sliceI_sound {t : Nat} {x : Operand} {lo hi : Option Operand} {K : IV → Prop} (hT : TOK Γ.P Γ.T) (h : sliceI Γ (Γ.T t) (evo Γ S x) (lo.map (evo Γ S)) (hi.map (evo Γ S)) K) (r : Rel Γ S a w I X β σ) :
    ∃ iv v, K iv ∧ V I β (σ 0) iv v ∧ (Instr.sliceAt t (a.eval x) (lo.map a.eval) (hi.map a.eval) none).run Γ.P w = .ok v w := by
  have hv := evo_V r x
  unfold sliceI at h
  split at h
  · rename_i s hk hx
    rw [hx] at hv
    split at h
    · rename_i l hh e1 e2
      obtain ⟨h0, h⟩ := chk_spec h
      obtain ⟨h1, h⟩ := chk_spec h
      obtain ⟨h2, h⟩ := chk_spec h
      simp at h0 h1 h2
      obtain ⟨inf, d, z, tk⟩ := TOK.get hT (t := t) (.inr (by rw [hk]; simp))
      have kd := tk.kind
      rw [hk] at kd
      subst kd
      have hb := run_sliceBounds (P := Γ.P) r lo hi false s.size s.size e1 e2 h0 h1 h2 (Nat.le_refl _) (fun _ => rfl)
      refine ⟨_, .string (s.extract l.toNat hh.toNat), h, .data (.str _), ?_⟩
      simp [Instr.sliceAt, Instr.slice, run_underlying tk.und, hv.str_inv, hb]
    · exact h.elim
  · rename_i el o e n f hk hx
    rw [hx] at hv
    split at h
    · rename_i l hh e1 e2 e3
      have e3 := (beq_iff _ _).1 e3
      obtain ⟨h0, h⟩ := chk_spec h
      obtain ⟨h1, h⟩ := chk_spec h
      obtain ⟨h2, h⟩ := chk_spec h
      simp at h0 h1 h2
      obtain ⟨inf, d, z, tk⟩ := TOK.get hT (t := t) (.inr (by rw [hk]; simp))
      have kd := tk.kind
      rw [hk] at kd
      obtain ⟨rfl, he⟩ := kd
      obtain ⟨inf', d', z', tk'⟩ := TOK.get hT (t := el) (.inl he)
      rcases hv.lst_inv with ⟨px, hvx, hn0⟩ | ⟨b, off, c, g, hvx, hnc, hown, hl, hI, ho, hD⟩
      · subst hn0
        have hb := run_sliceBounds (P := Γ.P) r lo hi true 0 0 e1 e2 h0 h1 h2 (Nat.le_refl _) (fun h => by cases h)
        have l0 : l = 0 := by omega
        have hh0 : hh = 0 := by omega
        subst l0 hh0
        refine ⟨_, .slice px 0 0, h, .data (.lstN _ _), ?_⟩
        simp at hb
        simp [Instr.sliceAt, Instr.slice, run_underlying tk.und, hvx, hb, run_sz tk'.msize]
      · have hb := run_sliceBounds (P := Γ.P) r lo hi true n c e1 e2 h0 h1 h2 hnc (fun h => by cases h)
        by_cases hcl : c = l.toNat
        · have hz : hh.toNat - l.toNat = 0 := by omega
          refine ⟨_, .slice (some ⟨b, off, none⟩) (hh.toNat - l.toNat) (c - l.toNat), h, ?_, ?_⟩
          · rw [hz]
            exact .data (.lst e 0 _ b off _ g (by omega) (fun i hi => by omega) (fun i j hi => by omega) (fun i j hi => by omega) (fun i j x hi => by omega))
          · subst hcl
            simp [Instr.sliceAt, Instr.slice, run_underlying tk.und, hvx, hb, run_sz tk'.msize]
        · refine ⟨_, .slice (some ⟨b, off + l.toNat * e, none⟩) (hh.toNat - l.toNat) (c - l.toNat), h, ?_, ?_⟩
          · refine .data (.lst e _ _ b _ _ (fun i j => g (l.toNat + i) j) (by omega) (fun i hi => hl _ (by omega)) (fun i j hi hj => ?_) (fun i j hi hj => ho _ _ (by omega) hj) (fun i j x hi hx => hD _ j x (by omega) hx))
            have := hI (l.toNat + i) j (by omega) hj
            rw [show off + l.toNat * e + i * e + j = off + (l.toNat + i) * e + j by rw [Nat.add_mul]; omega]
            exact this
          · simp [Instr.sliceAt, Instr.slice, run_underlying tk.und, hvx, hb, run_sz tk'.msize, hcl, add_none, e3]
    · exact h.elim
  · rename_i n el e0 n0 f i j hk hx
    rw [hx] at hv
    split at h
    case h_2 => exact h.elim
    rename_i e1 e2
    have hlo : lo = none := by cases lo with | none => rfl | some _ => cases e1
    have hhi : hi = none := by cases hi with | none => rfl | some _ => cases e2
    subst hlo hhi
    obtain ⟨inf, d, z, tk⟩ := TOK.get hT (t := t) (.inr (by rw [hk]; simp))
    have kd := tk.kind
    rw [hk] at kd
    obtain ⟨rfl, he⟩ := kd
    obtain ⟨inf', d', z', tk'⟩ := TOK.get hT (t := el) (.inl he)
    obtain ⟨b, off, g, hvx, hi0, hl, hI, h1, hD⟩ := hv.vptr_inv
    have run : ∀ (q : Nat), a.eval x = .pointer (some ⟨b, q, none⟩) → (Instr.sliceAt t (a.eval x) (none.map a.eval) (none.map a.eval) none).run Γ.P w = .ok (.slice (some ⟨b, q, none⟩) n n) w := fun q hq => by
      by_cases hn : n = 0
      · simp [Instr.sliceAt, run_underlying tk.und, hq, Instr.sureAddr, Instr.sliceBounds, run_sz tk'.msize, hn]
      · simp [Instr.sliceAt, run_underlying tk.und, hq, Instr.sureAddr, Instr.sliceBounds, run_sz tk'.msize, add_none]
    split at h
    · rename_i hle
      have hle := Nat.le_of_ble_eq_true hle
      have hnl : ((dropN j (f i)).take (n * (Γ.T el).size)).length = n * (Γ.T el).size := by
        rw [List.length_take, dropN_len, hl i hi0]; omega
      have hin : ∀ i' j', i' < n → j' < (Γ.T el).size → j + (i' * (Γ.T el).size + j') < e0 ∧ i' * (Γ.T el).size + j' < n * (Γ.T el).size := by
        intro i' j' hi' hj'
        have := Nat.mul_le_mul_right (Γ.T el).size (show i' + 1 ≤ n by omega)
        rw [Nat.add_mul] at this; omega
      refine ⟨_, _, h, .data (.lst _ n _ b (off + i * e0 + j) n (fun i' j' => g i (j + (i' * (Γ.T el).size + j'))) (Nat.le_refl _) (fun i' hi' => (litF_spec hnl i' hi').1) (fun i' j' hi' hj' => ?_) (fun i' j' hi' hj' => h1 _ _ hi0 (hin i' j' hi' hj').1) (fun i' j' y hi' hy => ?_)), run _ hvx⟩
      · have := hI i (j + (i' * (Γ.T el).size + j')) hi0 (hin i' j' hi' hj').1
        rw [show off + i * e0 + j + i' * (Γ.T el).size + j' = off + i * e0 + (j + (i' * (Γ.T el).size + j')) by omega]
        exact this
      · rw [(litF_spec hnl i' hi').2] at hy
        split at hy
        · rename_i hje
          rw [List.getElem?_take, if_pos (hin i' j' hi' hje).2, dropN_get] at hy
          exact hD i _ y hi0 hy
        · cases hy
    · split at h
      · rename_i hq
        simp only [Bool.and_eq_true, beq_iff] at hq
        obtain ⟨q1, q2, q3, q4⟩ := hq
        subst q1 q2 q3 q4
        refine ⟨_, _, h, .data (.lst _ n0 f b off n0 g (Nat.le_refl _) hl hI h1 hD), run off (by rw [hvx]; simp)⟩
      · exact h.elim
  · exact h.elim
theorem stL_eq (c : Nat) (xs : List IV) : ∀ l, stL c xs l = l.map (stV c xs)
  | [] => rfl
  | x :: r => by simp only [stL, List.map_cons, stL_eq c xs r]
theorem D.st {I I2 : Imm} {c : Nat} {xs : List IV} (hI : ∀ a v, I a = some v → I2 a = some v) {x : IV} {v : Value} (h : D I x v) : D I2 (stV c xs x) v := by
  induction h with
  | agg ys vs hl h1 _ ih =>
    simp only [stV, stL_eq]
    exact .agg _ vs (by simpa using hl) h1 fun j y hy => by obtain ⟨z, hz, rfl⟩ := map_get hy; exact ih j z hz
  | tup ys vs hl _ ih =>
    simp only [stV, stL_eq]
    exact .tup _ vs (by simpa using hl) fun j y hy => by obtain ⟨z, hz, rfl⟩ := map_get hy; exact ih j z hz
  | fn f ys zs vs us hl hk _ _ ih ih' =>
    simp only [stV, stL_eq]
    exact .fn f _ _ vs us (by simpa using hl) (by simpa using hk) (fun j y hy => by obtain ⟨z, hz, rfl⟩ := map_get hy; exact ih j z hz) (fun j y hy => by obtain ⟨z, hz, rfl⟩ := map_get hy; exact ih' j z hz)
  | int k n => exact .int k n
  | bool b => exact .bool b
  | str s => exact .str s
  | lit v h => exact .lit v h
  | nilS => exact .nilS
  | lstN e f => exact .lstN e f
  | lst e n f b off c' g hc hl hi h1 h ih => exact (D.lst e n f b off c' g hc hl hi h1 h).mono hI
  | vptr e n f i j b off g hi0 hl hi h1 h ih => exact (D.vptr e n f i j b off g hi0 hl hi h1 h).mono hI
  | ifc d x => exact .ifc d x
  | dead v => exact .dead v
theorem V.st {I I2 : Imm} {β β' : Beta} {s : Sig} {c b0 : Nat} {xs : List IV} (hI : ∀ a v, I a = some v → I2 a = some v) (hb : ∀ l d b, β l d = some b → (l = 0 → d ≠ c) → β' l d = some b)
    (hβ : β 0 c = some b0) (hp : ∀ off, D I2 (.vptr xs.length 1 (fun _ => xs) 0 off) (.pointer (some ⟨b0, off, none⟩))) {x : IV} {v : Value} (h : V I β s x v) : V I2 β' s (stV c xs x) v := by
  induction h with
  | data h => exact .data (h.st hI)
  | ptr l d off b h =>
    cases l with
    | zero =>
      simp only [stV]
      cases hd : Nat.beq d c with
      | true =>
        have := (beq_iff _ _).1 hd
        subst this
        rw [hβ] at h; cases h
        exact .data (hp off)
      | false => exact .ptr 0 d off b (hb 0 d b h fun _ => beq_false hd)
    | succ l => exact .ptr _ d off b (hb _ d b h fun e => by cases e)
  | ownN t e f => exact .ownN t e f
  | own t e n f b el c g ht hc hl hi h1 h => exact .own t e n f b el c g ht hc hl (fun i j h h' => hI _ _ (hi i j h h')) h1 (fun i j x a b => (h i j x a b).mono hI)
  | raw t e n b el ht => exact .raw t e n b el ht
  | row d e n b k h hk =>
    simp only [stV]
    cases hd : Nat.beq d c with
    | true => exact .data (.dead _)
    | false => exact .row d e n b k (hb 0 d b h fun _ => beq_false hd) hk
  | agg ys vs hl h1 _ ih =>
    simp only [stV, stL_eq]
    exact .agg _ vs (by simpa using hl) h1 fun j y hy => by obtain ⟨z, hz, rfl⟩ := map_get hy; exact ih j z hz
  | tup ys vs hl _ ih =>
    simp only [stV, stL_eq]
    exact .tup _ vs (by simpa using hl) fun j y hy => by obtain ⟨z, hz, rfl⟩ := map_get hy; exact ih j z hz
  | mp ks ys b vs hm hl _ ih =>
    simp only [stV, stL_eq]
    exact .mp ks _ b vs (hm.mono hI) (by simpa using hl) fun j y hy => by obtain ⟨z, hz, rfl⟩ := map_get hy; exact ih j z hz
  | fn f ys zs vs us hl hk _ _ ih ih' =>
    simp only [stV, stL_eq]
    exact .fn f _ _ vs us (by simpa using hl) (by simpa using hk) (fun j y hy => by obtain ⟨z, hz, rfl⟩ := map_get hy; exact ih j z hz) (fun j y hy => by obtain ⟨z, hz, rfl⟩ := map_get hy; exact ih' j z hz)
theorem stT_look (c : Nat) (xs : List IV) : ∀ (l : Tms) i, look (stT c xs l) i = stV c xs (look l i)
  | [], i => by simp [stT, look, stV]
  | (k, v) :: r, i => by
    simp only [stT, look_cons, stT_look c xs r]
    split <;> rfl
theorem stC_look (c : Nat) (xs : List IV) : ∀ (l : Ces) d, lookC (stC c xs l) d = if d = c then none else (lookC l d).map (stL c xs)
  | [], d => by simp [stC, lookC]
  | (k, v) :: r, d => by
    have ih := stC_look c xs r d
    by_cases hk : k = c
    · subst hk
      have : Nat.beq k k = true := by simp
      simp only [stC, this, lookC_cons, ih]
      by_cases hd : d = k
      · simp [hd]
      · simp [hd, Ne.symm hd]
    · have : Nat.beq k c = false := by rw [Bool.eq_false_iff]; intro e; exact hk (Nat.eq_of_beq_eq_true e)
      simp only [stC, this, lookC_cons, ih]
      by_cases hd : k = d
      · subst hd; simp [hk]
      · simp [hd]
open Classical in
theorem still_rel {tm : Tms} {ce : Ces} {up : List Ces} {c : Nat} {xs : List IV} (r : Rel Γ ⟨tm, ce, up⟩ a w I X β σ) (hxs : lookC ce c = some xs) (hnp : noPtrL xs = true) :
    ∃ I2 β', Rel Γ ⟨stT c (noOwnL xs) tm, stC c (noOwnL xs) ce, up⟩ a w I2 X β' σ ∧ Ext I X w I2 w ∧ Above β β' σ σ := by
  obtain ⟨b, arr, el, hβ, h2, h3, h4, h5, h6, h7⟩ := r.mem.cell 0 c xs hxs
  let P : Addr → Prop := fun x => x.block = b ∧ x.spot = none ∧ x.off < xs.length
  let I2 : Imm := fun x => if P x then hcell w x else I x
  let β' : Beta := fun l d => if l = 0 ∧ d = c then none else β l d
  have hI : ∀ x v, I x = some v → I2 x = some v := by
    intro x v hx
    show (if P x then _ else _) = _
    split
    · exact r.mem.im x v hx
    · exact hx
  have hsub : ∀ l d b0, β' l d = some b0 → β l d = some b0 ∧ (l = 0 → d ≠ c) := by
    intro l d b0 hb0
    replace hb0 : (if l = 0 ∧ d = c then none else β l d) = some b0 := hb0
    split at hb0
    · cases hb0
    · rename_i hn; exact ⟨hb0, fun e1 e2 => hn ⟨e1, e2⟩⟩
  have hmk : ∀ l d b0, β l d = some b0 → (l = 0 → d ≠ c) → β' l d = some b0 := by
    intro l d b0 hb0 hk
    show (if _ then _ else _) = _
    rw [if_neg]; exact hb0
    rintro ⟨e1, e2⟩; exact hk e1 e2
  have hne : ∀ l d b0, β' l d = some b0 → b0 ≠ b := by
    intro l d b0 hb0 e
    subst e
    obtain ⟨g1, g2⟩ := hsub l d b0 hb0
    have := r.mem.inj _ _ _ _ _ g1 hβ
    exact g2 this.1 this.2
  have hIn : ∀ x, x.block ≠ b → I2 x = I x := fun x hx => if_neg fun hp => hx hp.1
  have him : ∀ x v, I2 x = some v → hcell w x = some v := by
    intro x v hx
    have hx : (if P x then hcell w x else I x) = some v := hx
    split at hx
    · exact hx
    · exact r.mem.im x v hx
  have hnl0 : (noOwnL xs).length = xs.length := by rw [noOwnL_eq, List.length_map]
  have hcell : ∀ j, j < xs.length → I2 ⟨b, 0 + j, none⟩ = some (arr.getD j undef) := by
    intro j hj
    show (if P _ then _ else _) = _
    rw [if_pos ⟨rfl, rfl, by simpa using hj⟩]
    have hlt : j < arr.size := by omega
    simp [hcell, h2, Array.getD_eq_getD_getElem?, hlt]
  have hpt : ∀ off, D I2 (.vptr (noOwnL xs).length 1 (fun _ => noOwnL xs) 0 off) (.pointer (some ⟨b, off, none⟩)) := fun off => by
    have := D.vptr (I := I2) (noOwnL xs).length 1 (fun _ => noOwnL xs) 0 off b 0 (fun _ j => arr.getD j undef) (by omega) (fun _ _ => rfl) (fun i j hi hj => ?_) (fun i j hi hj => ?_) (fun i j z hi hz => ?_)
    · simpa using this
    · have hi0 : i = 0 := by omega
      subst hi0
      rw [hnl0] at hj
      simpa using hcell j hj
    · rw [hnl0] at hj
      have hlt : j < arr.size := by omega
      exact h4 j _ (by simp [Array.getD_eq_getD_getElem?, hlt])
    · rw [noOwnL_eq] at hz
      obtain ⟨y, hy, rfl⟩ := map_get hz
      exact ((h5 _ y hy).data' (noPtrL_get hnp _ _ hy)).mono hI
  have r2 : Rel Γ ⟨stT c (noOwnL xs) tm, stC c (noOwnL xs) ce, up⟩ a w I2 X β' σ := by
    refine ⟨fun i => ?_, r.df, r.nt, ⟨fun l d c' hc => ?_, fun l d l' d' b0 k1 k2 => r.mem.inj l d l' d' b0 (hsub _ _ _ k1).1 (hsub _ _ _ k2).1, fun l d b0 hb0 => ?_, him, fun g => (r.mem.glo g).mono hI, r.mem.xb, r.mem.gz⟩, ⟨fun t g hg => ?_, r.own.inj⟩⟩
    · rw [stT_look]; exact (r.tm i).st hI hmk hβ hpt
    · cases l with
      | zero =>
        simp only [upC, stC_look] at hc
        split at hc
        · cases hc
        · rename_i hdc
          simp only [Option.map_eq_some_iff] at hc
          obtain ⟨y, hy, rfl⟩ := hc
          obtain ⟨b0, arr0, el0, k1, k2, k3, k4, k5, k6, k7⟩ := r.mem.cell 0 d y hy
          have hbb : β' 0 d = some b0 := hmk 0 d b0 k1 fun _ => hdc
          refine ⟨b0, arr0, el0, hbb, k2, by simp [stL_eq, k3], k4, fun j z hz => ?_, fun j => by rw [hIn _ (hne _ _ _ hbb)]; exact k6 j, k7⟩
          rw [stL_eq] at hz
          obtain ⟨z0, hz0, rfl⟩ := map_get hz
          exact (k5 j z0 hz0).st hI (fun l' d' b' hb' hk => hmk (0 + l') d' b' hb' fun e => hk (by omega)) (by simpa using hβ) hpt
      | succ l =>
        obtain ⟨b0, arr0, el0, k1, k2, k3, k4, k5, k6, k7⟩ := r.mem.cell (l + 1) d c' hc
        have hbb : β' (l + 1) d = some b0 := hmk _ d b0 k1 fun e => by omega
        exact ⟨b0, arr0, el0, hbb, k2, k3, k4, fun j z hz => (k5 j z hz).mono hI (fun l' d' b' hb' => hmk (l + 1 + l') d' b' hb' (fun e => by omega)) (fun _ _ h => h), fun j => by rw [hIn _ (hne _ _ _ hbb)]; exact k6 j, k7⟩
    · obtain ⟨g1, g2⟩ := hsub l d b0 hb0
      obtain ⟨y, hy⟩ := r.mem.keys l d b0 g1
      cases l with
      | zero =>
        simp only [upC] at hy
        simp only [upC, stC_look, if_neg (g2 rfl), hy]
        exact ⟨_, rfl⟩
      | succ l => exact ⟨y, hy⟩
    · obtain ⟨cur, k1, k2, k3, k4, k5, k6, k7⟩ := r.own.row t g hg
      refine ⟨cur, k1, k2, k3, k4, fun j hj => ?_, k6, fun l d hb => k7 l d (hsub _ _ _ hb).1⟩
      rw [hIn _ (fun e => k7 0 c (by rw [hβ]; exact congrArg some e.symm))]; exact k5 j hj
  refine ⟨I2, β', r2, ⟨rfl, rfl, rfl, Nat.le_refl _, fun _ _ => rfl, hI, fun x hx => hIn x (fun e => h7 (e ▸ hx)), fun _ _ h _ => h⟩, fun l => ?_, fun l => rfl⟩
  funext d
  show (if _ then _ else _) = _
  rw [if_neg (by omega)]
open Classical in
theorem sliceA_sound {n e : Nat} {o : Option Nat} {x : Operand} (h : sliceA Γ S o n e (evo Γ S x) K) (r : Rel Γ S a w I X β σ) :
    ∃ b off, a.eval x = .pointer (some ⟨b, off, none⟩) ∧ Aft Γ K I X w β σ (a.put o (.slice (some ⟨b, off, none⟩) n n)) w := by
  obtain ⟨tm, ce, up⟩ := S
  have hv := evo_V r x
  unfold sliceA at h
  split at h
  case h_2 => exact h.elim
  rename_i tm' ce' up' c off heq hx
  cases heq
  rw [hx] at hv
  obtain ⟨b, hb, hβ⟩ := hv.ptr_inv
  refine ⟨b, off, hb, ?_⟩
  split at h
  case h_2 => exact h.elim
  rename_i xs hxs
  split at h
  case h_2 => exact h.elim
  rename_i hok
  simp only [Bool.and_eq_true] at hok
  obtain ⟨hlen, hnp⟩ := hok
  have hlen := Nat.le_of_ble_eq_true hlen
  rw [fvL_eq, fps_eq, fcs_eq] at h
  obtain ⟨b', arr, el, h1, h2, h3, h4, h5, h6, h7⟩ := r.mem.cell 0 c xs hxs
  rw [hβ] at h1; cases h1
  let P : Addr → Prop := fun x => x.block = b ∧ x.spot = none ∧ x.off < xs.length
  let I2 : Imm := fun x => if P x then hcell w x else I x
  let β' : Beta := fun l d => if l = 0 ∧ d = c then none else β l d
  have hI : ∀ x v, I x = some v → I2 x = some v := by
    intro x v hx
    show (if P x then _ else _) = _
    split
    · exact r.mem.im x v hx
    · exact hx
  have hsub : ∀ l d b0, β' l d = some b0 → β l d = some b0 ∧ (l = 0 → d ≠ c) := by
    intro l d b0 hb0
    replace hb0 : (if l = 0 ∧ d = c then none else β l d) = some b0 := hb0
    split at hb0
    · cases hb0
    · rename_i hn; exact ⟨hb0, fun e1 e2 => hn ⟨e1, e2⟩⟩
  have hmk : ∀ l d b0, β l d = some b0 → (l = 0 → d ≠ c) → β' l d = some b0 := by
    intro l d b0 hb0 hk
    show (if _ then _ else _) = _
    rw [if_neg]; exact hb0
    rintro ⟨e1, e2⟩; exact hk e1 e2
  have hne : ∀ l d b0, β' l d = some b0 → b0 ≠ b := by
    intro l d b0 hb0 e
    subst e
    obtain ⟨g1, g2⟩ := hsub l d b0 hb0
    have := r.mem.inj _ _ _ _ _ g1 hβ
    exact g2 this.1 this.2
  have hIn : ∀ x, x.block ≠ b → I2 x = I x := fun x hx => if_neg fun hp => hx hp.1
  have him : ∀ x v, I2 x = some v → hcell w x = some v := by
    intro x v hx
    have hx : (if P x then hcell w x else I x) = some v := hx
    split at hx
    · exact hx
    · exact r.mem.im x v hx
  have hnl0 : (noOwnL xs).length = xs.length := by rw [noOwnL_eq, List.length_map]
  have hnl : ((dropN off (noOwnL xs)).take (n * e)).length = n * e := by rw [List.length_take, dropN_len, hnl0]; omega
  have hcell : ∀ j, j < xs.length → I2 ⟨b, 0 + j, none⟩ = some (arr.getD j undef) := by
    intro j hj
    show (if P _ then _ else _) = _
    rw [if_pos ⟨rfl, rfl, by simpa using hj⟩]
    have hlt : j < arr.size := by omega
    simp [hcell, h2, Array.getD_eq_getD_getElem?, hlt]
  have hin : ∀ i j, i < n → j < e → off + (i * e + j) < xs.length ∧ i * e + j < n * e := by
    intro i j hi hj
    have := Nat.mul_le_mul_right e (show i + 1 ≤ n by omega)
    rw [Nat.add_mul] at this; omega
  have hpt : ∀ off, D I2 (.vptr (noOwnL xs).length 1 (fun _ => noOwnL xs) 0 off) (.pointer (some ⟨b, off, none⟩)) := fun off => by
    have := D.vptr (I := I2) (noOwnL xs).length 1 (fun _ => noOwnL xs) 0 off b 0 (fun _ j => arr.getD j undef) (by omega) (fun _ _ => rfl) (fun i j hi hj => ?_) (fun i j hi hj => ?_) (fun i j z hi hz => ?_)
    · simpa using this
    · have hi0 : i = 0 := by omega
      subst hi0
      rw [hnl0] at hj
      simpa using hcell j hj
    · rw [hnl0] at hj
      have hlt : j < arr.size := by omega
      exact h4 j _ (by simp [Array.getD_eq_getD_getElem?, hlt])
    · rw [noOwnL_eq] at hz
      obtain ⟨y, hy, rfl⟩ := map_get hz
      exact ((h5 _ y hy).data' (noPtrL_get hnp _ _ hy)).mono hI
  have r2 : Rel Γ ⟨stT c (noOwnL xs) tm, stC c (noOwnL xs) ce, up⟩ a w I2 X β' σ := by
    refine ⟨fun i => ?_, r.df, r.nt, ⟨fun l d c' hc => ?_, fun l d l' d' b0 k1 k2 => r.mem.inj l d l' d' b0 (hsub _ _ _ k1).1 (hsub _ _ _ k2).1, fun l d b0 hb0 => ?_, him, fun g => (r.mem.glo g).mono hI, r.mem.xb, r.mem.gz⟩, ⟨fun t g hg => ?_, r.own.inj⟩⟩
    · rw [stT_look]; exact (r.tm i).st hI hmk hβ hpt
    · cases l with
      | zero =>
        simp only [upC, stC_look] at hc
        split at hc
        · cases hc
        · rename_i hdc
          simp only [Option.map_eq_some_iff] at hc
          obtain ⟨y, hy, rfl⟩ := hc
          obtain ⟨b0, arr0, el0, k1, k2, k3, k4, k5, k6, k7⟩ := r.mem.cell 0 d y hy
          have hbb : β' 0 d = some b0 := hmk 0 d b0 k1 fun _ => hdc
          refine ⟨b0, arr0, el0, hbb, k2, by simp [stL_eq, k3], k4, fun j z hz => ?_, fun j => by rw [hIn _ (hne _ _ _ hbb)]; exact k6 j, k7⟩
          rw [stL_eq] at hz
          obtain ⟨z0, hz0, rfl⟩ := map_get hz
          exact (k5 j z0 hz0).st hI (fun l' d' b' hb' hk => hmk (0 + l') d' b' hb' fun e => hk (by omega)) (by simpa using hβ) hpt
      | succ l =>
        obtain ⟨b0, arr0, el0, k1, k2, k3, k4, k5, k6, k7⟩ := r.mem.cell (l + 1) d c' hc
        have hbb : β' (l + 1) d = some b0 := hmk _ d b0 k1 fun e => by omega
        exact ⟨b0, arr0, el0, hbb, k2, k3, k4, fun j z hz => (k5 j z hz).mono hI (fun l' d' b' hb' => hmk (l + 1 + l') d' b' hb' (fun e => by omega)) (fun _ _ h => h), fun j => by rw [hIn _ (hne _ _ _ hbb)]; exact k6 j, k7⟩
    · obtain ⟨g1, g2⟩ := hsub l d b0 hb0
      obtain ⟨y, hy⟩ := r.mem.keys l d b0 g1
      cases l with
      | zero =>
        simp only [upC] at hy
        simp only [upC, stC_look, if_neg (g2 rfl), hy]
        exact ⟨_, rfl⟩
      | succ l => exact ⟨y, hy⟩
    · obtain ⟨cur, k1, k2, k3, k4, k5, k6, k7⟩ := r.own.row t g hg
      refine ⟨cur, k1, k2, k3, k4, fun j hj => ?_, k6, fun l d hb => k7 l d (hsub _ _ _ hb).1⟩
      rw [hIn _ (fun e => k7 0 c (by rw [hβ]; exact congrArg some e.symm))]; exact k5 j hj
  have hres : V I2 β' (σ 0) (.lst none e n (litF e ((dropN off (noOwnL xs)).take (n * e)))) (.slice (some ⟨b, off, none⟩) n n) := by
    refine .data (.lst e n _ b off n (fun i j => arr.getD (off + (i * e + j)) undef) (Nat.le_refl _) (fun i hi => (litF_spec hnl i hi).1) (fun i j hi hj => ?_) (fun i j hi hj => ?_) (fun i j z hi hz => ?_))
    · have := hcell (off + (i * e + j)) (hin i j hi hj).1
      rw [show off + i * e + j = 0 + (off + (i * e + j)) by omega]; exact this
    · have hlt : off + (i * e + j) < arr.size := by have := (hin i j hi hj).1; omega
      exact h4 (off + (i * e + j)) _ (by simp [Array.getD_eq_getD_getElem?, hlt])
    · rw [(litF_spec hnl i hi).2] at hz
      split at hz
      · rename_i hje
        rw [List.getElem?_take, if_pos (hin i j hi hje).2, dropN_get, noOwnL_eq] at hz
        obtain ⟨y, hy, rfl⟩ := map_get hz
        exact ((h5 _ y hy).data' (noPtrL_get hnp _ _ hy)).mono hI
      · cases hz
  obtain ⟨S', hk, r3⟩ := putT_sound h r2 hres
  refine ⟨S', I2, β', σ, hk, r3, ⟨rfl, rfl, rfl, Nat.le_refl _, fun _ _ => rfl, hI, fun x hx => hIn x (fun e => h7 (e ▸ hx)), fun _ _ h _ => h⟩, fun l => ?_, fun l => rfl⟩
  funext d
  show (if _ then _ else _) = _
  rw [if_neg (by omega)]
theorem settleL_eq (t : Nat) (y : IV) : ∀ l, settleL t y l = l.map (settle t y)
  | [] => rfl
  | x :: r => by simp only [settleL, List.map_cons, settleL_eq t y r]
theorem settleT_look (t : Nat) (y : IV) : ∀ (l : Tms) i, look (settleT t y l) i = settle t y (look l i)
  | [], i => rfl
  | (k, v) :: r, i => by
    simp only [settleT, look_cons, settleT_look t y r]
    split <;> rfl
theorem settleC_look (t : Nat) (y : IV) : ∀ (l : Ces) d, lookC (settleC t y l) d = (lookC l d).map (settleL t y)
  | [], d => rfl
  | (k, v) :: r, d => by
    simp only [settleC, lookC_cons, settleC_look t y r]
    split <;> rfl
theorem D.settle {I : Imm} (t : Nat) (y : IV) {x : IV} {v : Value} (h : D I x v) : D I (settle t y x) v := by
  induction h with
  | int k n => exact .int k n
  | bool b => exact .bool b
  | str s => exact .str s
  | lit v h => exact .lit v h
  | nilS => exact .nilS
  | lstN e f => exact .lstN e f
  | lst e n f b off c g hc hl hi h1 h ih => exact .lst e n f b off c g hc hl hi h1 h
  | vptr e n f i j b off g hi0 hl hi h1 h ih => exact .vptr e n f i j b off g hi0 hl hi h1 h
  | agg xs vs hl h1 _ ih =>
    simp only [Ix.settle, settleL_eq]
    exact .agg _ vs (by simpa using hl) h1 fun j x hx => by obtain ⟨z, hy, rfl⟩ := map_get hx; exact ih j z hy
  | tup xs vs hl _ ih =>
    simp only [Ix.settle, settleL_eq]
    exact .tup _ vs (by simpa using hl) fun j x hx => by obtain ⟨z, hy, rfl⟩ := map_get hx; exact ih j z hy
  | fn f xs ys vs us hl hk _ _ ih ih' =>
    simp only [Ix.settle, settleL_eq]
    exact .fn f _ _ vs us (by simpa using hl) (by simpa using hk) (fun j x hx => by obtain ⟨z, hy, rfl⟩ := map_get hx; exact ih j z hy)
      (fun j x hx => by obtain ⟨z, hy, rfl⟩ := map_get hx; exact ih' j z hy)
  | ifc d x => exact .ifc d x
  | dead v => exact .dead v
theorem V.settle {I I' : Imm} {β β' : Beta} {s s' : Sig} {t e n b0 el0 : Nat} {y : IV} (hI : ∀ a v, I a = some v → I' a = some v) (hb : ∀ l d b, β l d = some b → β' l d = some b) (hs : ∀ u g0, u ≠ t → s u = some g0 → s' u = some g0)
    (ht0 : s t = some ⟨b0, el0, e, 0, n⟩) (hv : V I' β' s' y (.slice (some ⟨b0, 0, none⟩) n n)) {x : IV} {v : Value} (h : V I β s x v) : V I' β' s' (settle t y x) v := by
  induction h with
  | data h => exact .data ((h.settle t y).mono hI)
  | ptr l d off b h => exact .ptr l d off b (hb _ _ _ h)
  | ownN u e' f =>
    simp only [Ix.settle]
    split
    · exact .data (.dead _)
    · exact .ownN u e' f
  | own u e' n' f b el c g' ht hc hl hi h1 h =>
    simp only [Ix.settle]
    split
    · exact .data (.dead _)
    · rename_i hne
      exact .own u e' n' f b el c g' (hs _ _ (beq_false hne) ht) hc hl (fun i j h h' => hI _ _ (hi i j h h')) h1 (fun i j x a b => (h i j x a b).mono hI)
  | raw u e' n' b el ht =>
    simp only [Ix.settle]
    split
    · rename_i he
      have he := (beq_iff _ _).1 he
      subst he
      rw [ht0] at ht
      cases ht
      exact hv
    · rename_i hne
      exact .raw u e' n' b el (hs _ _ (beq_false hne) ht)
  | row d e' n' b c h hc => exact .row d e' n' b c (hb _ _ _ h) hc
  | agg xs vs hl h1 _ ih =>
    simp only [Ix.settle, settleL_eq]
    exact .agg _ vs (by simpa using hl) h1 fun j x hx => by obtain ⟨z, hy, rfl⟩ := map_get hx; exact ih j z hy
  | tup xs vs hl _ ih =>
    simp only [Ix.settle, settleL_eq]
    exact .tup _ vs (by simpa using hl) fun j x hx => by obtain ⟨z, hy, rfl⟩ := map_get hx; exact ih j z hy
  | mp ks xs b vs hm hl _ ih =>
    simp only [Ix.settle, settleL_eq]
    exact .mp ks _ b vs (hm.mono hI) (by simpa using hl) fun j x hx => by obtain ⟨z, hy, rfl⟩ := map_get hx; exact ih j z hy
  | fn f xs ys vs us hl hk _ _ ih ih' =>
    simp only [Ix.settle, settleL_eq]
    exact .fn f _ _ vs us (by simpa using hl) (by simpa using hk) (fun j x hx => by obtain ⟨z, hy, rfl⟩ := map_get hx; exact ih j z hy)
      (fun j x hx => by obtain ⟨z, hy, rfl⟩ := map_get hx; exact ih' j z hy)
theorem one_byte {w : World} {s : Sig} {I : Imm} (him : ∀ a v, I a = some v → hcell w a = some v) {o : Option Nat} {f : Nat → List IV} {b : Int} {v : Value} (h : V I β s (.lst o 1 1 f) v) (hf : f 0 = [.int .u8 b]) :
    ∃ ad cp, v = .slice (some ad) 1 cp ∧ w.cell? ad = some (.int .u8 b) := by
  rcases h.lst_inv with ⟨p, _, h0⟩ | ⟨b', off, c, g, hv, hc, _, hl, hI, h1, hD⟩
  · cases h0
  · have hd := hD 0 0 (.int .u8 b) (by decide) (by rw [hf]; rfl)
    have hg : g 0 0 = .int .u8 b := by generalize g 0 0 = u at hd; cases hd; rfl
    have := him _ _ (hI 0 0 (by decide) (by decide))
    rw [hg, hcell_none] at this
    exact ⟨_, _, hv, by simpa using this⟩
theorem settle_sound {t e n el b : Nat} {g : Nat → List IV} {vs : Array Value} (r : Rel Γ S a w I X β σ) (ht : σ 0 t = some ⟨b, el, e, 0, n⟩) (hkey : lookC S.ce t = none)
    (hs : vs.size = n * e) (h1 : ∀ (j : Nat) u, vs[j]? = some u → u.oneCell' = true)
    (hf : ∀ i, i < n → (g i).length = e) (hD : ∀ i (j : Nat) x, i < n → (g i)[j]? = some x → D I x (vs.getD (i * e + j) undef)) (w' : World)
    (hh : w'.heap[b]? = some (.cells vs el (0, 0))) (hold : ∀ (k : Nat) (o : Obj), k ≠ b → w.heap[k]? = some o → w'.heap[k]? = some o) (hsz : w.heap.size ≤ w'.heap.size)
    (hos : w'.os = w.os) (hta : w'.tape = w.tape) (hou : w'.output = w.output) :
    ∃ β' σ', Rel Γ ⟨settleT t (.row t e n n b) S.tm, (t, flatR e n g) :: settleC t (.row t e n n b) S.ce, S.up⟩ a w' I X β' σ' ∧ Ext I X w I w' ∧ Above β β' σ σ' := by
  obtain ⟨cur, c1, c2, c3, c4, c5, c6, c7⟩ := r.own.row t _ ht
  simp only at c1 c2 c3 c4 c5 c6 c7
  have hfix : ∀ (k : Nat) o, w.heap[k]? = some o → fixed o = true → w'.heap[k]? = some o := fun k o hk ho => by
    by_cases e : k = b
    · subst e; rw [c1] at hk; cases hk; cases ho
    · exact hold k o e hk
  have hno : ∀ x v, I x = some v → x.block ≠ b := by
    intro x v hx hb
    have h0 := r.mem.im x v hx
    obtain ⟨xb, xo, xs⟩ := x
    simp only at hb; subst hb
    have hsp : xs = none := (hcell_cells h0 c1).1
    subst hsp
    rw [c5 xo (by omega)] at hx; cases hx
  let β' : Beta := fun l d => if l = 0 ∧ d = t then some b else β l d
  have hβ0 : ∀ b', β 0 t ≠ some b' := fun b' h => by
    obtain ⟨c', hc'⟩ := r.mem.keys 0 t b' h
    have : lookC S.ce t = some c' := hc'
    rw [hkey] at this; cases this
  have hβ : ∀ l d b', β l d = some b' → β' l d = some b' := fun l d b' h => by
    show (if _ then _ else _) = _
    rw [if_neg]; exact h
    rintro ⟨rfl, rfl⟩; exact hβ0 _ h
  let σ' := setSig σ fun u => if u = t then none else σ 0 u
  have hσ : ∀ u g0, u ≠ t → σ 0 u = some g0 → σ' 0 u = some g0 := by
    intro u g0 hu hg
    show (if _ then _ else _) = _
    rw [if_neg hu]; exact hg
  have hv : V I β' (σ' 0) (.row t e n n b) (.slice (some ⟨b, 0, none⟩) n n) := .row t e n b n (if_pos ⟨rfl, rfl⟩) (Nat.le_refl _)
  have hst : ∀ {x : IV} {v : Value}, V I β (σ 0) x v → V I β' (σ' 0) (settle t (.row t e n n b) x) v := fun h => V.settle (fun _ _ h => h) hβ hσ ht hv h
  have look0 : ∀ d', lookC ((t, flatR e n g) :: settleC t (.row t e n n b) S.ce) d' = if d' = t then some (flatR e n g) else (lookC S.ce d').map (settleL t (.row t e n n b)) := fun d' => by
    rw [← settleC_look]
    show (match Nat.beq t d' with | true => some (flatR e n g) | false => lookC (settleC t (.row t e n n b) S.ce) d') = _
    by_cases hd : d' = t
    · subst hd; rw [if_pos rfl, show Nat.beq d' d' = true from (beq_iff _ _).2 rfl]
    · rw [if_neg hd]
      cases hb : Nat.beq t d' with
      | true => exact absurd ((beq_iff _ _).1 hb).symm hd
      | false => rfl
  refine ⟨β', σ', ⟨fun i => ?_, r.df.to hfix (fun _ _ h => h), r.nt, ⟨fun l d' c0 hc0 => ?_, fun l d l' d' b' h1 h2 => ?_, fun l d' b' hb' => ?_, fun x v hx => ?_, fun g => r.mem.glo g, fun k hk => by have := r.mem.xb k hk; omega, r.mem.gz.of fun g0 arr0 el0 m0 hg0 => by
      by_cases q : g0 = b
      · subst q; rw [c1] at hg0; cases hg0; exact ⟨vs, el, _, hh, hs.trans c4.symm⟩
      · exact ⟨_, _, _, hold _ _ q hg0, rfl⟩⟩, ⟨fun u g0 hg => ?_, fun u u' g0 g0' hg hg' hb => ?_⟩⟩,
    ⟨hos, hta, hou, hsz, fun k hk => ?_, fun _ _ h => h, fun _ _ => rfl, hfix⟩, ⟨fun l => ?_, fun _ => rfl⟩⟩
  · rw [settleT_look]; exact hst (r.tm i)
  · cases l with
    | zero =>
      have hc0 : lookC ((t, flatR e n g) :: settleC t (.row t e n n b) S.ce) d' = some c0 := hc0
      rw [look0] at hc0
      split at hc0
      · rename_i hd
        cases hc0; subst hd
        refine ⟨b, vs, el, if_pos ⟨rfl, rfl⟩, hh, by rw [hs]; simp [flatR], h1, fun j x hx => ?_, fun j => c5 j (by omega), c6⟩
        have hj : j < n * e := by
          have := (List.getElem?_eq_some_iff.1 hx).1
          simpa [flatR] using this
        have he : 0 < e := by rcases Nat.eq_zero_or_pos e with h | h; · subst h; simp at hj
                              · exact h
        have hjn : j / e < n := (Nat.div_lt_iff_lt_mul he).2 hj
        have hje : j % e < e := Nat.mod_lt _ he
        have hx0 : x = ((g (j / e))[j % e]?).getD .dead := by
          simp only [flatR, List.getElem?_map, List.getElem?_range hj, Option.map_some, Option.some.injEq] at hx
          exact hx.symm
        have hlen := hf (j / e) hjn
        obtain ⟨y, hy⟩ : ∃ y, (g (j / e))[j % e]? = some y := ⟨_, List.getElem?_eq_getElem (by omega)⟩
        rw [hy] at hx0
        simp only [Option.getD_some] at hx0
        subst hx0
        have hd1 := hD _ _ _ hjn hy
        have hjj : j / e * e + j % e = j := by rw [Nat.mul_comm]; exact Nat.div_add_mod j e
        rw [hjj] at hd1
        exact .data hd1
      · rename_i hd
        rw [Option.map_eq_some_iff] at hc0
        obtain ⟨y, hy, rfl⟩ := hc0
        obtain ⟨b', arr, el', g1, g2, g3, g4, g5, g6, g7⟩ := r.mem.cell 0 d' y hy
        have hne : b' ≠ b := fun e => c7 0 d' (e ▸ g1)
        refine ⟨b', arr, el', hβ _ _ _ g1, hold _ _ hne g2, by simp [settleL_eq, g3], g4, fun j x hx => ?_, g6, g7⟩
        rw [settleL_eq] at hx
        obtain ⟨z, hz, rfl⟩ := map_get hx
        have := hst (by simpa using g5 j z hz)
        simpa using this
    | succ l =>
      obtain ⟨b', arr, el', g1, g2, g3, g4, g5, g6, g7⟩ := r.mem.cell (l + 1) d' c0 hc0
      have hne : b' ≠ b := fun e => c7 (l + 1) d' (e ▸ g1)
      exact ⟨b', arr, el', hβ _ _ _ g1, hold _ _ hne g2, g3, g4, fun j x hx => (g5 j x hx).mono (fun _ _ h => h) (fun l' d'' b'' h => hβ _ _ _ h) (fun _ _ h => h), g6, g7⟩
  · have h1 : (if l = 0 ∧ d = t then some b else β l d) = some b' := h1
    have h2 : (if l' = 0 ∧ d' = t then some b else β l' d') = some b' := h2
    split at h1 <;> split at h2
    · rename_i q1 q2; exact ⟨q1.1.trans q2.1.symm, q1.2.trans q2.2.symm⟩
    · cases h1; exact absurd h2 (c7 _ _)
    · cases h2; exact absurd h1 (c7 _ _)
    · exact r.mem.inj _ _ _ _ _ h1 h2
  · have hb' : (if l = 0 ∧ d' = t then some b else β l d') = some b' := hb'
    cases l with
    | zero =>
      show ∃ c, lookC ((t, flatR e n g) :: settleC t (.row t e n n b) S.ce) d' = some c
      rw [look0]
      split
      · exact ⟨_, rfl⟩
      · rename_i hd
        rw [if_neg (by rintro ⟨_, h⟩; exact hd h)] at hb'
        obtain ⟨y, hy⟩ := r.mem.keys 0 d' b' hb'
        have hy : lookC S.ce d' = some y := hy
        rw [hy]; exact ⟨_, rfl⟩
    | succ l =>
      rw [if_neg (by rintro ⟨h, _⟩; omega)] at hb'
      obtain ⟨y, hy⟩ := r.mem.keys (l + 1) d' b' hb'
      exact ⟨y, hy⟩
  · have hb := hno x v hx
    have h0 := r.mem.im x v hx
    have hlt := hcell_lt h0
    have hsame : w'.heap[x.block]? = w.heap[x.block]? := by
      rw [Array.getElem?_eq_getElem hlt]
      exact hold _ _ hb (Array.getElem?_eq_getElem hlt)
    rw [hcell_of_block hsame]; exact h0
  · have hg : (if u = t then none else σ 0 u) = some g0 := hg
    split at hg
    · cases hg
    · rename_i hut
      obtain ⟨cur', k1, k2, k3, k4, k5, k6, k7⟩ := r.own.row u g0 hg
      have hne : g0.b ≠ b := fun e => hut (r.own.inj u t g0 _ hg ht e)
      refine ⟨cur', hold _ _ hne k1, k2, k3, k4, k5, k6, fun l d h => ?_⟩
      have h : (if l = 0 ∧ d = t then some b else β l d) = some g0.b := h
      split at h
      · cases h; exact hne rfl
      · exact k7 l d h
  · have hg : (if u = t then none else σ 0 u) = some g0 := hg
    have hg' : (if u' = t then none else σ 0 u') = some g0' := hg'
    split at hg
    · cases hg
    split at hg'
    · cases hg'
    exact r.own.inj u u' g0 g0' hg hg' hb
  · have := r.mem.xb k hk
    have hne : k ≠ b := fun e => c6 (e ▸ hk)
    rw [Array.getElem?_eq_getElem this]
    exact hold _ _ hne (Array.getElem?_eq_getElem this)
  · funext d
    show (if _ then _ else _) = _
    rw [if_neg (by omega)]
theorem settle_list {t e n el b : Nat} {g : Nat → List IV} {vs : Array Value} (r : Rel Γ S a w I X β σ) (ht : σ 0 t = some ⟨b, el, e, 0, n⟩)
    (hs : vs.size = n * e) (h1 : ∀ (j : Nat) u, vs[j]? = some u → u.oneCell' = true)
    (hf : ∀ i, i < n → (g i).length = e) (hD : ∀ i (j : Nat) x, i < n → (g i)[j]? = some x → D I x (vs.getD (i * e + j) undef)) (w' : World)
    (hh : w'.heap[b]? = some (.cells vs el (0, 0))) (hold : ∀ (k : Nat) (o : Obj), k ≠ b → w.heap[k]? = some o → w'.heap[k]? = some o) (hsz : w.heap.size ≤ w'.heap.size)
    (hos : w'.os = w.os) (hta : w'.tape = w.tape) (hou : w'.output = w.output) :
    ∃ I' σ', Rel Γ ⟨settleT t (.lst (some t) e n g) S.tm, settleC t (.lst (some t) e n g) S.ce, S.up⟩ a w' I' X β σ' ∧ Ext I X w I' w' ∧ Above β β σ σ' := by
  obtain ⟨cur, c1, c2, c3, c4, c5, c6, c7⟩ := r.own.row t _ ht
  simp only at c1 c2 c3 c4 c5 c6 c7
  have hfix : ∀ (k : Nat) o, w.heap[k]? = some o → fixed o = true → w'.heap[k]? = some o := fun k o hk ho => by
    by_cases e : k = b
    · subst e; rw [c1] at hk; cases hk; cases ho
    · exact hold k o e hk
  let I' : Imm := fun x => if x.block = b then (if x.off < n * e ∧ x.spot = none then some (vs.getD x.off undef) else none) else I x
  have hno : ∀ x v, I x = some v → x.block ≠ b := by
    intro x v hx hb
    have h0 := r.mem.im x v hx
    obtain ⟨xb, xo, xs⟩ := x
    simp only at hb; subst hb
    have hsp : xs = none := (hcell_cells h0 c1).1
    subst hsp
    rw [c5 xo (by omega)] at hx; cases hx
  have hI : ∀ x v, I x = some v → I' x = some v := by
    intro x v hx
    show (if _ then _ else _) = _
    rw [if_neg (hno x v hx)]; exact hx
  let σ' := setSig σ fun u => if u = t then some ⟨b, el, e, n, n⟩ else σ 0 u
  have hσ : ∀ u g0, u ≠ t → σ 0 u = some g0 → σ' 0 u = some g0 := by
    intro u g0 hu hg
    show (if _ then _ else _) = _
    rw [if_neg hu]; exact hg
  have hlt : ∀ i j, i < n → j < e → i * e + j < n * e := by
    intro i j hi hj
    have := Nat.mul_le_mul_right e (show i + 1 ≤ n by omega)
    rw [Nat.add_mul] at this; omega
  have hv : V I' β (σ' 0) (.lst (some t) e n g) (.slice (some ⟨b, 0, none⟩) n n) := by
    refine .own t e n g b el n (fun i j => vs.getD (i * e + j) undef) (by show (if _ then _ else _) = _; simp) (Nat.le_refl _) hf (fun i j hi hj => ?_) (fun i j hi hj => ?_) (fun i j x hi hx => (hD i j x hi hx).mono hI)
    · show (if _ then _ else _) = _
      rw [if_pos rfl, if_pos ⟨hlt i j hi hj, rfl⟩]
    · have hl := hlt i j hi hj
      have hl2 : i * e + j < vs.size := by omega
      exact h1 (i * e + j) _ (by simp [hl2])
  have hst : ∀ {x : IV} {v : Value}, V I β (σ 0) x v → V I' β (σ' 0) (settle t (.lst (some t) e n g) x) v := fun h => V.settle hI (fun _ _ _ h => h) hσ ht hv h
  refine ⟨I', σ', ⟨fun i => ?_, r.df.to hfix (fun _ _ h => h), r.nt, ⟨fun l d' c0 hc0 => ?_, r.mem.inj, fun l d' b' hb' => ?_, fun x v hx => ?_, fun g => (r.mem.glo g).mono hI, fun k hk => by have := r.mem.xb k hk; omega, r.mem.gz.of fun g0 arr0 el0 m0 hg0 => by
      by_cases q : g0 = b
      · subst q; rw [c1] at hg0; cases hg0; exact ⟨vs, el, _, hh, hs.trans c4.symm⟩
      · exact ⟨_, _, _, hold _ _ q hg0, rfl⟩⟩, ⟨fun u g0 hg => ?_, fun u u' g0 g0' hg hg' hb => ?_⟩⟩,
    ⟨hos, hta, hou, hsz, fun k hk => ?_, hI, fun x hx => ?_, hfix⟩, .setSig β σ _⟩
  · rw [settleT_look]; exact hst (r.tm i)
  · cases l with
    | zero =>
      simp only [upC, settleC_look, Option.map_eq_some_iff] at hc0
      obtain ⟨y, hy, rfl⟩ := hc0
      obtain ⟨b', arr, el', g1, g2, g3, g4, g5, g6, g7⟩ := r.mem.cell 0 d' y hy
      have hne : b' ≠ b := fun e => c7 0 d' (e ▸ g1)
      refine ⟨b', arr, el', g1, hold _ _ hne g2, by simp [settleL_eq, g3], g4, fun j x hx => ?_, fun j => ?_, g7⟩
      · rw [settleL_eq] at hx
        obtain ⟨z, hz, rfl⟩ := map_get hx
        have := hst (by simpa using g5 j z hz)
        simpa using this
      · show (if _ then _ else _) = _
        rw [if_neg hne]; exact g6 j
    | succ l =>
      obtain ⟨b', arr, el', g1, g2, g3, g4, g5, g6, g7⟩ := r.mem.cell (l + 1) d' c0 hc0
      have hne : b' ≠ b := fun e => c7 (l + 1) d' (e ▸ g1)
      refine ⟨b', arr, el', g1, hold _ _ hne g2, g3, g4, fun j x hx => (g5 j x hx).mono hI (fun _ _ _ h => h) (fun _ _ h => h), fun j => ?_, g7⟩
      show (if _ then _ else _) = _
      rw [if_neg hne]; exact g6 j
  · obtain ⟨y, hy⟩ := r.mem.keys l d' b' hb'
    cases l with
    | zero =>
      simp only [upC] at hy
      exact ⟨_, by simp only [upC, settleC_look, hy]; rfl⟩
    | succ l => exact ⟨y, hy⟩
  · replace hx : (if x.block = b then (if x.off < n * e ∧ x.spot = none then some (vs.getD x.off undef) else none) else I x) = some v := hx
    split at hx
    · rename_i hb
      split at hx
      · rename_i ho
        obtain ⟨xb, xo, xs⟩ := x
        simp only at hb ho hx; subst hb; obtain ⟨ho, rfl⟩ := ho
        rw [hcell_none, cell_of_row w' xb xo vs el _ hh]
        have : xo < vs.size := by omega
        simpa [this] using hx
      · cases hx
    · rename_i hb
      have h0 := r.mem.im x v hx
      have hlt := hcell_lt h0
      have hsame : w'.heap[x.block]? = w.heap[x.block]? := by
        rw [Array.getElem?_eq_getElem hlt]
        exact hold _ _ hb (Array.getElem?_eq_getElem hlt)
      rw [hcell_of_block hsame]; exact h0
  · have hg : (if u = t then some _ else σ 0 u) = some g0 := hg
    split at hg
    · simp at hg; subst hg
      refine ⟨vs, hh, ⟨Nat.le_refl _, h1⟩, c3, hs, fun j hj => ?_, c6, c7⟩
      show (if _ then _ else _) = _
      rw [if_pos rfl, if_neg (by simp at hj ⊢; omega)]
    · rename_i hut
      obtain ⟨cur', k1, k2, k3, k4, k5, k6, k7⟩ := r.own.row u g0 hg
      have hne : g0.b ≠ b := fun e => hut (r.own.inj u t g0 _ hg ht e)
      refine ⟨cur', hold _ _ hne k1, k2, k3, k4, fun j hj => ?_, k6, k7⟩
      show (if _ then _ else _) = _
      rw [if_neg hne]; exact k5 j hj
  · have hg : (if u = t then some _ else σ 0 u) = some g0 := hg
    have hg' : (if u' = t then some _ else σ 0 u') = some g0' := hg'
    split at hg <;> split at hg'
    · subst_vars; rfl
    · rename_i h1 h2
      simp at hg; subst hg
      exact absurd (r.own.inj u' t g0' _ hg' ht hb.symm) h2
    · rename_i h1 h2
      simp at hg'; subst hg'
      exact absurd (r.own.inj u t g0 _ hg ht hb) h1
    · exact r.own.inj u u' g0 g0' hg hg' hb
  · have := r.mem.xb k hk
    have hne : k ≠ b := fun e => c6 (e ▸ hk)
    rw [Array.getElem?_eq_getElem this]
    exact hold _ _ hne (Array.getElem?_eq_getElem this)
  · show (if _ then _ else _) = _
    rw [if_neg (fun (e : x.block = b) => c6 (e ▸ hx))]
theorem raw_sound {d e n el : Nat} {vs : Array Value} (r : Rel Γ S a w I X β σ) (htag : σ 0 d = none) (h : putT Γ S (some d) (.raw d e n) K) (hc : n ≤ maxLen) (hs : vs.size = n * e) (h1 : ∀ (j : Nat) (u : Value), vs[j]? = some u → u.oneCell' = true) :
    Aft Γ K I X w β σ (a.put (some d) (.slice (some ⟨w.heap.size, 0, none⟩) n n)) (w.alloc (.cells vs el)) := by
  obtain ⟨f1, f2, f3, f4⟩ := fresh_block r
  let σ' := setSig σ fun u => if u = d then some ⟨w.heap.size, el, e, 0, n⟩ else σ 0 u
  have hσ : ∀ u g, σ 0 u = some g → σ' 0 u = some g := by
    intro u g hu
    show (if _ then _ else _) = _
    rw [if_neg]; exact hu
    rintro rfl; rw [htag] at hu; cases hu
  have r0 := r.alloc (.cells vs el)
  have r1 : Rel Γ S a (w.alloc (.cells vs el)) I X β σ' := by
    refine ⟨fun i => (r0.tm i).mono (fun _ _ h => h) (fun _ _ _ h => h) hσ, r0.df, r0.nt, ⟨fun l d' c0 hc0 => ?_, r0.mem.inj, r0.mem.keys, r0.mem.im, r0.mem.glo, r0.mem.xb, r0.mem.gz⟩, ⟨fun t g hg => ?_, fun t t' g g' hg hg' hb => ?_⟩⟩
    · obtain ⟨b', arr, el', g1, g2, g3, g4, g5, g6, g7⟩ := r0.mem.cell l d' c0 hc0
      refine ⟨b', arr, el', g1, g2, g3, g4, fun j x hx => (g5 j x hx).mono (fun _ _ h => h) (fun _ _ _ h => h) (fun t g h => ?_), g6, g7⟩
      cases l with
      | zero => exact hσ t g h
      | succ l => exact h
    · have hg : (if t = d then some _ else σ 0 t) = some g := hg
      split at hg
      · simp at hg; subst hg
        refine ⟨vs, heap_alloc_new w _, ⟨Nat.zero_le _, h1⟩, hc, hs, fun j _ => ?_, f1, f2⟩
        cases hj : I ⟨w.heap.size, j, none⟩ with
        | none => rfl
        | some v => exact absurd rfl (f4 _ _ hj)
      · exact r0.own.row t g hg
    · have hg : (if t = d then some _ else σ 0 t) = some g := hg
      have hg' : (if t' = d then some _ else σ 0 t') = some g' := hg'
      split at hg <;> split at hg'
      · subst_vars; rfl
      · simp at hg; subst hg
        exact absurd hb.symm (f3 t' g' hg')
      · simp at hg'; subst hg'
        exact absurd hb (f3 t g hg)
      · exact r0.own.inj t t' g g' hg hg' hb
  obtain ⟨S', hk, r'⟩ := putT_sound h r1 (.raw d e n w.heap.size el (if_pos rfl))
  exact ⟨S', I, β, σ', hk, r', .alloc _ _ _ _ r.mem.xb, .setSig β σ _⟩
theorem newC_look {d : Nat} {c : List IV} (h : newC Γ S d c K) : newC Γ S d c fun S' => look S'.tm d = .ptr 0 d 0 ∧ K S' := by
  have h0 : ∀ {S : St} {c : List IV}, newC0 Γ S d c K → newC0 Γ S d c fun S' => look S'.tm d = .ptr 0 d 0 ∧ K S' := fun {S} {c} h => by
    obtain ⟨tm, ce, up⟩ := S
    simp only [newC0] at h ⊢
    split at h
    · exact h.elim
    · split at h
      · refine ⟨?_, h⟩
        rw [look_cons, if_pos rfl]
      · exact h.elim
  obtain ⟨tm, ce, up⟩ := S
  simp only [newC] at h ⊢
  split at h
  · rename_i hq
    (try simp only [hq])
    rw [fps_eq, fcs_eq] at h ⊢
    exact h0 (S := ⟨killT d tm, killC d ce, up⟩) h
  · rename_i hq
    (try simp only [hq])
    exact h0 (S := ⟨tm, ce, up⟩) h
theorem put_put {d : Nat} {u v : Value} : (a.put (some d) u).put (some d) v = a.put (some d) v := by
  simp [Act.put]
theorem rowI_sound {d e n el : Nat} {c : List IV} {vs : Array Value} (h : rowI Γ S d e n c K) (r : Rel Γ S a w I X β σ) (hc : CV I β (σ 0) c vs) :
    Aft Γ K I X w β σ (a.put (some d) (.slice (some ⟨w.heap.size, 0, none⟩) n n)) (w.alloc (.cells vs el)) := by
  obtain ⟨S', I', β', σ', ⟨hl, hk⟩, r', he, ha⟩ := newC_sound (el := el) (newC_look h) r hc
  have hd := r'.tm d
  rw [hl] at hd
  have hlt : d < a.tmps.size := by
    have h2 := hk 0
    obtain ⟨tm, ce, up⟩ := S'
    simp only [putT] at h2
    split at h2
    · rename_i hb
      have h3 := r'.nt
      have h4 : (a.put (some d) (.pointer (some ⟨w.heap.size, 0, none⟩))).tmps.size = a.tmps.size := by simp [Act.put]
      have := blt_lt hb
      omega
    · exact h2.elim
  have hv : (a.put (some d) (.pointer (some ⟨w.heap.size, 0, none⟩))).tmps.getD d undef = .pointer (some ⟨w.heap.size, 0, none⟩) := by
    simp only [Act.put, Array.getD_eq_getD_getElem?]
    rw [Array.getElem?_setIfInBounds_self_of_lt hlt]; rfl
  rw [hv] at hd
  have hb : β' 0 d = some w.heap.size := by
    generalize hp : Value.pointer (some ⟨w.heap.size, 0, none⟩) = p at hd
    cases hd with
    | data h => cases h
    | ptr l d off b hb =>
      simp at hp
      rw [hb, hp]
  obtain ⟨S2, hk2, r2⟩ := putT_sound (hk w.heap.size) r' (.row d e n w.heap.size n hb (Nat.le_refl _))
  rw [put_put] at r2
  exact ⟨S2, I', β', σ', hk2, r2, he, ha⟩
theorem flatZ_CV {I : Imm} {β : Beta} {s : Sig} {e n : Nat} {z : List IV} {zs : Array Value} (h : CV I β s z zs) (hz : z.length = e) (he : 0 < e) : CV I β s (flatR e n fun _ => z) (madeCells zs (n * e)) := by
  obtain ⟨h1, h2, h3⟩ := h
  have hs : zs.size = e := by omega
  refine ⟨by simp [flatR, madeCells], fun j u hu => ?_, fun j x hx => ?_⟩
  · simp only [madeCells, Array.getElem?_map] at hu
    obtain ⟨k, hk, rfl⟩ := Option.map_eq_some_iff.1 hu
    have hlt : k % zs.size < zs.size := Nat.mod_lt _ (by omega)
    exact h2 (k % zs.size) _ (by rw [getElem!_pos zs _ hlt]; exact Array.getElem?_eq_getElem hlt)
  · have hj : j < n * e := by have := (List.getElem?_eq_some_iff.1 hx).1; simpa [flatR] using this
    have hlt : j % e < zs.size := by have := Nat.mod_lt j he; omega
    simp only [flatR, List.getElem?_map, List.getElem?_range hj, Option.map_some, Option.some.injEq] at hx
    obtain ⟨y, hy⟩ : ∃ y, z[j % e]? = some y := ⟨_, List.getElem?_eq_getElem (by omega)⟩
    rw [hy] at hx
    simp only [Option.getD_some] at hx
    subst hx
    have hv := h3 _ _ hy
    have e1 : (madeCells zs (n * e)).getD j undef = zs.getD (j % e) undef := by
      simp only [madeCells, Array.getD_eq_getD_getElem?, Array.getElem?_map, Array.getElem?_range]
      rw [if_pos hj]
      simp only [Option.map_some, Option.getD_some, hs]
      rw [getElem!_pos zs _ hlt, Array.getElem?_eq_getElem hlt]; rfl
    rw [e1]; exact hv
theorem flN_spec {op : BinOp} {x y : IV} {k : FloatKind} {r : Option Nat} (h : flN op x y = some (k, r)) :
    ∃ a b, x = .lit (.float k a) ∧ y = .lit (.float k b) ∧ (op = .add ∨ op = .sub ∨ op = .mul ∨ op = .quo) ∧ floatBits op k a b = r := by
  unfold flN at h
  split at h
  · rename_i k1 a k2 b
    split at h
    · rename_i hk; have hk := of_decide_eq_true hk; subst hk; cases h; exact ⟨a, b, rfl, rfl, .inl rfl, rfl⟩
    · rename_i hk; have hk := of_decide_eq_true hk; subst hk; cases h; exact ⟨a, b, rfl, rfl, .inr (.inl rfl), rfl⟩
    · rename_i hk; have hk := of_decide_eq_true hk; subst hk; cases h; exact ⟨a, b, rfl, rfl, .inr (.inr (.inl rfl)), rfl⟩
    · rename_i hk; have hk := of_decide_eq_true hk; subst hk; cases h; exact ⟨a, b, rfl, rfl, .inr (.inr (.inr rfl)), rfl⟩
    · cases h
  · cases h
theorem flV_some {op : BinOp} (hop : op = .add ∨ op = .sub ∨ op = .mul ∨ op = .quo) {k : FloatKind} {a b n : Nat} (hb : floatBits op k a b = some n) : flV op (.float k a) (.float k b) = some (.lit (.float k n)) := by
  rcases hop with rfl | rfl | rfl | rfl <;> (simp only [flV, decide_true, flC]; rw [hb])
theorem flV_none {op : BinOp} (hop : op = .add ∨ op = .sub ∨ op = .mul ∨ op = .quo) {k : FloatKind} {a b : Nat} (hb : floatBits op k a b = none) : flV op (.float k a) (.float k b) = none := by
  rcases hop with rfl | rfl | rfl | rfl <;> (simp only [flV, decide_true, flC]; rw [hb])
theorem run_nan {P : Program} {op : BinOp} (hop : op = .add ∨ op = .sub ∨ op = .mul ∨ op = .quo) {k : FloatKind} {a b : Nat} (h : floatBits op k a b = none) (t : TypeId) (w : World) :
    ∃ n, (binOp op t (.float k a) (.float k b)).run P w = .ok (.float k n) { w with drawn := w.drawn + 1 } := by
  refine ⟨(Question.nanBits k a b).cut (w.tape w.drawn (.nanBits k a b)), ?_⟩
  rcases hop with rfl | rfl | rfl | rfl <;> (simp only [floatBits] at h; simp [binOp, Op.floatArith, h, choose, Sem.run, Question.forced])
theorem guard_flt {P : Program} (op : BinOp) (t : TypeId) (ox oy : Operand) (k k' : FloatKind) (a b : Nat) (w : World) : (eqGuard op t ox oy (.float k a) (.float k' b)).run P w = .ok () w := by cases op <;> rfl
theorem Rel.draw (r : Rel Γ S a w I X β σ) (n : Nat) : Rel Γ S a { w with drawn := n } I X β σ :=
  ⟨r.tm, r.df.to (fun _ _ h _ => h) (fun _ _ h => h), r.nt, ⟨r.mem.cell, r.mem.inj, r.mem.keys, r.mem.im, r.mem.glo, r.mem.xb, r.mem.gz⟩, ⟨r.own.row, r.own.inj⟩⟩
theorem iop_sound {C : Con} (hT : TOK Γ.P Γ.T) (o : Oper) (hnc : ∀ c, o.op ≠ .call c) (h : iop C Γ S o K) (r : Rel Γ S a w I X β σ) (Q : Exit → Act → World → Prop) :
    o.wp Γ.P a w (Aft Γ K I X w β σ) Q := by
  obtain ⟨dst, op, type, pos, after, guard⟩ := o
  cases op with
  | move x => simp only [iop, ival, ev_eq] at h; exact wp_val (v := a.eval x) rfl (put_aft h r (evo_V r x))
  | assign x => simp only [iop, ival, ev_eq] at h; exact wp_val (v := a.eval x) rfl (put_aft h r (evo_V r x))
  | pick c x y =>
    simp only [iop, ival, ev_eq] at h
    split at h
    · rename_i b hb
      have hc := evo_V r c
      rw [hb] at hc
      have hc := hc.bool_inv
      split at h
      · exact wp_val (v := a.eval x) (by simp [execOp, hc, asBool]) (put_aft h r (evo_V r x))
      · exact wp_val (v := a.eval y) (by simp [execOp, hc, asBool]) (put_aft h r (evo_V r y))
    · exact h.elim
  | alloc t =>
    simp only [iop, fvL_eq] at h
    split at h
    · rename_i d
      obtain ⟨h0, h⟩ := tyK_spec h
      obtain ⟨inf, dd, z, tk⟩ := TOK.get hT (t := t) (.inl (by omega))
      refine wp_val (w' := w.alloc (.cells z.cells t)) ?_ (newC_sound h r (zero_CV tk I β _))
      simp [execOp, Instr.alloc, zeroValue, typeInfo, tk.info, tk.zero, newVar, newRow]
    · exact h.elim
  | box t x =>
    simp only [iop, ev_eq] at h
    split at h
    · rename_i d
      split at h
      · rename_i c hc
        refine wp_val (w' := w.alloc (.cells (a.eval x).cells t)) ?_ (newC_sound h r ((evo_V r x).cells hc))
        simp [execOp, Instr.box, newVar, newRow]
      · exact h.elim
    · exact h.elim
  | build t parts =>
    simp only [iop, ival] at h
    split at h
    · rename_i fs hk
      obtain ⟨inf, d, z, tk⟩ := TOK.get hT (t := t) (.inr (by rw [hk]; simp))
      have kd := tk.kind
      rw [hk] at kd
      obtain ⟨fields, rfl, hfl, hf⟩ := kd
      obtain ⟨xs, cs, hk', hcs, hfill⟩ := buildI_sound r (placeR := fun i => ((fields.toList.zip (fs.map (·.2.1))).map fun (f, s) => (f.offset, s))[i]?) (fun i x hx => by
        rw [fieldAt_eq] at hx
        split at hx
        · rename_i f hfi
          obtain ⟨off, sz, ag⟩ := f
          simp at hx; subst hx
          obtain ⟨f', g1, g2, g3, g4⟩ := hf i off sz ag hfi
          simp [List.getElem?_zip_eq_some, g1, hfi, g2]
        · cases hx) parts.toList _ z.cells _ h (zero_CV tk I β _)
      have hm := run_mapM_places (P := Γ.P) fields.toList (fs.map (·.2.1)) (by simp [hfl]) (fun i f s h1 h2 => by
        simp only [List.getElem?_map, Option.map_eq_some_iff] at h2
        obtain ⟨⟨off, sz', ag⟩, h2, rfl⟩ := h2
        obtain ⟨f', g1, g2, g3, g4⟩ := hf i off sz' ag h2
        simp at h1; rw [h1] at g1; cases g1; exact g3) w
      refine wp_val (v := .agg cs) ?_ (put_aft hk' r hcs.val)
      simp only [execOp, Instr.build, Sem.run_bind, zeroValue, typeInfo, run_program, Result.andThen_ok, tk.info, Sem.run_pure, tk.zero, run_underlying tk.und, Array.mapM_eq_mapM_toList, Sem.run_map, hm, List.getElem?_toArray, Array.toList_map, hfill]
    · rename_i n e hk
      obtain ⟨inf, d, z, tk⟩ := TOK.get hT (t := t) (.inr (by rw [hk]; simp))
      have kd := tk.kind
      rw [hk] at kd
      obtain ⟨rfl, he⟩ := kd
      obtain ⟨inf', d', z', tk'⟩ := TOK.get hT (t := e) (.inl he)
      obtain ⟨xs, cs, hk', hcs, hfill⟩ := buildI_sound r (placeR := fun i => some (i * (Γ.T e).size, (Γ.T e).size)) (fun i x hx => hx) parts.toList _ z.cells _ h (zero_CV tk I β _)
      refine wp_val (v := .agg cs) ?_ (put_aft hk' r hcs.val)
      simp only [execOp, Instr.build, Sem.run_bind, zeroValue, typeInfo, run_program, Result.andThen_ok, tk.info, Sem.run_pure, tk.zero, run_underlying tk.und, run_sz tk'.msize, Array.toList_map, hfill]
    · exact h.elim
  | buildSlice t len parts =>
    simp only [iop] at h
    split at h
    · rename_i e d hk
      split at h
      · rename_i hb1 hb2
        have hb1 := Nat.le_of_ble_eq_true hb1
        have hb2 := blt_lt hb2
        obtain ⟨inf, dd, z, tk⟩ := TOK.get hT (t := t) (.inr (by rw [hk]; simp))
        have kd := tk.kind
        rw [hk] at kd
        obtain ⟨rfl, he⟩ := kd
        obtain ⟨inf', d', z', tk'⟩ := TOK.get hT (t := e) (.inl he)
        have hz := repZ_CV (zero_CV tk' I β (σ 0)) (by rw [tk'.zsize]; exact hb2) len
        obtain ⟨xs, cs, hk', hcs, hfill⟩ := buildI_sound r (placeR := fun i => some (i * (Γ.T e).size, (Γ.T e).size)) (fun i x hx => hx) parts.toList _ _ _ h hz
        rw [tk'.zsize] at hfill
        split at hk'
        · rename_i hnp
          have hrun : ∀ dd, (execOp a.eval ({ dst := dd, op := .buildSlice t len parts, type := type, pos := pos, after := after, guard := guard } : Oper)).run Γ.P w = .ok (.value (.slice (some ⟨w.heap.size, 0, none⟩) len len)) (w.alloc (.cells cs e)) := by
            intro dd
            by_cases h0 : len * (Γ.T e).size = 0
            · have hr0 : ∀ (g : Nat → Value), (Array.range 0).map g = #[] := fun g => by simp
              have hbig : ¬ (len * (Γ.T e).size > 16777216) := by omega
              rw [h0, hr0] at hfill
              simp only [execOp, Instr.buildSlice, Sem.run_bind, run_underlying tk.und, Result.andThen_ok, run_sz tk'.msize]
              simp [newRow, h0, hr0, hfill]
            · have hbig : ¬ (len * (Γ.T e).size > 16777216) := by omega
              simp only [execOp, Instr.buildSlice, Sem.run_bind, run_underlying tk.und, Result.andThen_ok, run_sz tk'.msize]
              simp [newRow, h0, hbig, zeroValue, typeInfo, tk'.info, tk'.zero, tk'.zsize, hfill]
          split at hk'
          · exact wp_val (hrun _) ⟨_, I, β, σ, (putT_sound hk' (r.alloc _) (.data .nilS)).choose_spec.1, (putT_sound hk' (r.alloc _) (.data .nilS)).choose_spec.2, .alloc _ _ _ _ r.mem.xb, .refl _ _⟩
          · split at hk'
            · rw [fvL_eq] at hk'
              exact wp_val (hrun _) (rowI_sound hk' r hcs)
            rw [fvL_eq] at hk'
            obtain ⟨S', hk2, r2, hup, hce⟩ := untag_sound hk' r
            obtain ⟨f1, f2, f3, f4⟩ := fresh_block r2
            have hlen : xs.length = len * (Γ.T e).size := by rw [hcs.1]; have := fill_size hfill; simp [this]
            have hnl : (noOwnL xs).length = len * (Γ.T e).size := by rw [noOwnL_eq, List.length_map, hlen]
            refine wp_val (hrun _) (Aft.sig (σ' := setSig σ fun u => if u = d then none else σ 0 u) (fun _ => rfl)
              (row_sound r2 (by simp [setSig]) hk2 (Nat.le_refl _) (by unfold maxLen; have : 1 ≤ (Γ.T e).size := hb2; have := Nat.le_mul_of_pos_right len hb2; omega)
                (by rw [← hcs.1, hlen]) (fun j u hu => hcs.2.1 j u hu) (fun i hi => (litF_spec hnl i hi).1) (fun i j x hi hx => ?_) _ (heap_alloc_new w _)
                (fun k o hk ho => by rw [heap_alloc_old w _ k (heap_lt ho)]; exact ho) (by simp) f1 f2 f3 (fun x v hx hb => absurd hb (f4 x v hx)) rfl rfl rfl (fresh_fix w)))
            rw [(litF_spec hnl i hi).2] at hx
            split at hx
            · rw [noOwnL_eq] at hx
              obtain ⟨y, hy, rfl⟩ := map_get hx
              exact (hcs.2.2 _ y hy).data' (noPtrL_get hnp _ _ hy)
            · cases hx
        · exact hk'.elim
      · exact h.elim
    · exact h.elim
  | load t x =>
    simp only [iop, ival, fv_eq] at h
    obtain ⟨h0, h⟩ := tyK_spec h
    obtain ⟨inf, dd, z, tk⟩ := TOK.get hT (t := t) (.inl (by omega))
    obtain ⟨v, u, hk, hv, hr⟩ := loadI_sound tk.msize tk.agg h0 tk.one h r (evo_V r x)
    exact wp_val (v := u) (by simp [execOp, hr]) (put_aft hk r hv)
  | store t x y =>
    simp only [iop, ev_eq] at h
    cases dst with
    | none =>
      obtain ⟨h0, h⟩ := tyK_spec h
      obtain ⟨inf, dd, z, tk⟩ := TOK.get hT (t := t) (.inl (by omega))
      obtain ⟨w', hr, haft⟩ := storeI_sound tk.msize h r (evo_V r x) (evo_V r y)
      exact wp_skp (w' := w') (by simp [execOp, hr]) haft
    | some d => exact h.elim
  | nilCheck x =>
    simp only [iop, ival, ev_eq] at h
    have hv := evo_V r x
    split at h
    · rename_i l d off hx
      rw [hx] at hv
      obtain ⟨b, hb, _⟩ := hv.ptr_inv
      exact wp_val (v := a.eval x) (by simp [execOp, hb]) (put_aft h r hv)
    · rename_i e n f i j hx
      rw [hx] at hv
      obtain ⟨b, off, g, hb, _⟩ := hv.vptr_inv
      exact wp_val (v := a.eval x) (by simp [execOp, hb]) (put_aft h r hv)
    · rename_i f xs ys hx
      rw [hx] at hv
      obtain ⟨vs, us, hb, _⟩ := hv.fn_inv
      exact wp_val (v := a.eval x) (by simp [execOp, hb]) (put_aft h r hv)
    · exact h.elim
  | binOp op t x y t' =>
    simp only [iop] at h
    split at h
    · rename_i k hf
      obtain ⟨u, v, eu, ev, hop, hb⟩ := flN_spec hf
      have hu := evo_V r x
      have hv := evoB_V r y
      rw [eu] at hu
      rw [ev] at hv
      have hu := hu.lit_inv
      have hv := hv.lit_inv
      obtain ⟨n, hr⟩ := run_nan (P := Γ.P) hop hb t w
      refine wp_val (v := .float k n) (w' := { w with drawn := w.drawn + 1 }) ?_ ?_
      · simp only [execOp]
        rw [hu, hv, Sem.run_bind]
        rw [show (do eqGuard op t x y (.float k u) (.float k v); binOp op t (.float k u) (.float k v) : Sem Value).run Γ.P w = .ok (.float k n) { w with drawn := w.drawn + 1 } by rw [Sem.run_bind, guard_flt, Result.andThen_ok, hr]]
        rfl
      · obtain ⟨S', hk, r'⟩ := putT_sound (h n) r (.data (.lit (.float k n) rfl))
        exact ⟨S', I, β, σ, hk, r'.draw _, ⟨rfl, rfl, rfl, Nat.le_refl _, fun _ _ => rfl, fun _ _ h => h, fun _ _ => rfl, fun _ _ h _ => h⟩, .refl _ _⟩
    · rename_i k n hf
      obtain ⟨u, v, eu, ev, hop, hb⟩ := flN_spec hf
      have hu := evo_V r x
      have hv := evoB_V r y
      rw [eu] at hu
      rw [ev] at hv
      have hu := hu.lit_inv
      rw [frcN_eq] at h
      have hv := hv.lit_inv
      refine wp_val (v := .float k n) ?_ (put_aft h r (.data (.lit _ rfl)))
      simp only [execOp]
      rw [hu, hv, Sem.run_bind]
      rw [show (do eqGuard op t x y (.float k u) (.float k v); binOp op t (.float k u) (.float k v) : Sem Value).run Γ.P w = .ok (.float k n) w by rw [Sem.run_bind, guard_flt, Result.andThen_ok, run_float_arith w op t k u v n hb]]
      rfl
    simp only [ival] at h
    cases hny : isNilI y with
    | true =>
      rw [hny] at h
      obtain ⟨_, hb⟩ := tyK_spec h
      clear h
      have hy : y = .const .nilIface := by
        unfold isNilI at hny
        split at hny
        · rfl
        · cases hny
      subst hy
      obtain ⟨iv, v, hk, hv, hr⟩ := nilB_sound (w := w) hT hb (evo_V r x) x
      exact wp_val (v := v) (by simp only [execOp]; rw [Sem.run_bind]; rw [show a.eval (.const .nilIface) = .nilIface from rfl, hr]; rfl) (put_aft hk r hv)
    | false =>
    rw [hny] at h
    obtain ⟨iv, v, hk, hv, hr⟩ := bin_sound (P := Γ.P) (t := t) (w := w) h (evo_V r x) (evoB_V r y) (fun he => by
      rcases hT t with h1 | ⟨inf, d, z, tk⟩
      · rw [h1] at he; exact absurd rfl he
      · exact tk.eqs he) (fun hk b hz => by
      rcases hT t with h1 | ⟨inf, d, z, tk⟩
      · rw [h1] at hz; cases hz
      · rw [tk.und, tk.boo hk b hz]) (fun e hk => by
      rcases hT t with h1 | ⟨inf, d, z, tk⟩
      · rw [h1] at hk; cases hk
      · have := tk.kind
        rw [hk] at this
        rw [tk.und, this.1]) x y
    exact wp_val (v := v) (by simp only [execOp]; rw [Sem.run_bind, hr]; rfl) (put_aft hk r hv)
  | unOp op t x =>
    simp only [iop, ival] at h
    split at h
    · rename_i b hb
      have hv := evo_V r x
      rw [hb] at hv
      exact wp_val (v := .bool !b) (by simp [execOp, hv.bool_inv, Op.unary]) (put_aft h r (.data (.bool _)))
    · rename_i k n hb
      have hv := evo_V r x
      rw [hb] at hv
      exact wp_val (v := .int k (k.wrap (0 - n))) (by simp [execOp, hv.int_inv, Op.unary, Op.intArith]) (put_aft h r (.data (.int _ _)))
    · exact h.elim
  | convert t t' x =>
    simp only [iop, ival] at h
    obtain ⟨h0, h⟩ := tyK_spec h
    obtain ⟨inf0, d0, z0, tk0⟩ := TOK.get hT (t := t) (.inl (by omega))
    split at h
    · rename_i k0 n hk hx
      split at h
      · rename_i k m hz
        have hv := evo_V r x
        rw [hx] at hv
        rcases hT t' with h1 | ⟨inf, d, z, tk⟩
        · rw [h1] at hz; cases hz
        have hd := tk.int hk k m hz
        subst hd
        refine wp_val (v := .int k (k.wrap n)) ?_ (put_aft h r (.data (.int _ _)))
        simp only [execOp, hv.int_inv, convert, Sem.run_bind, run_underlying tk0.und, run_underlying tk.und, Result.andThen_ok, Conv.intToInt]
        rfl
      · rename_i k m hz
        have hv := evo_V r x
        rw [hx] at hv
        rcases hT t' with h1 | ⟨inf, d, z, tk⟩
        · rw [h1] at hz; cases hz
        have hd := tk.flt hk k m hz
        subst hd
        rw [frcN_eq] at h
        refine wp_val (v := .float k (floatOfInt k n)) ?_ (put_aft h r (.data (.lit _ rfl)))
        have hr := run_convert_int_float (P := Γ.P) w t t' k0 k n (by rw [tk0.und]; rfl) tk.und
        simp only [execOp, hv.int_inv, Sem.run_bind, hr]
        rfl
      · exact h.elim
    · rename_i v hk hx
      have hv := evo_V r x
      rw [hx] at hv
      have hvl := hv.lit_inv
      split at h
      · rename_i y hy
        rw [frcV_eq] at h
        rcases hT t' with h1 | ⟨inf, d, z, tk⟩
        · rw [h1] at hy
          unfold cvV at hy
          split at hy <;> first | (rename_i hz; cases hz; done) | cases hy
        have hu0 : (Γ.P.underlying t).isSome = true := by rw [tk0.und]; rfl
        unfold cvV at hy
        split at hy
        · rename_i s b k m hz
          split at hy
          · rename_i n hn
            cases hy
            have hr := run_convert_float_int (P := Γ.P) w t t' s k b n hu0 (by rw [tk.und, tk.int hk k m hz]) hn
            refine wp_val (v := .int k n) ?_ (put_aft h r (.data (.int _ _)))
            simp only [execOp, hvl, Sem.run_bind, hr]
            rfl
          · cases hy
        · rename_i s b k m hz
          split at hy
          · rename_i n hn
            cases hy
            have hr := run_convert_float_float (P := Γ.P) w t t' s k b n hu0 (by rw [tk.und, tk.flt hk k m hz]) hn
            refine wp_val (v := .float k n) ?_ (put_aft h r (.data (.lit _ rfl)))
            simp only [execOp, hvl, Sem.run_bind, hr]
            rfl
          · cases hy
        · rename_i s a b k m1 m2 hz
          split at hy
          · rename_i n hn
            cases hy
            have hr := run_convert_complex (P := Γ.P) w t t' s k a b n.1 n.2 hu0 (by rw [tk.und, tk.cpx hk k m1 m2 hz]) hn
            refine wp_val (v := .complex k n.1 n.2) ?_ (put_aft h r (.data (.lit _ rfl)))
            simp only [execOp, hvl, Sem.run_bind, hr]
            rfl
          · cases hy
        · cases hy
      · exact h.elim
    · rename_i o f hk hx
      split at h
      · rename_i e he
        split at h
        · rename_i m hke hz
          have hv := evo_V r x
          rw [hx] at hv
          rcases hT t' with h1 | ⟨inf, d, z, tk⟩
          · rw [h1] at hk; cases hk
          have kd := tk.kind
          rw [hk] at kd
          have k0 := tk0.kind
          rw [he] at k0
          rcases hT e with h1 | ⟨infe, de, ze, tke⟩
          · rw [h1] at hz; cases hz
          have hde := tke.int hke _ m hz
          have hb : byteK (f 0) fun v => putT Γ S dst v K := h
          unfold byteK at hb
          split at hb
          · rename_i b hf0
            obtain ⟨b0, hb⟩ := chk_spec hb
            obtain ⟨b1, hb⟩ := chk_spec hb
            have b0 := of_decide_eq_true b0
            have b1 := of_decide_eq_true b1
            obtain ⟨ad, cp, hval, hcell⟩ := one_byte r.mem.im hv hf0
            refine wp_val (v := .string ⟨#[UInt8.ofNat b.toNat]⟩) ?_ (put_aft hb r (.data (.str _)))
            have hr := run_convert_bytes_back (P := Γ.P) w t t' e ad cp [UInt8.ofNat b.toNat] (k0.1 ▸ tk0.und) (hde ▸ tke.und) (kd ▸ tk.und) (fun j hj => by
              have : j = 0 := by simpa using hj
              subst this
              rw [Addr.add_zero', hcell]
              simp only [List.getElem_cons_zero]
              congr 2
              rw [show (UInt8.ofNat b.toNat).toNat = b.toNat by rw [UInt8.toNat_ofNat']; exact Nat.mod_eq_of_lt (by omega)]
              omega)
            simp only [execOp, hval, Sem.run_bind]
            rw [show (1 : Nat) = [UInt8.ofNat b.toNat].length from rfl, hr]
            rfl
          · exact hb.elim
        · exact h.elim
      · exact h.elim
    · exact h.elim
  | fieldAddr t x i =>
    simp only [iop, ival] at h
    split at h
    · rename_i fs hk
      split at h
      · rename_i f hf
        obtain ⟨off, sz, ag⟩ := f
        rw [fieldAt_eq] at hf
        obtain ⟨inf, d, z, tk⟩ := TOK.get hT (t := t) (.inr (by rw [hk]; simp))
        have kd := tk.kind
        rw [hk] at kd
        obtain ⟨fields, rfl, hfl, hff⟩ := kd
        obtain ⟨f', g1, g2, g3, g4, g5, g6⟩ := hff i off sz ag hf
        obtain ⟨b, o, q, hp, hk', hq⟩ := addI_spec h (evo_V r x)
        refine wp_val (v := .pointer (some ⟨b, o + off, none⟩)) ?_ (put_aft hk' r hq)
        have hz : ¬ sz = 0 := by omega
        simp [execOp, Instr.fieldAt, run_underlying tk.und, g1, hp, Instr.sureAddr, fieldPlace, run_sz g3, hz, add_none, g2]
      · exact h.elim
    · exact h.elim
  | field t x i =>
    simp only [iop, ival, fv_eq] at h
    split at h
    · rename_i fs xs hk hx
      split at h
      · rename_i f hf
        obtain ⟨off, sz, ag⟩ := f
        rw [fieldAt_eq] at hf
        obtain ⟨inf, d, z, tk⟩ := TOK.get hT (t := t) (.inr (by rw [hk]; simp))
        have kd := tk.kind
        rw [hk] at kd
        obtain ⟨fields, rfl, hfl, hff⟩ := kd
        obtain ⟨f', g1, g2, g3, g4, g5, g6⟩ := hff i off sz ag hf
        have hv := evo_V r x
        rw [hx] at hv
        obtain ⟨vs, hvs, c1, c2, c3⟩ := hv.agg_inv
        obtain ⟨v, u, hk', hv', hr⟩ := part_sound (P := Γ.P) (w := w) g3 g5 g4 g6 h ⟨c1, c2, c3⟩
        exact wp_val (v := u) (by simp [execOp, Instr.field, run_underlying tk.und, g1, hvs, asAgg, g2, hr]) (put_aft hk' r hv')
      · exact h.elim
    · exact h.elim
  | indexAddr t x i =>
    simp only [iop, ival] at h
    split at h
    · rename_i n e hk
      obtain ⟨k, m, hi, h1, h2, h⟩ := idx_spec h (evo_V r i)
      obtain ⟨b, off, q, hp, hk', hq⟩ := addI_spec h (evo_V r x)
      obtain ⟨inf, d, z, tk⟩ := TOK.get hT (t := t) (.inr (by rw [hk]; simp))
      have kd := tk.kind
      rw [hk] at kd
      obtain ⟨rfl, he⟩ := kd
      obtain ⟨inf', d', z', tk'⟩ := TOK.get hT (t := e) (.inl he)
      refine wp_val (v := .pointer (some ⟨b, off + m.toNat * (Γ.T e).size, none⟩)) ?_ (put_aft hk' r hq)
      have hc : 0 ≤ m ∧ m < (n : Int) := ⟨h1, h2⟩
      simp [execOp, Instr.indexAt, hi, asIntOf, run_underlying tk.und, hp, Instr.sureAddr, hc, run_sz tk'.msize, add_none]
    · rename_i e oo e' n f hk hx
      obtain ⟨k, m, hi, h1, h2, h⟩ := idx_spec h (evo_V r i)
      split at h
      · rename_i he'
        have he' := (beq_iff _ _).1 he'
        obtain ⟨inf, d, z, tk⟩ := TOK.get hT (t := t) (.inr (by rw [hk]; simp))
        have kd := tk.kind
        rw [hk] at kd
        obtain ⟨rfl, he⟩ := kd
        obtain ⟨inf', d', z', tk'⟩ := TOK.get hT (t := e) (.inl he)
        have hv := evo_V r x
        rw [hx] at hv
        rcases hv.lst_inv with ⟨_, _, h0⟩ | ⟨b, off, c, g, hvx, hnc', hown, hl, hI, ho, hD⟩
        · omega
        · refine wp_val (v := .pointer (some ⟨b, off + m.toNat * (Γ.T e).size, none⟩)) ?_ (put_aft h r ?_)
          · have hc : 0 ≤ m ∧ m < (n : Int) := ⟨h1, h2⟩
            simp [execOp, Instr.indexAt, hi, asIntOf, run_underlying tk.und, hvx, hc, run_sz tk'.msize, add_none]
          · rw [← he']
            exact .data (.vptr e' n f m.toNat 0 b off g (by omega) hl hI ho hD)
      · exact h.elim
    · rename_i e d e' n _ _ hk hx
      obtain ⟨k, m, hi, h1, h2, h⟩ := idx_spec h (evo_V r i)
      split at h
      · rename_i he'
        have he' := (beq_iff _ _).1 he'
        obtain ⟨inf, d', z, tk⟩ := TOK.get hT (t := t) (.inr (by rw [hk]; simp))
        have kd := tk.kind
        rw [hk] at kd
        obtain ⟨rfl, he⟩ := kd
        obtain ⟨inf', d'', z', tk'⟩ := TOK.get hT (t := e) (.inl he)
        have hv := evo_V r x
        rw [hx] at hv
        obtain ⟨b, c, hvx, hb, hnc⟩ := hv.row_inv
        refine wp_val (v := .pointer (some ⟨b, 0 + m.toNat * (Γ.T e).size, none⟩)) ?_ (put_aft h r ?_)
        · have hc : 0 ≤ m ∧ m < (n : Int) := ⟨h1, h2⟩
          simp [execOp, Instr.indexAt, hi, asIntOf, run_underlying tk.und, hvx, hc, run_sz tk'.msize, add_none]
        · rw [← he', Nat.zero_add]
          exact .ptr 0 d _ b hb
      · exact h.elim
    · exact h.elim
  | index t x i =>
    simp only [iop, ival, fv_eq] at h
    split at h
    · rename_i n e xs hk hx
      obtain ⟨k, m, hi, h1, h2, h⟩ := idx_spec h (evo_V r i)
      obtain ⟨inf, d, z, tk⟩ := TOK.get hT (t := t) (.inr (by rw [hk]; simp))
      have kd := tk.kind
      rw [hk] at kd
      obtain ⟨rfl, he⟩ := kd
      obtain ⟨inf', d', z', tk'⟩ := TOK.get hT (t := e) (.inl he)
      have hv := evo_V r x
      rw [hx] at hv
      obtain ⟨vs, hvs, c1, c2, c3⟩ := hv.agg_inv
      obtain ⟨v, u, hk', hv', hr⟩ := part_sound (P := Γ.P) (w := w) tk'.msize tk'.agg tk'.pos tk'.one h ⟨c1, c2, c3⟩
      refine wp_val (v := u) ?_ (put_aft hk' r hv')
      have hc : 0 ≤ m ∧ m < (n : Int) := ⟨h1, h2⟩
      simp [execOp, Instr.index, hi, asIntOf, run_underlying tk.und, hvs, hc, run_sz tk'.msize, hr]
    · rename_i s hk hx
      obtain ⟨k, m, hi, h1, h2, h⟩ := idx_spec h (evo_V r i)
      obtain ⟨inf, d, z, tk⟩ := TOK.get hT (t := t) (.inr (by rw [hk]; simp))
      have kd := tk.kind
      rw [hk] at kd
      subst kd
      have hv := evo_V r x
      rw [hx] at hv
      refine wp_val (v := .int .u8 ((s.data.toList.getD m.toNat 0).toNat : Int)) ?_ (put_aft h r (.data (.int _ _)))
      have hlt : m.toNat < s.size := by omega
      have hg : s[m.toNat]? = some s[m.toNat] := getElem?_pos s m.toNat hlt
      have hd : s.data.toList.getD m.toNat 0 = s[m.toNat] := by
        have : m.toNat < s.data.size := hlt
        show s.data.toList.getD m.toNat 0 = s.data[m.toNat]
        simp only [List.getD_eq_getElem?_getD, Array.getElem?_toList]
        rw [Array.getElem?_eq_getElem this]; rfl
      rw [hd]
      simp only [execOp, Instr.index, hi, Sem.run_bind, asIntOf, Sem.run_pure, Result.andThen_ok, run_underlying tk.und, hv.str_inv, if_pos h1, hg]
    · exact h.elim
  | makeSlice t len cap =>
    simp only [iop] at h
    split at h
    · rename_i e d hk
      split at h
      · rename_i hpos
        have hpos := blt_lt hpos
        obtain ⟨inf, dd, z, tk⟩ := TOK.get hT (t := t) (.inr (by rw [hk]; simp))
        have kd := tk.kind
        rw [hk] at kd
        obtain ⟨rfl, he⟩ := kd
        obtain ⟨inf', d', z', tk'⟩ := TOK.get hT (t := e) (.inl he)
        unfold makeI at h
        split at h
        · rename_i kl l kc c hl hc
          have vl := evo_V r len
          have vc := evo_V r cap
          rw [hl] at vl
          rw [hc] at vc
          obtain ⟨h1, h⟩ := chk_spec h
          obtain ⟨h2, h⟩ := chk_spec h
          simp at h1 h2
          have hb : (inf'.bytes : Int) * c ≤ 281474976710656 := by
            have hb1 := tk'.bytes
            have : (inf'.bytes : Int) * c ≤ 131072 * 1073741824 := Int.le_trans (Int.mul_le_mul_of_nonneg_right (by omega) h1) (Int.mul_le_mul_of_nonneg_left h2 (by omega))
            omega
          have hsz : ∀ k, (madeCells z'.cells (k * inf'.size)).size = k * (Γ.T e).size := fun k => by rw [size_madeCells, tk'.size]
          split at h
          · obtain ⟨S', hk2, r2, _, _⟩ := untag_sound h r
            obtain ⟨f1, f2, f3, f4⟩ := fresh_block r2
            have l0 : l = 0 := by
              have : evo Γ S (.const (.int _ 0)) = .int _ l := hl
              simp [evo, ofConst] at this
              exact this.2.symm
            subst l0
            have hr := run_make (P := Γ.P) w t e inf' z' tk.und tk'.info tk'.zero kl kc 0 c (by omega) h1 hb (by omega)
            refine wp_val (v := .slice (some ⟨w.heap.size, 0, none⟩) (Int.toNat 0) c.toNat) (w' := w.alloc (.cells (madeCells z'.cells (c.toNat * inf'.size)) e)) (by simp only [execOp, vl.int_inv, vc.int_inv]; rw [Sem.run_bind, hr]; rfl) (Aft.sig (σ' := setSig σ fun u => if u = d then none else σ 0 u) (fun _ => rfl) ?_)
            simp only [Int.toNat_zero]
            refine row_sound (el := e) (vs := madeCells z'.cells (c.toNat * inf'.size)) (e := (Γ.T e).size) r2 (by simp [setSig]) hk2 (Nat.zero_le _) (by unfold maxLen; omega) (hsz _) (rep_one (by rw [tk'.zsize]; exact tk'.pos) tk'.zone _) (fun i hi => by omega) (fun i j x hi => by omega) _ (heap_alloc_new w _)
              (fun k o hk ho => by rw [heap_alloc_old w _ k (heap_lt ho)]; exact ho) (by simp) f1 f2 f3 (fun x v hx hb => absurd hb (f4 x v hx)) rfl rfl rfl (fresh_fix w)
          · obtain ⟨h3, h⟩ := chk_spec h
            simp at h3
            subst h3
            split at h
            · have hr := run_make (P := Γ.P) w t e inf' z' tk.und tk'.info tk'.zero kl kc l l h1 (Int.le_refl _) hb (by omega)
              refine wp_val (v := .slice (some ⟨w.heap.size, 0, none⟩) l.toNat l.toNat) (w' := w.alloc (.cells (madeCells z'.cells (l.toNat * inf'.size)) e)) (by simp only [execOp, vl.int_inv, vc.int_inv]; rw [Sem.run_bind, hr]; rfl) ?_
              rw [tk'.size]
              exact rowI_sound h r (flatZ_CV (zero_CV tk' I β (σ 0)) (by rw [(zero_CV tk' I β (σ 0)).1, tk'.zsize]) hpos)
            obtain ⟨S', hk2, r2, _, _⟩ := untag_sound h r
            have hr := run_make (P := Γ.P) w t e inf' z' tk.und tk'.info tk'.zero kl kc l l h1 (Int.le_refl _) hb (by omega)
            refine wp_val (v := .slice (some ⟨w.heap.size, 0, none⟩) l.toNat l.toNat) (w' := w.alloc (.cells (madeCells z'.cells (l.toNat * inf'.size)) e)) (by simp only [execOp, vl.int_inv, vc.int_inv]; rw [Sem.run_bind, hr]; rfl) (Aft.sig (σ' := setSig σ fun u => if u = d then none else σ 0 u) (fun _ => rfl) ?_)
            exact raw_sound r2 (by simp [setSig]) hk2 (by unfold maxLen; omega) (hsz _) (rep_one (by rw [tk'.zsize]; exact tk'.pos) tk'.zone _)
        · exact h.elim
      · exact h.elim
    · exact h.elim
  | slice t x lo hi mx =>
    have pure : ival Γ S ⟨dst, .slice t x lo hi mx, type, pos, after, guard⟩ (fun v => putT Γ S dst v K) → Oper.wp Γ.P ⟨dst, .slice t x lo hi mx, type, pos, after, guard⟩ a w (Aft Γ K I X w β σ) Q := fun h => by
      cases mx with
      | some m => simp [ival] at h
      | none =>
        simp only [ival] at h
        obtain ⟨iv, v, hk, hv, hr⟩ := sliceI_sound hT h r
        exact wp_val (v := v) (by simp [execOp, hr]) (put_aft hk r hv)
    simp only [iop] at h
    split at h
    · rename_i n e hk
      split at h
      · exact pure h
      obtain ⟨b, off, hb, haft⟩ := sliceA_sound h r
      obtain ⟨inf, d, z, tk⟩ := TOK.get hT (t := t) (.inr (by rw [hk]; simp))
      have kd := tk.kind
      rw [hk] at kd
      obtain ⟨rfl, he⟩ := kd
      obtain ⟨inf', d', z', tk'⟩ := TOK.get hT (t := e) (.inl he)
      refine wp_val (v := .slice (some ⟨b, off, none⟩) n n) ?_ haft
      by_cases hn : n = 0
      · simp [execOp, Instr.sliceAt, run_underlying tk.und, hb, Instr.sureAddr, Instr.sliceBounds, run_sz tk'.msize, hn]
      · simp [execOp, Instr.sliceAt, run_underlying tk.und, hb, Instr.sureAddr, Instr.sliceBounds, run_sz tk'.msize, add_none]
    · exact pure h
  | extract x i =>
    simp only [iop, ival, fv_eq] at h
    split at h
    · rename_i xs hx
      rw [nthI_eq] at h
      split at h
      · rename_i v hv
        have hvx := evo_V r x
        rw [hx] at hvx
        obtain ⟨vs, hvs, hl, hV⟩ := hvx.tup_inv
        have hlt : i < vs.size := by rw [← hl]; exact (List.getElem?_eq_some_iff.1 hv).1
        have := hV i v hv
        exact wp_val (v := vs.getD i undef) (by simp [execOp, Instr.extract, hvs, hlt]) (put_aft h r this)
      · exact h.elim
    · exact h.elim
  | makeFunc fn first captured =>
    cases fn with
    | func f =>
      simp only [iop, ival, fvL_eq] at h
      refine wp_val (v := .func (.func f) (first.map a.eval) (captured.map a.eval)) (by simp [execOp, Instr.makeFunc]) (put_aft h r ?_)
      refine .fn f _ _ _ _ (by simp [evoL_eq]) (by simp [evoL_eq]) (fun j x hx => ?_) (fun j x hx => ?_)
      · rw [evoL_eq] at hx
        simp only [List.getElem?_map, Option.map_eq_some_iff] at hx
        obtain ⟨y, hy, rfl⟩ := hx
        have := evo_V r y
        simp only [Array.getElem?_toList] at hy
        simpa [Array.getD_eq_getD_getElem?, hy] using this
      · rw [evoL_eq] at hx
        simp only [List.getElem?_map, Option.map_eq_some_iff] at hx
        obtain ⟨y, hy, rfl⟩ := hx
        have := evo_V r y
        simp only [Array.getElem?_toList] at hy
        simpa [Array.getD_eq_getD_getElem?, hy] using this
    | _ => simp [iop, ival] at h
  | lookup t x ix ok =>
    simp only [iop, ival] at h
    split at h
    · obtain ⟨iv, v, hk, hv, hr⟩ := lookK_sound (w := w) hT r.mem.im h (evo_V r x) (evo_V r ix)
      exact wp_val (v := v) (by simp only [execOp]; rw [Sem.run_bind, hr]; rfl) (put_aft hk r hv)
    · exact h.elim
  | call c => exact absurd rfl (hnc c)
  | _ => simp [iop, ival] at h
end
end Go.Proofs.YtfoenhiohhmnlaaGreatDoor.Ix

namespace Go.Proofs.YtfoenhiohhmnlaaGreatDoor.Ix
set_option linter.unusedVariables false
section
variable {Γ : Env} {S : St} {a : Act} {w : World} {I : Imm} {X : Nat → Prop} {β : Beta} {σ : Nat → Sig} {K : St → Prop}
def rowL (e n : Nat) (g : Nat → Nat → Value) : List Value := (List.range (n * e)).map fun j => g (j / e) (j % e)
theorem rowL_get {e n : Nat} {g : Nat → Nat → Value} (j : Nat) : (rowL e n g)[j]? = if j < n * e then some (g (j / e) (j % e)) else none := by
  unfold rowL
  by_cases h : j < n * e
  · simp [h]
  · simp [h]
theorem rowL_cell {e n b off : Nat} {g : Nat → Nat → Value} (r : Rel Γ S a w I X β σ) (hI : ∀ i j, i < n → j < e → I ⟨b, off + i * e + j, none⟩ = some (g i j)) (j : Nat) (u : Value)
    (hu : (rowL e n g)[j]? = some u) : w.cell? ((⟨b, off, none⟩ : Addr).add j) = some u := by
  rw [rowL_get] at hu
  split at hu
  · rename_i hj
    simp at hu; subst hu
    have he : 0 < e := by
      rcases Nat.eq_zero_or_pos e with h | h
      · subst h; simp at hj
      · exact h
    have h1 : j / e < n := Nat.div_lt_of_lt_mul (by rw [Nat.mul_comm]; exact hj)
    have h2 : j % e < e := Nat.mod_lt _ he
    have := r.mem.im _ _ (hI (j / e) (j % e) h1 h2)
    rw [hcell_none] at this
    rw [add_none]
    have h3 : off + j / e * e + j % e = off + j := by rw [Nat.add_assoc, Nat.mul_comm, Nat.div_add_mod]
    rwa [h3] at this
  · cases hu
theorem appF_spec {n m e : Nat} {f g : Nat → List IV} (hf : ∀ i, i < n → (f i).length = e) (hg : ∀ i, i < m → (g i).length = e) (i : Nat) (hi : i < n + m) : (appF n f g i).length = e := by
  unfold appF
  split
  · exact hf i (by omega)
  · exact hg _ (by omega)
theorem appF_vals {n m e : Nat} {f g : Nat → List IV} {vf vg : Nat → Nat → Value} {vs : Array Value} (hf : ∀ i, i < n → (f i).length = e) (hg : ∀ i, i < m → (g i).length = e)
    (hvs : ∀ j, j < (n + m) * e → vs[j]? = (rowL e n vf ++ rowL e m vg)[j]?)
    (hD1 : ∀ i (j : Nat) x, i < n → (f i)[j]? = some x → D I x (vf i j)) (hD2 : ∀ i (j : Nat) x, i < m → (g i)[j]? = some x → D I x (vg i j)) :
    ∀ i (j : Nat) x, i < n + m → (appF n f g i)[j]? = some x → D I x (vs.getD (i * e + j) undef) := by
  intro i j x hi hx
  have hlen : (appF n f g i).length = e := appF_spec hf hg i hi
  have hj : j < e := by rw [← hlen]; exact (List.getElem?_eq_some_iff.1 hx).1
  have hb : i * e + j < (n + m) * e := by
    have := Nat.mul_le_mul_right e (show i + 1 ≤ n + m by omega)
    rw [Nat.add_mul] at this; omega
  have hl1 : (rowL e n vf).length = n * e := by simp [rowL]
  have hdm : ∀ q, (q * e + j) / e = q ∧ (q * e + j) % e = j := by
    intro q
    refine ⟨?_, ?_⟩
    · rw [Nat.mul_comm, Nat.mul_add_div (by omega), Nat.div_eq_of_lt hj]; rfl
    · rw [Nat.mul_comm, Nat.mul_add_mod, Nat.mod_eq_of_lt hj]
  rw [Array.getD_eq_getD_getElem?, hvs _ hb]
  unfold appF at hx
  split at hx
  · rename_i h
    have hb1 : i * e + j < n * e := by
      have := Nat.mul_le_mul_right e (show i + 1 ≤ n by omega)
      rw [Nat.add_mul] at this; omega
    rw [List.getElem?_append_left (by omega), rowL_get, if_pos hb1, (hdm i).1, (hdm i).2]
    exact hD1 i j x h hx
  · rename_i h
    have hge : n * e ≤ i * e := Nat.mul_le_mul_right _ (by omega)
    have hsub : i * e + j - n * e = (i - n) * e + j := by rw [Nat.sub_mul]; omega
    have hb2 : (i - n) * e + j < m * e := by
      have := Nat.mul_le_mul_right e (show (i - n) + 1 ≤ m by omega)
      rw [Nat.add_mul] at this; omega
    rw [List.getElem?_append_right (by omega), hl1, hsub, rowL_get, if_pos hb2, (hdm _).1, (hdm _).2]
    exact hD2 _ j x (by omega) hx
theorem maxLen_small {n : Nat} (h : n ≤ 1073741824) : n ≤ maxLen := by unfold maxLen; omega
theorem zeroCells_size (z : Array Value) (n : Nat) : (Builtin.zeroCells z n).size = n * z.size := by simp [Builtin.zeroCells]
theorem rowL_one {e n : Nat} {g : Nat → Nat → Value} (h : ∀ i j, i < n → j < e → (g i j).oneCell' = true) : ∀ u ∈ rowL e n g, u.oneCell' = true := by
  intro u hu
  simp only [rowL, List.mem_map, List.mem_range] at hu
  obtain ⟨j, hj, rfl⟩ := hu
  have he : 0 < e := by
    rcases Nat.eq_zero_or_pos e with h | h
    · subst h; simp at hj
    · exact h
  exact h _ _ (Nat.div_lt_of_lt_mul (by rw [Nat.mul_comm]; exact hj)) (Nat.mod_lt _ he)
theorem run_append_room' {P : Program} (t ty e el : TypeId) (i : TypeInfo) (ht : P.underlying t = some (.slice e)) (hi : P.info? e = some i)
    (g sLen sCap : Nat) (cur : Array Value) (hg : w.heap[g]? = some (.cells cur el (0, 0)))
    (a : Addr) (m c : Nat) (news : List Value) (hl : news.length = m * i.size) (hnews : ∀ (j : Nat) u, news[j]? = some u → w.cell? (a.add j) = some u) (h1 : ∀ u ∈ news, u.oneCell' = true)
    (hroom : sLen + m ≤ sCap) (hfit : sLen * i.size + news.length ≤ cur.size) :
    (Builtin.append_ #[t, t] ty #[.slice (some ⟨g, 0, none⟩) sLen sCap, .slice (some a) m c]).run P w =
      .ok (.slice (some ⟨g, 0, none⟩) (sLen + m) sCap) (w.setRow g (cur.toList.take (sLen * i.size) ++ news ++ cur.toList.drop (sLen * i.size + news.length)).toArray) := by
  have hf := run_firstCells_some (P := P) w i.size m a m c news hl hnews
  have hst := run_storeCells_at P g (sLen * i.size) el news 0 cur w hg (by simpa using hfit) h1
  simp only [Nat.add_zero] at hst
  simp [Builtin.append_, run_underlying ht, sizeOf, typeInfo, hi, Builtin.lenOf, hroom, hf, add_none, hst]
theorem appendI_sound {t ty e d : Nat} {s x : IV} {vs vx : Value} (hT : TOK Γ.P Γ.T) (hk : (Γ.T t).k = .slice e) (h : appendI Γ S d (Γ.T e).size s x K) (r : Rel Γ S a w I X β σ)
    (hs : V I β (σ 0) s vs) (hx : V I β (σ 0) x vx) :
    ∃ v w', (Builtin.append_ #[t, t] ty #[vs, vx]).run Γ.P w = .ok v w' ∧ Aft Γ K I X w β σ (a.put (some d) v) w' := by
  obtain ⟨inf, dd, z, tk⟩ := TOK.get hT (t := t) (.inr (by rw [hk]; simp))
  have kd := tk.kind
  rw [hk] at kd
  obtain ⟨rfl, he⟩ := kd
  obtain ⟨inf', d', z', tk'⟩ := TOK.get hT (t := e) (.inl he)
  have hz' := tk'.zsize
  have empty : ∀ (base p : Option Addr) (n c : Nat), n ≤ c → (Builtin.append_ #[t, t] ty #[.slice base n c, .slice p 0 0]).run Γ.P w = .ok (.slice base n c) w := by
    intro base p n c hnc
    cases base <;> cases p <;> simp [loadCells, loadCellsFrom, Builtin.append_, run_underlying tk.und, run_sz tk'.msize, Builtin.lenOf, Builtin.firstCells, hnc, storeCells]
  unfold appendI at h
  split at h
  · obtain ⟨px, rfl⟩ := hx.nilS_inv
    split at h
    · rename_i o e' n f
      rcases hs.lst_inv with ⟨ps, rfl, rfl⟩ | ⟨b, off, c, g, rfl, hnc, hown, hl, hI, ho, hD⟩
      · exact ⟨_, _, empty ps px 0 0 (Nat.le_refl _), put_aft h r (.data (.lstN _ _))⟩
      · exact ⟨_, _, empty _ px n c hnc, put_aft h r (.data (.lst e' n f b off c g hnc hl hI ho hD))⟩
    · obtain ⟨ps, rfl⟩ := hs.nilS_inv
      exact ⟨_, _, empty ps px 0 0 (Nat.le_refl _), put_aft h r (.data .nilS)⟩
    · exact h.elim
  · rename_i o2 e2 m g
    split at h
    · exact h.elim
    rename_i he2
    have he2 := (beq_iff _ _).1 he2
    subst he2
    have hpos := tk'.pos
    have hbytes : ∀ k, k ≤ 1073741824 → k * inf'.bytes ≤ 140737488355328 := by
      intro k hk
      have := Nat.mul_le_mul hk tk'.bytes
      omega
    have fromNil : ∀ {S0 : St} {σ0 : Nat → Sig} (ps : Option Addr), Rel Γ S0 a w I X β σ0 → σ0 0 d = none → m ≤ 1073741824 → putT Γ S0 (some d) (.lst (some d) (Γ.T e).size m g) K →
        ∃ v w', (Builtin.append_ #[t, t] ty #[.slice ps 0 0, vx]).run Γ.P w = .ok v w' ∧ Aft Γ K I X w β σ0 (a.put (some d) v) w' := by
      intro S0 σ0 ps r0 hd0 hm hput
      rcases hx.lst_inv with ⟨px, rfl, rfl⟩ | ⟨b, off, c, vg, rfl, hnc, hown, hl, hI, ho, hD⟩
      · exact ⟨_, _, empty ps px 0 0 (Nat.le_refl _), put_aft hput r0 (.ownN _ _ _)⟩
      · by_cases hm0 : m = 0
        · subst hm0
          refine ⟨.slice ps 0 0, w, ?_, put_aft hput r0 (.ownN _ _ _)⟩
          cases ps <;> simp [storeCells, Builtin.append_, run_underlying tk.und, run_sz tk'.msize, Builtin.lenOf, Builtin.firstCells, loadCells, loadCellsFrom]
        · have hr : (Builtin.append_ #[t, t] ty #[.slice ps 0 0, .slice (some ⟨b, off, none⟩) m c]).run Γ.P w = .ok (.slice (some ⟨w.heap.size, 0, none⟩) m (grownCap w m 0 e))
              (w.drew.alloc (.cells ((rowL (Γ.T e).size m vg).toArray ++ Builtin.zeroCells z'.cells (grownCap w m 0 e - m)) e)) := by
            cases ps with
            | none => exact (run_append_nil (P := Γ.P) w t ty e inf' z' tk.und tk'.info tk'.zero ⟨b, off, none⟩ m c (rowL (Γ.T e).size m vg) (by simp [rowL, tk'.size]) (fun j v hj => rowL_cell r hI j v hj) (by omega) (by omega) (by have := hbytes m hm; omega))
            | some q =>
              have := run_append_grow (P := Γ.P) w t ty e inf' z' tk.und tk'.info tk'.zero q 0 0 [] (by simp) (fun j v h => by simp at h) ⟨b, off, none⟩ m c (rowL (Γ.T e).size m vg) (by simp [rowL, tk'.size])
                (fun j v hj => rowL_cell r hI j v hj) (by omega) (by omega) (growslice_fits (by omega) (by have := hbytes m hm; simpa using this))
              simpa using this
          obtain ⟨f1, f2, f3, f4⟩ := fresh_block r0
          have hcap := grownCap_ge w m 0 e
          have hlen : (rowL (Γ.T e).size m vg).length = m * (Γ.T e).size := by simp [rowL]
          refine ⟨_, _, hr, row_sound (el := e) r0 hd0 hput hcap (grownCap_le_maxLen w m 0 e (maxLen_small hm)) ?_ (fun j u hu => ?_) hl (fun i j x hi hxj => ?_) _ (heap_alloc_new w.drew _)
            (fun k o hk ho => by rw [heap_alloc_old w.drew _ k (heap_lt ho)]; exact ho) (by simp) f1 f2 f3 (fun x v hx hb => absurd hb (f4 x v hx)) rfl rfl rfl (fresh_fix w)⟩
          · simp only [Array.size_append, List.size_toArray, hlen, zeroCells_size, hz']
            rw [← Nat.add_mul]; congr 1; omega
          · rcases Array.mem_append.1 (Array.mem_of_getElem? hu) with q | q
            · exact rowL_one ho u (by simpa using q)
            · obtain ⟨k, hk⟩ := Array.mem_iff_getElem?.1 q
              exact rep_one (by rw [hz']; exact hpos) tk'.zone _ k u hk
          · have hj : j < (Γ.T e).size := by rw [← hl i hi]; exact (List.getElem?_eq_some_iff.1 hxj).1
            have hb : i * (Γ.T e).size + j < m * (Γ.T e).size := by
              have := Nat.mul_le_mul_right (Γ.T e).size (show i + 1 ≤ m by omega)
              rw [Nat.add_mul] at this; omega
            rw [Array.getD_eq_getD_getElem?, Array.getElem?_append_left (by simp [hlen]; omega), List.getElem?_toArray, rowL_get, if_pos hb]
            have h1 : (i * (Γ.T e).size + j) / (Γ.T e).size = i := by rw [Nat.mul_comm, Nat.mul_add_div (by omega), Nat.div_eq_of_lt hj]; rfl
            have h2 : (i * (Γ.T e).size + j) % (Γ.T e).size = j := by rw [Nat.mul_comm, Nat.mul_add_mod, Nat.mod_eq_of_lt hj]
            rw [h1, h2]; exact hD i j x hi hxj
    split at h
    · obtain ⟨ps, rfl⟩ := hs.nilS_inv
      obtain ⟨h1, h⟩ := chk_spec h
      simp at h1
      obtain ⟨S1, hk1, r1, _, _⟩ := untag_sound h r
      obtain ⟨v, w', hr, haft⟩ := fromNil ps r1 (by simp [setSig]) h1 hk1
      exact ⟨v, w', hr, haft.sig (fun _ => rfl)⟩
    · rename_i tt e1 n f
      split at h
      · exact h.elim
      rename_i he1
      have he1 := (beq_iff _ _).1 he1
      subst he1
      obtain ⟨h1, h⟩ := chk_spec h
      simp at h1
      obtain ⟨S1, hk1, r1, _, _⟩ := untag_sound h r
      obtain ⟨S2, hk2, r2, _, _⟩ := untag_sound hk1 r1
      have hs2 : ∀ u g0, (setSig (setSig σ fun u => if u = tt then none else σ 0 u) fun u => if u = d then none else (setSig σ fun u => if u = tt then none else σ 0 u) 0 u) 0 u = some g0 → σ 0 u = some g0 ∧ u ≠ tt := by
        intro u g0 hu
        simp only [setSig] at hu
        split at hu
        · cases hu
        · split at hu
          · cases hu
          · rename_i h; exact ⟨hu, h⟩
      rcases hs.lst_inv with ⟨ps, rfl, rfl⟩ | ⟨b, off, c, vf, rfl, hnc, hown, hl, hI, ho, hD⟩
      · obtain ⟨v, w', hr, haft⟩ := fromNil ps r2 (by simp [setSig]) (by omega) (by
          have : appF 0 f g = g := by funext i; simp [appF]
          simpa [this] using hk2)
        exact ⟨v, w', hr, (haft.sig (fun _ => rfl)).sig (fun _ => rfl)⟩
      · obtain ⟨rfl, el, htt⟩ := hown tt rfl
        obtain ⟨cur, c1, c2, c3, c4, c5, c6, c7⟩ := r.own.row tt _ htt
        simp only at c1 c2 c3 c4 c5 c6 c7
        have hσb : ∀ u g0, (setSig (setSig σ fun u => if u = tt then none else σ 0 u) fun u => if u = d then none else (setSig σ fun u => if u = tt then none else σ 0 u) 0 u) 0 u = some g0 → g0.b ≠ b := by
          intro u g0 hu hb
          obtain ⟨k1, k2⟩ := hs2 u g0 hu
          exact k2 (r.own.inj u tt g0 _ k1 htt hb)
        have hd2 : (setSig (setSig σ fun u => if u = tt then none else σ 0 u) fun u => if u = d then none else (setSig σ fun u => if u = tt then none else σ 0 u) 0 u) 0 d = none := by simp [setSig]
        have hcur : ∀ j, j < n * (Γ.T e).size → cur[j]? = (rowL (Γ.T e).size n vf)[j]? := by
          intro j hj
          have h0 : (rowL (Γ.T e).size n vf)[j]? = some (vf (j / (Γ.T e).size) (j % (Γ.T e).size)) := by rw [rowL_get, if_pos hj]
          have := rowL_cell r hI j _ h0
          rw [add_none, cell_of_row w b _ cur el _ c1] at this
          rw [h0]; simpa using this
        have hIb : ∀ x v, I x = some v → x.block = b → x.off < n * (Γ.T e).size ∧ cur[x.off]? = some v := by
          intro x v hx hb
          have h0 := r.mem.im x v hx
          obtain ⟨xb, xo, xs⟩ := x
          simp only at hb; subst hb
          have hsp : xs = none := (hcell_cells h0 c1).1
          subst hsp
          rw [hcell_none, cell_of_row w xb _ cur el _ c1] at h0
          refine ⟨?_, h0⟩
          rcases Nat.lt_or_ge xo (n * (Γ.T e).size) with hlt | hge
          · exact hlt
          · rw [c5 xo hge] at hx; cases hx
        have hsz1 : n * (Γ.T e).size ≤ cur.size := by rw [c4]; exact Nat.mul_le_mul_right _ hnc
        have hone1 : ∀ (j : Nat) u, j < n * (Γ.T e).size → cur[j]? = some u → u.oneCell' = true := by
          intro j u hj hu
          rw [hcur j hj] at hu
          exact rowL_one ho u (List.mem_of_getElem? hu)
        have fin : ∀ {v : Value} {w' : World}, Aft Γ K I X w β (setSig (setSig σ fun u => if u = tt then none else σ 0 u) fun u => if u = d then none else (setSig σ fun u => if u = tt then none else σ 0 u) 0 u) (a.put (some d) v) w' → Aft Γ K I X w β σ (a.put (some d) v) w' :=
          fun h => (h.sig (fun _ => rfl)).sig (fun _ => rfl)
        rcases hx.lst_inv with ⟨px, rfl, rfl⟩ | ⟨b2, off2, c2', vg, rfl, hnc2, hown2, hl2, hI2, ho2, hD2⟩
        · refine ⟨_, _, empty _ px n c hnc, fin (row_sound (el := el) r2 hd2 hk2 (by simpa using hnc) c3 c4 c2.2 (fun i hi => appF_spec hl (fun i hi => by omega) i hi)
            (appF_vals (vf := vf) (vg := vf) hl (fun i hi => by omega) (fun j hj => ?_) hD (fun i j x hi => by omega)) w c1 (fun k o _ ho => ho) (Nat.le_refl _) c6 c7 hσb (fun x v hx hb => by simpa using hIb x v hx hb) rfl rfl rfl (cells_fix c1 c4))⟩
          rw [hcur j (by simpa using hj)]; simp [rowL]
        · have hlen2 : (rowL (Γ.T e).size m vg).length = m * (Γ.T e).size := by simp [rowL]
          have hlen1 : (rowL (Γ.T e).size n vf).length = n * (Γ.T e).size := by simp [rowL]
          by_cases hroom : n + m ≤ c
          · have hfit : n * (Γ.T e).size + (rowL (Γ.T e).size m vg).length ≤ cur.size := by
              rw [hlen2, c4, ← Nat.add_mul]; exact Nat.mul_le_mul_right _ hroom
            have hr := run_append_room' (P := Γ.P) (w := w) t ty e el inf' tk.und tk'.info b n c cur c1 ⟨b2, off2, none⟩ m c2' (rowL (Γ.T e).size m vg) (by simp [rowL, tk'.size])
              (fun j v hj => rowL_cell r hI2 j v hj) (rowL_one ho2) hroom (by rw [tk'.size]; exact hfit)
            have htk : (cur.toList.take (n * (Γ.T e).size)).length = n * (Γ.T e).size := by simp; omega
            have hget : ∀ j, j < (n + m) * (Γ.T e).size → (cur.toList.take (n * inf'.size) ++ rowL (Γ.T e).size m vg ++ cur.toList.drop (n * inf'.size + (rowL (Γ.T e).size m vg).length)).toArray[j]? = (rowL (Γ.T e).size n vf ++ rowL (Γ.T e).size m vg)[j]? := by
              intro j hj
              rw [tk'.size, List.getElem?_toArray, List.append_assoc]
              by_cases hj1 : j < n * (Γ.T e).size
              · rw [List.getElem?_append_left (by omega), List.getElem?_take, if_pos hj1, List.getElem?_append_left (by omega), ← hcur j hj1]; simp
              · rw [List.getElem?_append_right (by omega), htk, List.getElem?_append_left (by rw [hlen2]; rw [Nat.add_mul] at hj; omega), List.getElem?_append_right (by omega), hlen1]
            refine ⟨_, _, hr, fin (row_sound (el := el) r2 hd2 hk2 hroom c3 ?_ (fun j u hu => ?_) (fun i hi => appF_spec hl hl2 i hi)
              (appF_vals hl hl2 hget hD hD2) _ (setRow_heap w b cur _ el _ c1) (fun k o hk ho => by rw [setRow_other w b k _ hk]; exact ho) (by simp) c6 c7 hσb (fun x v hx hb => ?_) rfl rfl rfl (cells_fix c1 c4))⟩
            · simp only [List.size_toArray, List.length_append, List.length_take, List.length_drop, Array.length_toList, tk'.size]; omega
            · have := List.mem_of_getElem? (by simpa using hu)
              rcases List.mem_append.1 this with h | h
              · obtain ⟨k, hk⟩ := List.mem_iff_getElem?.1 (List.mem_of_mem_take h)
                exact c2.2 k u (by simpa using hk)
              · rcases List.mem_append.1 h with h | h
                · exact rowL_one ho2 u h
                · obtain ⟨k, hk⟩ := List.mem_iff_getElem?.1 (List.mem_of_mem_drop h)
                  exact c2.2 k u (by simpa using hk)
            · obtain ⟨k1, k2⟩ := hIb x v hx hb
              have hlt : x.off < (n + m) * (Γ.T e).size := by rw [Nat.add_mul]; omega
              refine ⟨hlt, ?_⟩
              rw [hget _ hlt, List.getElem?_append_left (by omega), ← hcur _ k1]; exact k2
          · have holds : ∀ (j : Nat) u, (rowL (Γ.T e).size n vf)[j]? = some u → w.cell? ((⟨b, 0, none⟩ : Addr).add j) = some u := fun j u hj => rowL_cell r hI j u hj
            have hr := run_append_grow (P := Γ.P) w t ty e inf' z' tk.und tk'.info tk'.zero ⟨b, 0, none⟩ n c (rowL (Γ.T e).size n vf) (by simp [rowL, tk'.size]) holds ⟨b2, off2, none⟩ m c2'
              (rowL (Γ.T e).size m vg) (by simp [rowL, tk'.size]) (fun j v hj => rowL_cell r hI2 j v hj) (by omega) (by omega) (growslice_fits (by omega) (hbytes _ h1))
            obtain ⟨f1, f2, f3, f4⟩ := fresh_block r2
            have hcap := grownCap_ge w (n + m) c e
            have hget : ∀ j, j < (n + m) * (Γ.T e).size → ((rowL (Γ.T e).size n vf).toArray ++ (rowL (Γ.T e).size m vg).toArray ++ Builtin.zeroCells z'.cells (grownCap w (n + m) c e - (n + m)))[j]? = (rowL (Γ.T e).size n vf ++ rowL (Γ.T e).size m vg)[j]? := by
              intro j hj
              rw [Array.getElem?_append_left (by simp [hlen1, hlen2]; rw [Nat.add_mul] at hj; omega)]
              simp
            refine ⟨_, _, hr, fin (row_sound (el := e) r2 hd2 hk2 hcap (grownCap_le_maxLen w (n + m) c e (maxLen_small h1)) ?_ (fun j u hu => ?_) (fun i hi => appF_spec hl hl2 i hi)
              (appF_vals hl hl2 hget hD hD2) _ (heap_alloc_new w.drew _) (fun k o hk ho => by rw [heap_alloc_old w.drew _ k (heap_lt ho)]; exact ho) (by simp) f1 f2 f3 (fun x v hx hb => absurd hb (f4 x v hx)) rfl rfl rfl (fresh_fix w))⟩
            · simp only [Array.size_append, List.size_toArray, hlen1, hlen2, zeroCells_size, hz']
              rw [← Nat.add_mul, ← Nat.add_mul]; congr 1; omega
            · rcases Array.mem_append.1 (Array.mem_of_getElem? hu) with q | q
              · rcases Array.mem_append.1 q with q | q
                · exact rowL_one ho u (by simpa using q)
                · exact rowL_one ho2 u (by simpa using q)
              · obtain ⟨k, hk⟩ := Array.mem_iff_getElem?.1 q
                exact rep_one (by rw [hz']; exact hpos) tk'.zone _ k u hk
    · exact h.elim
  · exact h.elim
end
end Go.Proofs.YtfoenhiohhmnlaaGreatDoor.Ix

namespace Go.Proofs.YtfoenhiohhmnlaaGreatDoor.Ix
set_option linter.unusedVariables false
section
variable {Γ : Env} {S : St} {a : Act} {w : World} {I : Imm} {X : Nat → Prop} {β : Beta} {σ : Nat → Sig} {K : St → Prop}
theorem copyI_sound {ty sT rty el t e n : Nat} {o : Option Nat} {x : IV} {vs vx : Value} (hT : TOK Γ.P Γ.T) (hk : (Γ.T ty).k = .slice el) (he : (Γ.T el).size = e) (h : copyI Γ S o t e n x K) (r : Rel Γ S a w I X β σ)
    (hs : V I β (σ 0) (.raw t e n) vs) (hx : V I β (σ 0) x vx) :
    ∃ w', (Builtin.copy_ #[ty, sT] rty #[vs, vx]).run Γ.P w = .ok (.int .i64 n) w' ∧ Aft Γ K I X w β σ (a.put o (.int .i64 n)) w' := by
  subst he
  obtain ⟨b, el0, ht, rfl⟩ : ∃ b el0, σ 0 t = some ⟨b, el0, (Γ.T el).size, 0, n⟩ ∧ vs = .slice (some ⟨b, 0, none⟩) n n := by
    cases hs with
    | data h => cases h
    | raw t e n b el ht => exact ⟨b, el, ht, rfl⟩
  obtain ⟨inf, dd, z, tk⟩ := TOK.get hT (t := ty) (.inr (by rw [hk]; simp))
  have kd := tk.kind
  rw [hk] at kd
  obtain ⟨rfl, hel⟩ := kd
  obtain ⟨inf', d', z', tk'⟩ := TOK.get hT (t := el) (.inl hel)
  obtain ⟨cur, c1, c2, c3, c4, c5, c6, c7⟩ := r.own.row t _ ht
  simp only at c1 c2 c3 c4 c5 c6 c7
  obtain ⟨tm, ce, up⟩ := S
  unfold copyI at h
  split at h
  case h_2 => exact h.elim
  rename_i tm' ce' up' o2 e2 m g heq
  cases heq
  split at h
  case h_2 => exact h.elim
  rename_i he2
  rw [Bool.and_eq_true] at he2
  have hkey : lookC ce t = none := hasKey_spec _ _ (by simpa using he2.2)
  have he2 := (beq_iff _ _).1 he2.1
  subst he2
  obtain ⟨h1, h⟩ := chk_spec h
  simp at h1
  subst h1
  have fin : ∀ {vs : Array Value} {w' : World}, vs.size = m * (Γ.T el).size → (∀ (j : Nat) u, vs[j]? = some u → u.oneCell' = true) → (∀ i, i < m → (g i).length = (Γ.T el).size) →
      (∀ i (j : Nat) x, i < m → (g i)[j]? = some x → D I x (vs.getD (i * (Γ.T el).size + j) undef)) → w'.heap[b]? = some (.cells vs el0 (0, 0)) → (∀ (k : Nat) (o : Obj), k ≠ b → w.heap[k]? = some o → w'.heap[k]? = some o) →
      w.heap.size ≤ w'.heap.size → w'.os = w.os → w'.tape = w.tape → w'.output = w.output → Aft Γ K I X w β σ (a.put o (.int .i64 m)) w' := fun {vs w'} q1 q2 q3 q4 q5 q6 q7 q8 q9 q10 => by
    split at h
    · rw [fps_eq, fcs_eq] at h
      obtain ⟨I', σ', r', he', ha'⟩ := settle_list (S := ⟨tm, ce, up⟩) r ht q1 q2 q3 q4 w' q5 q6 q7 q8 q9 q10
      obtain ⟨S', hk', r''⟩ := putT_sound h r' (.data (.int .i64 m))
      exact ⟨S', I', β, σ', hk', r'', he', ha'⟩
    · specialize h b
      rw [fps_eq, fcs_eq] at h
      obtain ⟨β', σ', r', he', ha'⟩ := settle_sound (S := ⟨tm, ce, up⟩) r ht hkey q1 q2 q3 q4 w' q5 q6 q7 q8 q9 q10
      obtain ⟨S', hk', r''⟩ := putT_sound h r' (.data (.int .i64 m))
      exact ⟨S', I, β', σ', hk', r'', he', ha'⟩
  rcases hx.lst_inv with ⟨px, rfl, rfl⟩ | ⟨b2, off2, cc2, vg, rfl, hnc2, hown2, hl2, hI2, ho2, hD2⟩
  · refine ⟨w, ?_, fin c4 (fun j u hu => ?_) (fun i hi => by omega) (fun i j x hi => by omega) c1 (fun k o _ ho => ho) (Nat.le_refl _) rfl rfl rfl⟩
    · cases px <;> simp [Builtin.copy_, run_underlying tk.und, Builtin.lenOf, Builtin.firstCells, run_sz tk'.msize, loadCells, loadCellsFrom, storeCells, goInt]
    · have := (Array.getElem?_eq_some_iff.1 hu).1
      rw [c4] at this; omega
  · have hlen2 : (rowL (Γ.T el).size m vg).length = m * (Γ.T el).size := by simp [rowL]
    have hf := run_firstCells_some (P := Γ.P) w inf'.size m ⟨b2, off2, none⟩ m cc2 (rowL (Γ.T el).size m vg) (by simp [rowL, tk'.size]) (fun j v hj => rowL_cell r hI2 j v hj)
    have hst := run_storeCells_at Γ.P b 0 el0 (rowL (Γ.T el).size m vg) 0 cur w c1 (by rw [hlen2, c4]; omega) (rowL_one ho2)
    have hvs : (cur.toList.take 0 ++ rowL (Γ.T el).size m vg ++ cur.toList.drop (0 + (rowL (Γ.T el).size m vg).length)).toArray = (rowL (Γ.T el).size m vg).toArray := by
      rw [hlen2, List.drop_eq_nil_of_le (by simp [c4])]; simp
    refine ⟨w.setRow b (rowL (Γ.T el).size m vg).toArray, ?_, fin (vs := (rowL (Γ.T el).size m vg).toArray) (by simp [hlen2]) (fun j u hu => ?_) hl2 (fun i j x hi hx => ?_) (setRow_heap w b cur _ el0 _ c1) (fun k o hk ho => by rw [setRow_other w b k _ hk]; exact ho) (by simp) rfl rfl rfl⟩
    · rw [← hvs]
      simp only [Nat.add_zero] at hst
      simp [Builtin.copy_, run_underlying tk.und, Builtin.lenOf, sizeOf, typeInfo, tk'.info, hf, hst, goInt]
    · exact rowL_one ho2 u (List.mem_of_getElem? (by simpa using hu))
    · have hj : j < (Γ.T el).size := by rw [← hl2 i hi]; exact (List.getElem?_eq_some_iff.1 hx).1
      have hb : i * (Γ.T el).size + j < m * (Γ.T el).size := by
        have := Nat.mul_le_mul_right (Γ.T el).size (show i + 1 ≤ m by omega)
        rw [Nat.add_mul] at this; omega
      rw [Array.getD_eq_getD_getElem?, List.getElem?_toArray, rowL_get, if_pos hb]
      have h1 : (i * (Γ.T el).size + j) / (Γ.T el).size = i := by rw [Nat.mul_comm, Nat.mul_add_div (by omega), Nat.div_eq_of_lt hj]; rfl
      have h2 : (i * (Γ.T el).size + j) % (Γ.T el).size = j := by rw [Nat.mul_comm, Nat.mul_add_mod, Nat.mod_eq_of_lt hj]
      rw [h1, h2]; exact hD2 i j x hi hx
end
end Go.Proofs.YtfoenhiohhmnlaaGreatDoor.Ix

namespace Go.Proofs.YtfoenhiohhmnlaaGreatDoor.Ix
set_option linter.unusedVariables false
section
variable {Γ : Env} {S : St} {a : Act} {w : World} {I : Imm} {X : Nat → Prop} {β : Beta} {σ : Nat → Sig} {K : St → Prop}
theorem beq_false' {a b : Nat} (h : a ≠ b) : Nat.beq a b = false := by
  cases q : Nat.beq a b with
  | false => rfl
  | true => exact absurd ((beq_iff _ _).1 q) h
theorem V.lit_eq {u v : Value} {s : Sig} (h : V I β s (.lit u) v) : v = u := by
  cases h with
  | data h => cases h with
    | lit _ h => rfl
theorem flatR_len (e n : Nat) (f : Nat → List IV) : (flatR e n f).length = n * e := by simp [flatR]
theorem allInt_mem : ∀ {c : List IV}, allInt c = true → ∀ (j : Nat) x, c[j]? = some x → ∃ k n, x = .int k n
  | [], _, j, x, h => by simp at h
  | y :: r, h, j, x, hx => by
    cases y with
    | int k n =>
      cases j with
      | zero => simp at hx; subst hx; exact ⟨k, n, rfl⟩
      | succ j => exact allInt_mem (c := r) h j x (by simpa using hx)
    | _ => cases h
theorem slc_val {x : IV} {v : Value} {s : Sig} (hx : slcI x = true) (h : V I β s x v) : (∃ p n c, v = .slice p n c) ∧ D I x v := by
  cases x with
  | nilS =>
    cases h with
    | data h => cases h with
      | nilS => exact ⟨⟨_, _, _, rfl⟩, .nilS⟩
  | lst o e n f =>
    cases o with
    | some t => cases hx
    | none =>
      cases h with
      | data h =>
        refine ⟨?_, h⟩
        cases h with
        | lstN => exact ⟨_, _, _, rfl⟩
        | lst => exact ⟨_, _, _, rfl⟩
  | _ => cases hx
theorem thaw_rel {dd e n z : Nat} {f : Nat → List IV} {xs : List IV} {vs0 : Array Value} {v : Value} {w' : World} {I' : Imm} {s : Sig} (r : Rel Γ S a w I X β σ)
    (hl0 : xs.length + 1 = vs0.size) (hx : ∀ j x, xs[j]? = some x → D I x (vs0.getD j undef))
    (hi : ∀ i, i < n → allInt (f i) = true) (hpos : 0 < n) (hkey : lookC S.ce dd = none)
    (hv : V I' (fun _ _ => none) s (.agg ((vs0.toList.take xs.length).map .lit ++ [.lst (some z) e n f])) v)
    (hown : OwnR w' I' (fun b => b < w.heap.size) (fun _ _ => none) s) (hmem : MemR Γ.gl [] w' I' (fun b => b < w.heap.size) (fun _ _ => none) fun _ => noSig)
    (hext : Ext I (fun b => b < w.heap.size) w I' w') :
    ∃ m cc bb I2 β2, Rel Γ ⟨S.tm, (dd, flatR e n f ++ List.replicate m .dead) :: S.ce, S.up⟩ a w' I2 X β2 σ ∧ Ext I X w I2 w' ∧ Above β β2 σ σ ∧ ∀ s2 : Sig, V I2 β2 s2 (.agg (xs ++ [.row dd e n cc bb])) v := by
  obtain ⟨vs1, rfl, hl1, hone1, hV1⟩ := hv.agg_inv
  have hlt : ((vs0.toList.take xs.length).map IV.lit).length = xs.length := by simp; omega
  have hsame : ∀ j, j < xs.length → vs1.getD j undef = vs0.getD j undef := fun j hj => by
    have hj0 : j < vs0.size := by omega
    have := hV1 j (.lit (vs0.getD j undef)) (by
      rw [List.getElem?_append_left (by omega), List.getElem?_map, List.getElem?_take, if_pos hj]
      simp [Array.getD_eq_getD_getElem?, hj0])
    exact this.lit_eq
  have hrow := hV1 xs.length (.lst (some z) e n f) (by rw [List.getElem?_append_right (by omega), hlt]; simp)
  rcases hrow.lst_inv with ⟨_, _, h0⟩ | ⟨b, off, c, g, hvr, hnc, ht, hl, hI, ho, hD⟩
  · omega
  obtain ⟨rfl, el, hz⟩ := ht z rfl
  obtain ⟨cur, c1, c2, c3, c4, c5, c6, c7⟩ := hown.row z _ hz
  simp only at c1 c2 c3 c4 c5 c6 c7
  have hb : w.heap.size ≤ b := by omega
  let I2 : Imm := fun x => if x.block = b then none else I' x
  have hold : ∀ x u, I x = some u → x.block < w.heap.size := fun x u hx => hcell_lt (r.mem.im x u hx)
  have hI2 : ∀ x u, I x = some u → I2 x = some u := fun x u hx => by
    have := hold x u hx
    show (if _ then _ else _) = _
    rw [if_neg (by omega)]
    exact hext.imm x u hx
  have hβlt : ∀ l d b', β l d = some b' → b' < w.heap.size := fun l d b' h => by
    obtain ⟨c', hc'⟩ := r.mem.keys l d b' h
    obtain ⟨b2, arr, el2, h1, h2, _⟩ := r.mem.cell l d c' hc'
    rw [h] at h1; cases h1
    exact heap_lt h2
  let β2 : Beta := fun l d => if l = 0 ∧ d = dd then some b else β l d
  have hβ0 : ∀ b', β 0 dd ≠ some b' := fun b' h => by
    obtain ⟨c', hc'⟩ := r.mem.keys 0 dd b' h
    have : lookC S.ce dd = some c' := hc'
    rw [hkey] at this; cases this
  have hβ : ∀ l d b', β l d = some b' → β2 l d = some b' := fun l d b' h => by
    show (if _ then _ else _) = _
    rw [if_neg]; exact h
    rintro ⟨rfl, rfl⟩; exact hβ0 _ h
  have hsz := hext.size
  have hn2 : n * e ≤ c * e := Nat.mul_le_mul_right _ hnc
  refine ⟨c * e - n * e, c, b, I2, β2, ⟨fun i => (r.tm i).mono hI2 hβ (fun _ _ h => h), r.df.to hext.fix (fun _ _ h => h), r.nt, ⟨fun l d cc hcc => ?_, fun l d l' d' b' h1 h2 => ?_, fun l d b' h1 => ?_, fun x u hx => ?_, fun g0 => (r.mem.glo g0).mono hI2, fun b' hb' => ?_, hmem.gz⟩,
    ⟨fun t g0 hg0 => ?_, r.own.inj⟩⟩, ⟨hext.os, hext.tape, hext.output, hext.size, fun b' hb' => hext.keep b' (r.mem.xb b' hb'), hI2, fun x hx => ?_, hext.fix⟩, ⟨fun l => ?_, fun _ => rfl⟩, fun s2 => ?_⟩
  · have old : ∀ (l d : Nat) (cc : List IV), lookC (upC (S.ce :: S.up) l) d = some cc → ∃ b arr el, β2 l d = some b ∧ w'.heap[b]? = some (.cells arr el (0, 0)) ∧ arr.size = cc.length ∧
      (∀ (j : Nat) (u : Value), arr[j]? = some u → u.oneCell' = true) ∧ (∀ j x, cc[j]? = some x → V I2 (fun l' => β2 (l + l')) (σ l) x (arr.getD j undef)) ∧ (∀ j, I2 ⟨b, j, none⟩ = none) ∧ ¬ X b := fun l d cc hcc => by
      obtain ⟨b', arr, el', h1, h2, h3, h4, h5, h6, h7⟩ := r.mem.cell l d cc hcc
      have hlt' := heap_lt h2
      refine ⟨b', arr, el', hβ _ _ _ h1, by rw [hext.keep b' hlt']; exact h2, h3, h4, fun j x hx => (h5 j x hx).mono hI2 (fun l' d' b'' h => hβ _ _ _ h) (fun _ _ h => h), fun j => ?_, h7⟩
      show (if _ then _ else _) = _
      rw [if_neg (by show ¬ b' = b; omega), hext.new ⟨b', j, none⟩ hlt']
      exact h6 j
    cases l with
    | succ l => exact old (l + 1) d cc hcc
    | zero =>
      by_cases hd : dd = d
      · subst hd
        have hcc : (match Nat.beq dd dd with | true => some (flatR e n f ++ List.replicate (c * e - n * e) IV.dead) | false => lookC S.ce dd) = some cc := hcc
        rw [show Nat.beq dd dd = true from (beq_iff _ _).2 rfl] at hcc
        simp only [Option.some.injEq] at hcc
        subst hcc
        refine ⟨b, cur, el, if_pos ⟨rfl, rfl⟩, c1, ?_, c2.2, fun j x hjx => ?_, fun j => if_pos rfl, fun hX => ?_⟩
        · rw [List.length_append, flatR_len, List.length_replicate, c4]; omega
        · by_cases hj : j < n * e
          · rw [List.getElem?_append_left (by rw [flatR_len]; exact hj)] at hjx
            have he : 0 < e := by rcases Nat.eq_zero_or_pos e with h | h; · subst h; simp at hj
                                  · exact h
            have hjn : j / e < n := (Nat.div_lt_iff_lt_mul he).2 hj
            have hje : j % e < e := Nat.mod_lt _ he
            have hx0 : x = ((f (j / e))[j % e]?).getD .dead := by
              simp only [flatR, List.getElem?_map, List.getElem?_range hj, Option.map_some, Option.some.injEq] at hjx
              exact hjx.symm
            have hlen := hl (j / e) hjn
            obtain ⟨y, hy⟩ : ∃ y, (f (j / e))[j % e]? = some y := ⟨_, List.getElem?_eq_getElem (by omega)⟩
            rw [hy] at hx0
            simp only [Option.getD_some] at hx0
            subst hx0
            obtain ⟨k, q, rfl⟩ := allInt_mem (hi _ hjn) _ _ hy
            have hd1 := hD _ _ _ hjn hy
            have hd2 := hI _ _ hjn hje
            have hd3 := hmem.im _ _ hd2
            rw [hcell_none, cell_of_row w' b _ cur el _ c1] at hd3
            have hjj : 0 + j / e * e + j % e = j := by rw [Nat.zero_add, Nat.mul_comm]; exact Nat.div_add_mod j e
            rw [hjj] at hd3
            rw [Array.getD_eq_getD_getElem?, hd3]
            have hd4 := (V.data (β := β) (σ := s) hd1).int_inv
            show V _ _ _ (.int k q) (g (j / e) (j % e))
            rw [hd4]
            exact .data (.int _ _)
          · rw [List.getElem?_append_right (by rw [flatR_len]; omega)] at hjx
            have := List.mem_of_getElem? hjx
            rw [List.mem_replicate] at this
            rw [this.2]
            exact .data (.dead _)
        · have := r.mem.xb b hX
          omega
      · refine old 0 d cc ?_
        have hcc : (match Nat.beq dd d with | true => some (flatR e n f ++ List.replicate (c * e - n * e) IV.dead) | false => lookC S.ce d) = some cc := hcc
        rw [beq_false' hd] at hcc
        exact hcc
  · have h1 : (if l = 0 ∧ d = dd then some b else β l d) = some b' := h1
    have h2 : (if l' = 0 ∧ d' = dd then some b else β l' d') = some b' := h2
    split at h1 <;> split at h2
    · rename_i q1 q2; exact ⟨q1.1.trans q2.1.symm, q1.2.trans q2.2.symm⟩
    · cases h1; have := hβlt _ _ _ h2; omega
    · cases h2; have := hβlt _ _ _ h1; omega
    · exact r.mem.inj _ _ _ _ _ h1 h2
  · have h1 : (if l = 0 ∧ d = dd then some b else β l d) = some b' := h1
    split at h1
    · rename_i q
      obtain ⟨rfl, rfl⟩ := q
      exact ⟨_, by show (match Nat.beq d d with | true => some (flatR e n f ++ List.replicate (c * e - n * e) IV.dead) | false => lookC S.ce d) = _; rw [show Nat.beq d d = true from (beq_iff _ _).2 rfl]⟩
    · obtain ⟨c', hc'⟩ := r.mem.keys l d b' h1
      cases l with
      | succ l => exact ⟨c', hc'⟩
      | zero =>
        by_cases hd : dd = d
        · subst hd; exact absurd h1 (hβ0 _)
        · refine ⟨c', ?_⟩
          show (match Nat.beq dd d with | true => some (flatR e n f ++ List.replicate (c * e - n * e) IV.dead) | false => lookC S.ce d) = _
          rw [beq_false' hd]; exact hc'
  · have hx : (if x.block = b then none else I' x) = some u := hx
    split at hx
    · cases hx
    · exact hmem.im x u hx
  · have := r.mem.xb b' hb'
    omega
  · obtain ⟨cur', k1, k2, k3, k4, k5, k6, k7⟩ := r.own.row t g0 hg0
    have hlt' := heap_lt k1
    refine ⟨cur', by rw [hext.keep _ hlt']; exact k1, k2, k3, k4, fun j hj => ?_, k6, fun l d h => ?_⟩
    · show (if _ then _ else _) = _
      rw [if_neg (by show ¬ g0.b = b; omega), hext.new ⟨g0.b, j, none⟩ hlt']
      exact k5 j hj
    · have h : (if l = 0 ∧ d = dd then some b else β l d) = some g0.b := h
      split at h
      · cases h; omega
      · exact k7 l d h
  · have hlt' := r.mem.xb _ hx
    show (if _ then _ else _) = _
    rw [if_neg (by omega)]
    exact hext.new x hlt'
  · funext d
    show (if _ then _ else _) = _
    rw [if_neg (by omega)]
  · refine .agg _ vs1 (by rw [← hl1, List.length_append, List.length_append, hlt]; rfl) hone1 fun j x hjx => ?_
    by_cases hj : j < xs.length
    · rw [List.getElem?_append_left hj] at hjx
      rw [hsame j hj]
      exact .data ((hx j x hjx).mono hI2)
    · rw [List.getElem?_append_right (by omega)] at hjx
      have : j = xs.length := by
        have := (List.getElem?_eq_some_iff.1 hjx).1
        simp at this; omega
      subst this
      simp at hjx
      subst hjx
      rw [hvr]
      exact .row dd e n b c (if_pos ⟨rfl, rfl⟩) hnc
end
end Go.Proofs.YtfoenhiohhmnlaaGreatDoor.Ix

namespace Go.Proofs.YtfoenhiohhmnlaaGreatDoor.Ix
set_option linter.unusedVariables false
section
variable {Γ : Env} {S : St} {a : Act} {w : World} {I : Imm} {X : Nat → Prop} {β : Beta} {σ : Nat → Sig} {K : St → Prop}
theorem frzVL_eq (d e n : Nat) (g : Nat → List IV) : ∀ l, frzVL d e n g l = l.map (frzV d e n g)
  | [] => rfl
  | x :: r => by simp only [frzVL, List.map_cons, frzVL_eq d e n g r]
theorem V.frz {I I2 : Imm} {β β' : Beta} {s : Sig} {d e n b : Nat} {g : Nat → List IV} (hI : ∀ a v, I a = some v → I2 a = some v) (hb : ∀ l c b', β l c = some b' → (l = 0 → c ≠ d) → β' l c = some b')
    (hβ : ∀ b', β 0 d = some b' → b' = b) (hl : ∀ c, n ≤ c → D I2 (.lst none e n g) (.slice (some ⟨b, 0, none⟩) n c)) {x : IV} {v : Value} (h : V I β s x v) : V I2 β' s (frzV d e n g x) v := by
  induction h with
  | data h =>
    rename_i x v
    have key : ∀ {x : IV} {v : Value}, D I x v → D I2 (frzV d e n g x) v := by
      intro x v h
      induction h with
      | int k n => exact .int k n
      | bool b => exact .bool b
      | str s => exact .str s
      | lit v h => exact .lit v h
      | nilS => exact .nilS
      | lstN e f => exact .lstN e f
      | lst e' n' f b off c g' hc hl hi h1 h _ => exact .lst e' n' f b off c g' hc hl (fun i j h h' => hI _ _ (hi i j h h')) h1 (fun i j x a b => (h i j x a b).mono hI)
      | vptr e' n' f i j b off g' hi0 hl hi h1 h _ => exact .vptr e' n' f i j b off g' hi0 hl (fun i j h h' => hI _ _ (hi i j h h')) h1 (fun i j x a b => (h i j x a b).mono hI)
      | agg xs vs hl h1 _ ih =>
        simp only [frzV, frzVL_eq]
        exact .agg _ vs (by simpa using hl) h1 fun j x hx => by obtain ⟨y, hy, rfl⟩ := map_get hx; exact ih j y hy
      | tup xs vs hl _ ih =>
        simp only [frzV, frzVL_eq]
        exact .tup _ vs (by simpa using hl) fun j x hx => by obtain ⟨y, hy, rfl⟩ := map_get hx; exact ih j y hy
      | fn f xs ys vs us hl hk _ _ ih ih' =>
        simp only [frzV, frzVL_eq]
        exact .fn f _ _ vs us (by simpa using hl) (by simpa using hk) (fun j x hx => by obtain ⟨y, hy, rfl⟩ := map_get hx; exact ih j y hy) (fun j x hx => by obtain ⟨y, hy, rfl⟩ := map_get hx; exact ih' j y hy)
      | ifc d x => exact .ifc d x
      | dead v => exact .dead v
    exact .data (key h)
  | ptr l c off b' h =>
    cases l with
    | succ l => exact .ptr (l + 1) c off b' (hb _ _ _ h (by omega))
    | zero =>
      simp only [frzV]
      split
      · exact .data (.dead _)
      · rename_i hq; exact .ptr 0 c off b' (hb _ _ _ h (fun _ => beq_false hq))
  | ownN t e' f => exact .ownN t e' f
  | own t e' n' f b' el c g' ht hc hl' hi h1 h => exact .own t e' n' f b' el c g' ht hc hl' (fun i j h h' => hI _ _ (hi i j h h')) h1 (fun i j x a b => (h i j x a b).mono hI)
  | raw t e' n' b' el ht => exact .raw t e' n' b' el ht
  | row c e' n' b' cc h hcc =>
    simp only [frzV]
    split
    · rename_i hq
      simp only [Bool.and_eq_true, beq_iff] at hq
      obtain ⟨⟨rfl, rfl⟩, rfl⟩ := hq
      rw [hβ b' h]
      exact .data (hl cc hcc)
    · split
      · exact .data (.dead _)
      · rename_i hq; exact .row c e' n' b' cc (hb _ _ _ h (fun _ => beq_false hq)) hcc
  | agg xs vs hl h1 _ ih =>
    simp only [frzV, frzVL_eq]
    exact .agg _ vs (by simpa using hl) h1 fun j x hx => by obtain ⟨y, hy, rfl⟩ := map_get hx; exact ih j y hy
  | tup xs vs hl _ ih =>
    simp only [frzV, frzVL_eq]
    exact .tup _ vs (by simpa using hl) fun j x hx => by obtain ⟨y, hy, rfl⟩ := map_get hx; exact ih j y hy
  | mp ks xs b' vs hm hl _ ih =>
    simp only [frzV, frzVL_eq]
    exact .mp ks _ b' vs (hm.mono hI) (by simpa using hl) fun j x hx => by obtain ⟨y, hy, rfl⟩ := map_get hx; exact ih j y hy
  | fn f xs ys vs us hl hk _ _ ih ih' =>
    simp only [frzV, frzVL_eq]
    exact .fn f _ _ vs us (by simpa using hl) (by simpa using hk) (fun j x hx => by obtain ⟨y, hy, rfl⟩ := map_get hx; exact ih j y hy) (fun j x hx => by obtain ⟨y, hy, rfl⟩ := map_get hx; exact ih' j y hy)
theorem frzT_look (d e n : Nat) (g : Nat → List IV) : ∀ (l : Tms) i, look (frzT d e n g l) i = frzV d e n g (look l i)
  | [], i => by simp [frzT, look, frzV]
  | (k, v) :: r, i => by
    simp only [frzT, look_cons, frzT_look d e n g r]
    split <;> rfl
theorem frzC_look (d e n : Nat) (g : Nat → List IV) : ∀ (l : Ces) c, lookC (frzC d e n g l) c = if c = d then none else (lookC l c).map (frzVL d e n g)
  | [], c => by simp [frzC, lookC]
  | (k, v) :: r, c => by
    have ih := frzC_look d e n g r c
    by_cases hk : k = d
    · subst hk
      have : Nat.beq k k = true := by simp
      simp only [frzC, this, lookC_cons, ih]
      by_cases hd : c = k
      · simp [hd]
      · simp [hd, Ne.symm hd]
    · simp only [frzC, beq_false' hk, lookC_cons, ih]
      by_cases hd : k = c
      · subst hd; simp [hk]
      · simp [hd]
open Classical in
theorem frz_rel {d e n : Nat} {g : Nat → List IV} {junk : List IV} (r : Rel Γ S a w I X β σ) (hxs : lookC S.ce d = some (flatR e n g ++ junk)) (hg : ∀ i, i < n → (g i).length = e ∧ allInt (g i) = true) :
    ∃ I2 β2, Rel Γ ⟨frzT d e n g S.tm, frzC d e n g S.ce, S.up⟩ a w I2 X β2 σ ∧ Ext I X w I2 w ∧ Above β β2 σ σ := by
  obtain ⟨b, arr, el, hβ, h2, h3, h4, h5, h6, h7⟩ := r.mem.cell 0 d _ hxs
  rw [List.length_append, flatR_len] at h3
  let P : Addr → Prop := fun x => x.block = b ∧ x.spot = none ∧ x.off < n * e
  let I2 : Imm := fun x => if P x then hcell w x else I x
  let β' : Beta := fun l c => if l = 0 ∧ c = d then none else β l c
  have hI : ∀ x v, I x = some v → I2 x = some v := by
    intro x v hx
    show (if P x then _ else _) = _
    split
    · exact r.mem.im x v hx
    · exact hx
  have hsub : ∀ l c b0, β' l c = some b0 → β l c = some b0 ∧ (l = 0 → c ≠ d) := by
    intro l c b0 hb0
    replace hb0 : (if l = 0 ∧ c = d then none else β l c) = some b0 := hb0
    split at hb0
    · cases hb0
    · rename_i hn; exact ⟨hb0, fun e1 e2 => hn ⟨e1, e2⟩⟩
  have hmk : ∀ l c b0, β l c = some b0 → (l = 0 → c ≠ d) → β' l c = some b0 := by
    intro l c b0 hb0 hk
    show (if _ then _ else _) = _
    rw [if_neg]; exact hb0
    rintro ⟨e1, e2⟩; exact hk e1 e2
  have hne : ∀ l c b0, β' l c = some b0 → b0 ≠ b := by
    intro l c b0 hb0 e
    subst e
    obtain ⟨g1, g2⟩ := hsub l c b0 hb0
    have := r.mem.inj _ _ _ _ _ g1 hβ
    exact g2 this.1 this.2
  have hIn : ∀ x, x.block ≠ b → I2 x = I x := fun x hx => if_neg fun hp => hx hp.1
  have him : ∀ x v, I2 x = some v → hcell w x = some v := by
    intro x v hx
    have hx : (if P x then hcell w x else I x) = some v := hx
    split at hx
    · exact hx
    · exact r.mem.im x v hx
  have hcell : ∀ j, j < n * e → I2 ⟨b, j, none⟩ = some (arr.getD j undef) := by
    intro j hj
    show (if P _ then _ else _) = _
    rw [if_pos ⟨rfl, rfl, hj⟩]
    have hlt : j < arr.size := by omega
    simp [hcell, h2, Array.getD_eq_getD_getElem?, hlt]
  have hin : ∀ i j, i < n → j < e → i * e + j < n * e := by
    intro i j hi hj
    have := Nat.mul_le_mul_right e (show i + 1 ≤ n by omega)
    rw [Nat.add_mul] at this; omega
  have hl : ∀ c, n ≤ c → D I2 (.lst none e n g) (.slice (some ⟨b, 0, none⟩) n c) := fun c hc => by
    refine .lst e n g b 0 c (fun i j => arr.getD (i * e + j) undef) hc (fun i hi => (hg i hi).1) (fun i j hi hj => ?_) (fun i j hi hj => ?_) (fun i j z hi hz => ?_)
    · have := hcell (i * e + j) (hin i j hi hj)
      rw [show 0 + i * e + j = i * e + j by omega]; exact this
    · have hlt : i * e + j < arr.size := by have := hin i j hi hj; omega
      exact h4 (i * e + j) _ (by simp [Array.getD_eq_getD_getElem?, hlt])
    · have hj : j < e := by rw [← (hg i hi).1]; exact (List.getElem?_eq_some_iff.1 hz).1
      have hlt := hin i j hi hj
      obtain ⟨k, q, rfl⟩ := allInt_mem (hg i hi).2 _ _ hz
      have he : 0 < e := by omega
      have e1 : (i * e + j) / e = i := by rw [Nat.mul_comm, Nat.mul_add_div he, Nat.div_eq_of_lt hj]; rfl
      have e2 : (i * e + j) % e = j := by rw [Nat.mul_comm, Nat.mul_add_mod, Nat.mod_eq_of_lt hj]
      have := (h5 (i * e + j) (.int k q) (by
        rw [List.getElem?_append_left (by rw [flatR_len]; exact hlt)]
        simp only [flatR, List.getElem?_map, List.getElem?_range hlt, Option.map_some, e1, e2, hz, Option.getD_some])).int_inv
      show D I2 (.int k q) (arr.getD (i * e + j) undef)
      rw [this]
      exact .int _ _
  have hb0 : ∀ b', β 0 d = some b' → b' = b := fun b' h => by rw [hβ] at h; cases h; rfl
  refine ⟨I2, β', ⟨fun i => ?_, r.df, r.nt, ⟨fun l c c' hc => ?_, fun l c l' c' b0 k1 k2 => r.mem.inj l c l' c' b0 (hsub _ _ _ k1).1 (hsub _ _ _ k2).1, fun l c b0 hb0 => ?_, him, fun g => (r.mem.glo g).mono hI, r.mem.xb, r.mem.gz⟩, ⟨fun t g0 hg0 => ?_, r.own.inj⟩⟩,
    ⟨rfl, rfl, rfl, Nat.le_refl _, fun _ _ => rfl, hI, fun x hx => hIn x (fun e => h7 (e ▸ hx)), fun _ _ h _ => h⟩, ⟨fun l => ?_, fun _ => rfl⟩⟩
  · show V I2 β' (σ 0) (look (frzT d e n g S.tm) i) _
    rw [frzT_look]; exact (r.tm i).frz hI hmk hb0 hl
  · cases l with
    | zero =>
      have hc : lookC (frzC d e n g S.ce) c = some c' := hc
      rw [frzC_look] at hc
      split at hc
      · cases hc
      · rename_i hdc
        simp only [Option.map_eq_some_iff] at hc
        obtain ⟨y, hy, rfl⟩ := hc
        obtain ⟨b0, arr0, el0, k1, k2, k3, k4, k5, k6, k7⟩ := r.mem.cell 0 c y hy
        have hbb : β' 0 c = some b0 := hmk 0 c b0 k1 fun _ => hdc
        refine ⟨b0, arr0, el0, hbb, k2, by simp [frzVL_eq, k3], k4, fun j z hz => ?_, fun j => by rw [hIn _ (hne _ _ _ hbb)]; exact k6 j, k7⟩
        rw [frzVL_eq] at hz
        obtain ⟨z0, hz0, rfl⟩ := map_get hz
        exact (k5 j z0 hz0).frz hI (fun l' d' b' hb' hk => hmk (0 + l') d' b' hb' fun e => hk (by omega)) (fun b' h => hb0 b' h) hl
    | succ l =>
      obtain ⟨b0, arr0, el0, k1, k2, k3, k4, k5, k6, k7⟩ := r.mem.cell (l + 1) c c' hc
      have hbb : β' (l + 1) c = some b0 := hmk _ c b0 k1 fun e => by omega
      exact ⟨b0, arr0, el0, hbb, k2, k3, k4, fun j z hz => (k5 j z hz).mono hI (fun l' d' b' hb' => hmk (l + 1 + l') d' b' hb' (fun e => by omega)) (fun _ _ h => h), fun j => by rw [hIn _ (hne _ _ _ hbb)]; exact k6 j, k7⟩
  · obtain ⟨g1, g2⟩ := hsub l c b0 hb0
    obtain ⟨y, hy⟩ := r.mem.keys l c b0 g1
    cases l with
    | zero =>
      have hy : lookC S.ce c = some y := hy
      refine ⟨frzVL d e n g y, ?_⟩
      show lookC (frzC d e n g S.ce) c = _
      rw [frzC_look, if_neg (g2 rfl), hy]; rfl
    | succ l => exact ⟨y, hy⟩
  · obtain ⟨cur, k1, k2, k3, k4, k5, k6, k7⟩ := r.own.row t g0 hg0
    refine ⟨cur, k1, k2, k3, k4, fun j hj => ?_, k6, fun l c hb => k7 l c (hsub _ _ _ hb).1⟩
    rw [hIn _ (fun e => k7 0 d (by rw [hβ]; exact congrArg some e.symm))]; exact k5 j hj
  · funext c
    show (if _ then _ else _) = _
    rw [if_neg (by omega)]
end
end Go.Proofs.YtfoenhiohhmnlaaGreatDoor.Ix

namespace Go.Proofs.YtfoenhiohhmnlaaGreatDoor.Ix
set_option linter.unusedVariables false
section
variable {Γ : Env} {S : St} {a : Act} {w : World} {I : Imm} {X : Nat → Prop} {β : Beta} {σ : Nat → Sig} {K : St → Prop}
theorem tagsL_get {xs : List IV} {j : Nat} {x : IV} (h : xs[j]? = some x) {t : Nat} (ht : t ∈ tagsV x) : t ∈ tagsL xs := by
  induction xs generalizing j with
  | nil => simp at h
  | cons y r ih =>
    simp only [tagsL, List.mem_append]
    cases j with
    | zero => simp at h; subst h; exact .inl ht
    | succ j => exact .inr (ih (by simpa using h))
theorem V.tags {s s' : Sig} {x : IV} {v : Value} (h : V I β s x v) : (∀ u g, u ∈ tagsV x → s u = some g → s' u = some g) → V I β s' x v := by
  induction h with
  | data h => exact fun _ => .data h
  | ptr l d off b h => exact fun _ => .ptr l d off b h
  | ownN u e f => exact fun _ => .ownN u e f
  | own u e n f b el c g ht hc hl hi h1 h => exact fun hs => .own u e n f b el c g (hs _ _ (by simp [tagsV]) ht) hc hl hi h1 h
  | raw u e n b el ht => exact fun hs => .raw u e n b el (hs _ _ (by simp [tagsV]) ht)
  | row d e n b c h hc => exact fun _ => .row d e n b c h hc
  | agg xs vs hl h1 _ ih => exact fun hs => .agg _ vs hl h1 fun j x hx => ih j x hx fun u g hu => hs u g (by simp only [tagsV]; exact tagsL_get hx hu)
  | tup xs vs hl _ ih => exact fun hs => .tup _ vs hl fun j x hx => ih j x hx fun u g hu => hs u g (by simp only [tagsV]; exact tagsL_get hx hu)
  | mp ks xs b vs hm hl _ ih => exact fun hs => .mp ks _ b vs hm hl fun j x hx => ih j x hx fun u g hu => hs u g (by simp only [tagsV]; exact tagsL_get hx hu)
  | fn f xs ys vs us hl hk _ _ ih ih' =>
    exact fun hs => .fn f _ _ vs us hl hk (fun j x hx => ih j x hx fun u g hu => hs u g (by simp only [tagsV, List.mem_append]; exact .inl (tagsL_get hx hu))) (fun j x hx => ih' j x hx fun u g hu => hs u g (by simp only [tagsV, List.mem_append]; exact .inr (tagsL_get hx hu)))
theorem V.anyβ {s : Sig} {β' : Beta} {x : IV} {v : Value} (h : V I β s x v) : noPtr x = true → V I β' s x v := by
  induction h with
  | data h => exact fun _ => .data h
  | ptr l d off b h => intro hn; simp [noPtr] at hn
  | ownN u e f => exact fun _ => .ownN u e f
  | own u e n f b el c g ht hc hl hi h1 h => exact fun _ => .own u e n f b el c g ht hc hl hi h1 h
  | raw u e n b el ht => exact fun _ => .raw u e n b el ht
  | row d e n b c h hc => intro hn; simp [noPtr] at hn
  | agg xs vs hl h1 _ ih => exact fun hn => .agg _ vs hl h1 fun j x hx => ih j x hx (noPtrL_get (by simpa [noPtr] using hn) j x hx)
  | tup xs vs hl _ ih => exact fun hn => .tup _ vs hl fun j x hx => ih j x hx (noPtrL_get (by simpa [noPtr] using hn) j x hx)
  | mp ks xs b vs hm hl _ ih => intro hn; simp [noPtr] at hn
  | fn f xs ys vs us hl hk _ _ ih ih' =>
    intro hn
    simp [noPtr] at hn
    exact .fn f _ _ vs us hl hk (fun j x hx => ih j x hx (noPtrL_get hn.1 j x hx)) (fun j x hx => ih' j x hx (noPtrL_get hn.2 j x hx))
theorem lookC_putC_same {l : Ces} {d : Nat} {c : List IV} (c' : List IV) (h : lookC l d = some c) : lookC (putC l d c') d = some c' := by rw [lookC_putC, h]; simp
theorem lookC_putC_other {l : Ces} {d e : Nat} (c' : List IV) (h : e ≠ d) : lookC (putC l d c') e = lookC l e := by rw [lookC_putC, if_neg fun q => h q.1.symm]
theorem hasN_mem2 {l : List Nat} {i : Nat} : hasN l i = true ↔ i ∈ l := by
  induction l with
  | nil => simp [hasN]
  | cons x r ih =>
    simp only [hasN]
    split
    · rename_i h; simp [(beq_iff _ _).1 h]
    · rename_i h; rw [ih]; simp [Ne.symm (beq_false h)]
theorem freeTm_look {ts : List Nat} : ∀ {T : Tms}, freeTm ts T = true → ∀ i u, u ∈ tagsV (look T i) → u ∉ ts
  | [], _, i, u, h => by simp [look, tagsV] at h
  | (k, v) :: r, h, i, u, hu => by
    simp only [freeTm, Bool.and_eq_true] at h
    rw [look_cons] at hu
    split at hu
    · have := List.all_eq_true.1 h.1 u hu
      intro hm
      rw [hasN_mem2.2 hm] at this; cases this
    · exact freeTm_look h.2 i u hu
theorem freeCe_look {ts : List Nat} {d : Nat} : ∀ {T : Ces}, freeCe ts d T = true → ∀ i c, i ≠ d → lookC T i = some c → ∀ u, u ∈ tagsL c → u ∉ ts
  | [], _, i, c, _, h, _, _ => by simp [lookC] at h
  | (k, v) :: r, h, i, c, hid, hc, u, hu => by
    simp only [freeCe, Bool.and_eq_true, Bool.or_eq_true] at h
    rw [lookC_cons] at hc
    split at hc
    · rename_i e
      subst e
      simp only [Option.some.injEq] at hc
      subst hc
      rcases h.1 with q | q
      · exact absurd ((beq_iff _ _).1 q) hid
      · have := List.all_eq_true.1 q u hu
        intro hm
        rw [hasN_mem2.2 hm] at this; cases this
    · exact freeCe_look h.2 i c hid hc u hu
open Classical in
theorem lend_rel {d b0 : Nat} {c c' : List IV} (r : Rel Γ S a w I X β σ) (hc : lookC S.ce d = some c) (hβ : β 0 d = some b0) (hn : noPtrL c = true) (hn' : noPtrL c' = true)
    (h1 : freeTm (tagsL c ++ tagsL c') S.tm = true) (h2 : freeCe (tagsL c ++ tagsL c') d S.ce = true) :
    ∃ (X1 : Nat → Prop) (s : Sig), MemR Γ.gl [[(d, c)]] w I X1 (oneB d b0) (lvl0 s) ∧ OwnR w I X1 (oneB d b0) s ∧ ∀ (w' : World) (I' : Imm) (s' : Sig), MemR Γ.gl [[(d, c')]] w' I' X1 (oneB d b0) (lvl0 s') → OwnR w' I' X1 (oneB d b0) s' → Ext I X1 w I' w' →
      ∃ σ', Rel Γ ⟨S.tm, putC S.ce d c', S.up⟩ a w' I' X β σ' ∧ Ext I X w I' w' ∧ Above β β σ σ' := by
  obtain ⟨b', arr, el, g1, g2, g3, g4, g5, g6, g7⟩ := r.mem.cell 0 d c hc
  rw [hβ] at g1; cases g1
  let X1 : Nat → Prop := fun b => b < w.heap.size ∧ b ≠ b0 ∧ ∀ t g, t ∈ tagsL c → σ 0 t = some g → g.b ≠ b
  let s : Sig := fun t => if t ∈ tagsL c then σ 0 t else none
  have hone : ∀ {l e b : Nat}, oneB d b0 l e = some b → l = 0 ∧ e = d ∧ b = b0 := fun {l e b} h => by
    unfold oneB at h
    split at h
    · rename_i q; cases h; exact ⟨q.1, q.2, rfl⟩
    · cases h
  have hone0 : oneB d b0 0 d = some b0 := if_pos ⟨rfl, rfl⟩
  have hlk : ∀ {x y : List IV} {l e : Nat}, lookC (upC [[(d, x)]] l) e = some y → l = 0 ∧ e = d ∧ y = x := fun {x y l e} h => by
    cases l with
    | zero =>
      simp only [upC, lookC_cons] at h
      split at h
      · rename_i q; cases h; exact ⟨rfl, q.symm, rfl⟩
      · simp [lookC] at h
    | succ l => simp [upC, lookC] at h
  have hX : ∀ b, X b → X1 b := fun b hb => ⟨r.mem.xb b hb, fun e => by subst e; exact g7 hb, fun t g _ hg e => by
    obtain ⟨cur, _, _, _, _, _, k6, _⟩ := r.own.row t g hg
    exact k6 (e ▸ hb)⟩
  refine ⟨X1, s, ⟨fun l e y hy => ?_, fun l e l' e' b q1 q2 => ?_, fun l e b q => ?_, r.mem.im, r.mem.glo, fun b hb => hb.1, r.mem.gz⟩, ⟨fun t g hg => ?_, fun t t' g g' q1 q2 => ?_⟩, fun w' I' s' m' o' ex => ?_⟩
  · obtain ⟨rfl, rfl, rfl⟩ := hlk hy
    refine ⟨b0, arr, el, hone0, g2, g3, g4, fun j x hx => ?_, g6, fun h => h.2.1 rfl⟩
    have v0 := g5 j x hx
    have v1 : V I (fun l' => oneB e b0 (0 + l')) (σ 0) x (arr.getD j undef) := v0.anyβ (noPtrL_get hn j x hx)
    exact v1.tags fun u g hu hg => by
      show (if u ∈ tagsL y then σ 0 u else none) = some g
      rw [if_pos (tagsL_get hx hu)]; exact hg
  · obtain ⟨rfl, rfl, rfl⟩ := hone q1
    obtain ⟨rfl, rfl, _⟩ := hone q2
    exact ⟨rfl, rfl⟩
  · obtain ⟨rfl, rfl, rfl⟩ := hone q
    exact ⟨c, by simp [upC, lookC_cons]⟩
  · have hg : (if t ∈ tagsL c then σ 0 t else none) = some g := hg
    split at hg
    · rename_i ht
      obtain ⟨cur, k1, k2, k3, k4, k5, k6, k7⟩ := r.own.row t g hg
      exact ⟨cur, k1, k2, k3, k4, k5, fun h => h.2.2 t g ht hg rfl, fun l e h => by obtain ⟨rfl, rfl, e⟩ := hone h; exact k7 0 _ (by rw [e]; exact hβ)⟩
    · cases hg
  · have q1 : (if t ∈ tagsL c then σ 0 t else none) = some g := q1
    have q2 : (if t' ∈ tagsL c then σ 0 t' else none) = some g' := q2
    split at q1
    · split at q2
      · exact r.own.inj t t' g g' q1 q2
      · cases q2
    · cases q1
  let s2 : Sig := fun t => if t ∈ tagsL c' then s' t else if t ∈ tagsL c then none else σ 0 t
  obtain ⟨b', arr', el', p1, p2, p3, p4, p5, p6, p7⟩ := m'.cell 0 d c' (by simp [upC, lookC_cons])
  rw [hone0] at p1; cases p1
  have hcell : ∀ l e b, β l e = some b → (l = 0 ∧ e = d ∧ b = b0) ∨ (¬ (l = 0 ∧ e = d) ∧ X1 b) := fun l e b hb => by
    by_cases q : l = 0 ∧ e = d
    · obtain ⟨rfl, rfl⟩ := q
      rw [hβ] at hb; cases hb
      exact .inl ⟨rfl, rfl, rfl⟩
    · refine .inr ⟨q, ?_, fun e' => ?_, fun t g _ hg e' => ?_⟩
      · obtain ⟨y, hy⟩ := r.mem.keys l e b hb
        obtain ⟨b2, _, _, k1, k2, _⟩ := r.mem.cell l e y hy
        rw [hb] at k1; cases k1
        exact heap_lt k2
      · subst e'; exact q (r.mem.inj _ _ _ _ _ hb hβ)
      · obtain ⟨cur, _, _, _, _, _, _, k7⟩ := r.own.row t g hg
        exact k7 l e (e' ▸ hb)
  have hrow : ∀ t g, σ 0 t = some g → t ∉ tagsL c → X1 g.b := fun t g hg ht => ⟨by obtain ⟨cur, k1, _⟩ := r.own.row t g hg; exact heap_lt k1, fun e => by
      obtain ⟨cur, _, _, _, _, _, _, k7⟩ := r.own.row t g hg
      exact k7 0 d (e ▸ hβ), fun t' g' ht' hg' e => by
      have := r.own.inj t' t g' g hg' hg e
      subst this; exact ht ht'⟩
  have hnX : ∀ b, ¬ X1 b → ¬ X b := fun b h1 h2 => h1 (hX b h2)
  have hσ2 : ∀ u g, u ∉ tagsL c ++ tagsL c' → σ 0 u = some g → s2 u = some g := fun u g hu hg => by
    rw [List.mem_append] at hu
    show (if _ then _ else _) = _
    rw [if_neg fun h => hu (.inr h), if_neg fun h => hu (.inl h)]; exact hg
  refine ⟨setSig σ s2, ⟨fun i => ?_, r.df.to ex.fix (fun _ _ h => h), r.nt, ⟨fun l e y hy => ?_, r.mem.inj, fun l e b hb => ?_, m'.im, m'.glo, fun b hb => Nat.lt_of_lt_of_le (r.mem.xb b hb) ex.size, m'.gz⟩, ⟨fun t g hg => ?_, fun t t' g g' q1 q2 hb => ?_⟩⟩, ex.sub hX, .setSig β σ _⟩
  · have v1 := (r.tm i).mono ex.imm (fun _ _ _ h => h) (fun _ _ h => h)
    exact v1.tags fun u g hu hg => hσ2 u g (freeTm_look h1 i u hu) hg
  · by_cases q : l = 0 ∧ e = d
    · obtain ⟨rfl, rfl⟩ := q
      have hy' : y = c' := by
        have hy : lookC (putC S.ce e c') e = some y := hy
        rw [lookC_putC_same _ hc] at hy
        cases hy; rfl
      subst hy'
      refine ⟨b0, arr', el', hβ, p2, p3, p4, fun j x hx => ?_, p6, fun h => g7 h⟩
      have v1 : V I' (fun l' => β (0 + l')) s' x (arr'.getD j undef) := (p5 j x hx).anyβ (noPtrL_get hn' j x hx)
      exact v1.tags fun u g hu hg => by
        show (if _ then _ else _) = _
        rw [if_pos (tagsL_get hx hu)]; exact hg
    · have hy' : lookC (upC (S.ce :: S.up) l) e = some y := by
        cases l with
        | zero =>
          have hy : lookC (putC S.ce d c') e = some y := hy
          rw [lookC_putC_other _ (fun e' => q ⟨rfl, e'⟩)] at hy
          exact hy
        | succ l => exact hy
      obtain ⟨b, arr2, el2, k1, k2, k3, k4, k5, k6, k7⟩ := r.mem.cell l e y hy'
      have hx1 : X1 b := by rcases hcell l e b k1 with ⟨q1, q2, _⟩ | ⟨_, q2⟩; exact absurd ⟨q1, q2⟩ q; exact q2
      refine ⟨b, arr2, el2, k1, by rw [ex.keep b hx1]; exact k2, k3, k4, fun j x hx => ?_, fun j => by rw [ex.new ⟨b, j, none⟩ hx1]; exact k6 j, k7⟩
      have v1 := (k5 j x hx).mono ex.imm (fun _ _ _ h => h) (fun _ _ h => h)
      cases l with
      | zero => exact v1.tags fun u g hu hg => hσ2 u g (freeCe_look h2 e y (fun e' => q ⟨rfl, e'⟩) hy' u (tagsL_get hx hu)) hg
      | succ l => exact v1
  · obtain ⟨y, hy⟩ := r.mem.keys l e b hb
    by_cases q : l = 0 ∧ e = d
    · obtain ⟨rfl, rfl⟩ := q
      exact ⟨c', lookC_putC_same _ hc⟩
    · refine ⟨y, ?_⟩
      cases l with
      | zero =>
        show lookC (putC S.ce d c') e = some y
        rw [lookC_putC_other _ (fun e' => q ⟨rfl, e'⟩)]; exact hy
      | succ l => exact hy
  · have hg : (if t ∈ tagsL c' then s' t else if t ∈ tagsL c then none else σ 0 t) = some g := hg
    split at hg
    · obtain ⟨cur, k1, k2, k3, k4, k5, k6, k7⟩ := o'.row t g hg
      refine ⟨cur, k1, k2, k3, k4, k5, hnX _ k6, fun l e hb => ?_⟩
      rcases hcell l e _ hb with ⟨q1, q2, q3⟩ | ⟨_, q⟩
      · exact k7 0 d (by rw [q3]; exact hone0)
      · exact k6 q
    · split at hg
      · cases hg
      · rename_i q1 q2
        have hx1 := hrow t g hg q2
        obtain ⟨cur, k1, k2, k3, k4, k5, k6, k7⟩ := r.own.row t g hg
        exact ⟨cur, by rw [ex.keep _ hx1]; exact k1, k2, k3, k4, fun j hj => by rw [ex.new ⟨g.b, j, none⟩ hx1]; exact k5 j hj, k6, k7⟩
  · have q1 : (if t ∈ tagsL c' then s' t else if t ∈ tagsL c then none else σ 0 t) = some g := q1
    have q2 : (if t' ∈ tagsL c' then s' t' else if t' ∈ tagsL c then none else σ 0 t') = some g' := q2
    have hno : ∀ u gu, s' u = some gu → ¬ X1 gu.b := fun u gu hu => by
      obtain ⟨cur, _, _, _, _, _, k6, _⟩ := o'.row u gu hu
      exact k6
    split at q1 <;> split at q2
    · exact o'.inj t t' g g' q1 q2 hb
    · split at q2
      · cases q2
      · rename_i z1 z2 z3; exact absurd (hb ▸ hrow t' g' q2 z3) (hno t g q1)
    · split at q1
      · cases q1
      · rename_i z1 z2 z3; exact absurd (hb ▸ hrow t g q1 z3) (hno t' g' q2)
    · split at q1
      · cases q1
      · split at q2
        · cases q2
        · exact r.own.inj t t' g g' q1 q2 hb
end
end Go.Proofs.YtfoenhiohhmnlaaGreatDoor.Ix
