/-
  Ix30: what a caller hands in, as the evaluator tells it: data that a claim reads, of a given shape.
-/
import Derived.Test.YtllmejkmogepjaaDoorX28
import Derived.ChangeArms
import Derived.OpenShut
import Derived.ChangeShapes
namespace Go.Proofs.YtllmejkmogepjaaDoor.Ix
set_option linter.unusedVariables false

inductive Shp where
  | int (k : IntKind)
  | bool
  | str
  | slice (e : Nat) (s : Shp)
  | agg (l : List (Nat × Shp))

def total : List (Nat × Shp) → Nat
  | [] => 0
  | x :: r => x.1 + total r

mutual
/-- The type 't' has this shape. -/
def ShpOK (P : Program) : Shp → TypeId → Prop
  | .int k, t => P.underlying t = some (.int k)
  | .bool, t => P.underlying t = some .bool
  | .str, t => P.underlying t = some .string
  | .slice e s, t => ∃ u, P.underlying t = some (.slice u) ∧ P.cellsOf u = e ∧ 0 < e ∧ ShpOK P s u
  | .agg l, t => P.cellsOf t = total l ∧ ((∃ fs, P.underlying t = some (.struct fs) ∧ ShpOKs P l 0 (fs.toList.map fun f => (f.offset, f.type))) ∨
      ∃ n e, P.underlying t = some (.array n e) ∧ ShpOKs P l 0 ((List.range n).map fun i => (i * P.cellsOf e, e)))
def ShpOKs (P : Program) : List (Nat × Shp) → Nat → List (Nat × TypeId) → Prop
  | [], _, [] => True
  | (sz, s) :: l, off, (o, u) :: r => o = off ∧ P.cellsOf u = sz ∧ ShpOK P s u ∧ ShpOKs P l (off + sz) r
  | _, _, _ => False
end

mutual
/-- Cells of this shape. -/
def Fit : Shp → List IV → Prop
  | .int k, xs => ∃ n, xs = [.int k n] ∧ (Lit.int k n).wf = true
  | .bool, xs => ∃ b, xs = [.bool b]
  | .str, xs => ∃ s : ByteArray, xs = [.str s] ∧ s.size ≤ maxLen
  | .slice e s, xs => ∃ n f, xs = [.lst none e n f] ∧ n ≤ maxLen ∧ ∀ i, i < n → (f i).length = e ∧ Fit s (f i)
  | .agg l, xs => FitL l xs
def FitL : List (Nat × Shp) → List IV → Prop
  | [], xs => xs = []
  | (sz, s) :: l, xs => ∃ ys zs, xs = ys ++ zs ∧ ys.length = sz ∧ Fit s ys ∧ FitL l zs
end

/-- The cells told. -/
def Tells (I : Imm) (xs : List IV) (cs : List Value) : Prop := xs.length = cs.length ∧ ∀ (j : Nat) y, xs[j]? = some y → D I y (cs.getD j undef) ∧ (cs.getD j undef).oneCell' = true

theorem Tells.one {I : Imm} {x : IV} {v : Value} (h : D I x v) (h1 : v.oneCell' = true) : Tells I [x] [v] := by
  refine ⟨rfl, fun j y hy => ?_⟩
  cases j with
  | zero => simp at hy; subst hy; exact ⟨h, h1⟩
  | succ j => simp at hy

theorem Tells.append {I : Imm} {xs ys : List IV} {cs ds : List Value} (h : Tells I xs cs) (k : Tells I ys ds) : Tells I (xs ++ ys) (cs ++ ds) := by
  refine ⟨by simp [h.1, k.1], fun j y hy => ?_⟩
  by_cases hj : j < xs.length
  · rw [List.getElem?_append_left hj] at hy
    have := h.2 j y hy
    rw [List.getD_eq_getElem?_getD, List.getElem?_append_left (by rw [← h.1]; exact hj), ← List.getD_eq_getElem?_getD]; exact this
  · rw [List.getElem?_append_right (by omega)] at hy
    have := k.2 _ y hy
    rw [List.getD_eq_getElem?_getD, List.getElem?_append_right (by rw [← h.1]; omega), ← h.1, ← List.getD_eq_getElem?_getD]; exact this

section
variable {H : Type} {enc : TypeId × Value → H} {P : Program} {w : World} {spare : Nat → Bool} {held : Bool}

theorem cells_get {base : Nat} {a : Addr} {n : Nat} {cs : List Value} (h : w.cells? base a n = some cs) : cs.length = n ∧ ∀ j, j < n → w.cell? (a.add j) = cs[j]? := by
  unfold World.cells? at h
  split at h
  · exact ⟨by simpa using mapM_some_length h, fun j hj => mapM_some_get h j j (by simp [hj])⟩
  · cases h

theorem cell_spot {a : Addr} {v : Value} (h : w.cell? a = some v) : a.spot = none := by
  unfold World.cell? at h
  split at h
  · cases hs : a.spot with
    | none => rfl
    | some x => simp [hs] at h
  · cases h

mutual
theorem fit_of_trod : ∀ (s : Shp) (t : TypeId), ShpOK P s t → ∀ (fuel : Nat) (cs : List Value) (x : DataW H × List MemPlace), DataW.trod enc P w 0 (fun _ => true) held fuel t cs = some x →
    ∃ xs, Fit s xs ∧ Tells (fun a => w.cell? a) xs cs
  | .int k, t, ht, fuel, cs, x, h => by
    simp only [ShpOK] at ht
    obtain ⟨n, rfl, _, hw⟩ := DataW.trod_int ht h
    exact ⟨_, ⟨n, rfl, hw⟩, .one (.int k n) rfl⟩
  | .bool, t, ht, fuel, cs, x, h => by
    simp only [ShpOK] at ht
    obtain ⟨b, rfl, _⟩ := DataW.trod_bool ht h
    exact ⟨_, ⟨b, rfl⟩, .one (.bool b) rfl⟩
  | .str, t, ht, fuel, cs, x, h => by
    simp only [ShpOK] at ht
    obtain ⟨s, rfl, _, hs⟩ := DataW.trod_string ht h
    exact ⟨_, ⟨s, rfl, hs⟩, .one (.str s) rfl⟩
  | .slice e s, t, ht, fuel, cs, x, h => by
    simp only [ShpOK] at ht
    obtain ⟨u, hu, rfl, he, hs⟩ := ht
    rcases DataW.trod_slice hu h with ⟨rfl, _⟩ | ⟨a, len, cap, elems, rest, n, _, rfl, _, _, hlc, hcm, hlen, hel, hsp, _⟩
    · exact ⟨[.lst none (P.cellsOf u) 0 fun _ => []], ⟨0, _, rfl, Nat.zero_le _, fun i hi => by omega⟩, .one (.lstN _ _) rfl⟩
    · obtain ⟨hr1, hr2⟩ := hsp rfl
      have ex : ∀ i, i < len → ∃ xs, Fit s xs ∧ ∃ vs, w.cells? 0 (a.add (i * P.cellsOf u)) (P.cellsOf u) = some vs ∧ Tells (fun a => w.cell? a) xs vs := by
        intro i hi
        have h1 := hel i hi
        rw [List.getElem?_eq_getElem (by omega), Option.bind_eq_some_iff] at h1
        obtain ⟨vs, hv, ht⟩ := h1
        obtain ⟨xs, k1, k2⟩ := fit_of_trod s u hs n vs _ ht
        exact ⟨xs, k1, vs, hv, k2⟩
      have hspot : 0 < cap → a.spot = none := by
        intro hc
        have : ∃ vs, w.cells? 0 (a.add (0 * P.cellsOf u)) (P.cellsOf u) = some vs := by
          by_cases hl : 0 < len
          · obtain ⟨_, _, vs, hv, _⟩ := ex 0 hl; exact ⟨vs, hv⟩
          · have h1 := hr2 0 (by omega)
            rw [List.getElem?_eq_getElem (by omega), Option.bind_eq_some_iff] at h1
            obtain ⟨vs, hv, _⟩ := h1
            exact ⟨vs, by rw [show len + 0 = 0 by omega] at hv; exact hv⟩
        obtain ⟨vs, hv⟩ := this
        obtain ⟨g1, g2⟩ := cells_get hv
        have := g2 0 he
        rw [List.getElem?_eq_getElem (by omega), Nat.zero_mul] at this
        have h0 : (a.add 0).add 0 = a := by simp [Addr.add]
        rw [h0] at this
        exact cell_spot this
      by_cases hc : cap = 0
      · subst hc
        have : len = 0 := by omega
        subst this
        exact ⟨[.lst none (P.cellsOf u) 0 fun _ => []], ⟨0, _, rfl, Nat.zero_le _, fun i hi => by omega⟩, .one (.lstN _ _) rfl⟩
      · obtain ⟨b, off, spot⟩ := a
        have hs0 := hspot (by omega)
        simp only at hs0
        subst hs0
        let f : Nat → List IV := fun i => if hi : i < len then (ex i hi).choose else []
        have hf : ∀ i (hi : i < len), Fit s (f i) ∧ ∃ vs, w.cells? 0 ((⟨b, off, none⟩ : Addr).add (i * P.cellsOf u)) (P.cellsOf u) = some vs ∧ Tells (fun a => w.cell? a) (f i) vs := by
          intro i hi
          have e : f i = (ex i hi).choose := dif_pos hi
          rw [e]; exact (ex i hi).choose_spec
        have hlen' : ∀ i, i < len → (f i).length = P.cellsOf u := fun i hi => by
          obtain ⟨_, vs, hv, ht⟩ := hf i hi
          rw [ht.1]; exact (cells_get hv).1
        have hcell : ∀ i j, i < len → j < P.cellsOf u → ∃ v, w.cell? ⟨b, off + i * P.cellsOf u + j, none⟩ = some v ∧ v.oneCell' = true ∧ ∀ x, (f i)[j]? = some x → D (fun a => w.cell? a) x v := by
          intro i j hi hj
          obtain ⟨_, vs, hv, ht⟩ := hf i hi
          obtain ⟨g1, g2⟩ := cells_get hv
          have h1 := g2 j hj
          rw [add_none, add_none] at h1
          have hjl : j < (f i).length := by rw [hlen' i hi]; exact hj
          have h3 := ht.2 j _ (List.getElem?_eq_getElem hjl)
          refine ⟨vs.getD j undef, ?_, h3.2, fun x hx => (ht.2 j x hx).1⟩
          rw [h1, List.getD_eq_getElem?_getD, List.getElem?_eq_getElem (by omega)]; rfl
        refine ⟨[.lst none (P.cellsOf u) len f], ⟨len, f, rfl, by omega, fun i hi => ⟨hlen' i hi, (hf i hi).1⟩⟩, .one ?_ rfl⟩
        refine .lst _ len f b off cap (fun i j => (w.cell? ⟨b, off + i * P.cellsOf u + j, none⟩).getD undef) hlc hlen' (fun i j hi hj => ?_) (fun i j hi hj => ?_) (fun i j x hi hx => ?_)
        · obtain ⟨v, hv, _⟩ := hcell i j hi hj
          show w.cell? _ = some ((w.cell? _).getD undef)
          rw [hv]; rfl
        · obtain ⟨v, hv, h1, _⟩ := hcell i j hi hj
          show ((w.cell? _).getD undef).oneCell' = true
          rw [hv]; exact h1
        · have hj : j < P.cellsOf u := by rw [← hlen' i hi]; exact (List.getElem?_eq_some_iff.1 hx).1
          obtain ⟨v, hv, _, hD⟩ := hcell i j hi hj
          show D _ x ((w.cell? _).getD undef)
          rw [hv]; exact hD x hx
  | .agg l, t, ht, fuel, cs, x, h => by
    simp only [ShpOK] at ht
    obtain ⟨hsz, ⟨fs, hu, hfs⟩ | ⟨n, e, hu, hfs⟩⟩ := ht
    · obtain ⟨ys, n, _, _, hcl, hyl, hy⟩ := DataW.trod_struct hu h
      have := fits_of_trod l 0 _ hfs n cs (fun i o u hi => by
        simp only [List.getElem?_map, Option.map_eq_some_iff] at hi
        obtain ⟨f, hf, e⟩ := hi
        simp only [Prod.mk.injEq] at e
        obtain ⟨rfl, rfl⟩ := e
        have hf' : fs[i]? = some f := by simpa using hf
        have hlt : i < ys.length := by rw [hyl]; exact (Array.getElem?_eq_some_iff.1 hf').1
        exact ⟨_, (hy i f hf').trans (List.getElem?_eq_getElem hlt)⟩) (by omega)
      simpa [Fit] using this
    · obtain ⟨ys, m, _, _, hcl, hyl, hy⟩ := DataW.trod_array hu h
      have := fits_of_trod l 0 _ hfs m cs (fun i o u hi => by
        simp only [List.getElem?_map, Option.map_eq_some_iff] at hi
        obtain ⟨f, hf, e⟩ := hi
        simp only [Prod.mk.injEq] at e
        obtain ⟨rfl, rfl⟩ := e
        obtain ⟨hlt, rfl⟩ := List.getElem?_eq_some_iff.1 hf
        simp at hlt ⊢
        have := hy i hlt
        rw [List.getElem?_eq_getElem (by omega)] at this
        exact ⟨_, _, this⟩) (by omega)
      simpa [Fit] using this
theorem fits_of_trod : ∀ (l : List (Nat × Shp)) (off : Nat) (ts : List (Nat × TypeId)), ShpOKs P l off ts → ∀ (fuel : Nat) (cs : List Value),
    (∀ (i : Nat) o u, ts[i]? = some (o, u) → ∃ x, DataW.trod enc P w 0 (fun _ => true) held fuel u ((cs.drop o).take (P.cellsOf u)) = some x) → cs.length = off + total l →
    ∃ xs, FitL l xs ∧ Tells (fun a => w.cell? a) xs (cs.drop off)
  | [], off, ts, h, fuel, cs, hx, hl => ⟨[], rfl, by
      have : cs.drop off = [] := by simp [total] at hl; simp [hl]
      rw [this]; exact ⟨rfl, fun j y hy => by simp at hy⟩⟩
  | (sz, s) :: l, off, [], h, fuel, cs, hx, hl => by simp [ShpOKs] at h
  | (sz, s) :: l, off, (o, u) :: r, h, fuel, cs, hx, hl => by
    simp only [ShpOKs] at h
    obtain ⟨rfl, rfl, h3, h4⟩ := h
    simp only [total] at hl
    obtain ⟨y, hy⟩ := hx 0 o u rfl
    obtain ⟨xs, k1, k2⟩ := fit_of_trod s u h3 fuel _ y hy
    obtain ⟨zs, m1, m2⟩ := fits_of_trod l (o + P.cellsOf u) r h4 fuel cs (fun i o' u' hi => hx (i + 1) o' u' (by simpa using hi)) (by omega)
    have hlen : xs.length = P.cellsOf u := by rw [k2.1]; simp; omega
    refine ⟨xs ++ zs, ?_, ?_⟩
    · simp only [FitL]; exact ⟨xs, zs, rfl, hlen, k1, m1⟩
    · have e : cs.drop o = (cs.drop o).take (P.cellsOf u) ++ cs.drop (o + P.cellsOf u) := by
        rw [← List.drop_drop, List.take_append_drop]
      rw [e]; exact k2.append m2
end
end
end Go.Proofs.YtllmejkmogepjaaDoor.Ix
