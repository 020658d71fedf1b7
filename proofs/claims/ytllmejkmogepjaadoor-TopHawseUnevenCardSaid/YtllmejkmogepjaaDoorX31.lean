/-
  Ix31: from a contract to a claim's own words: the arguments as data of given shapes, the call, the arguments as they were.
-/
import Derived.Test.YtllmejkmogepjaaDoorX30
import Derived.SizedLaws
import Derived.Carry
namespace Go.Proofs.YtllmejkmogepjaaDoor.Ix
set_option linter.unusedVariables false

mutual
/-- Has the type 't' this shape? -/
def shpB (P : Program) : Shp → TypeId → Bool
  | .int k, t => match P.underlying t with
    | some (.int k') => decide (k' = k)
    | _ => false
  | .bool, t => match P.underlying t with
    | some .bool => true
    | _ => false
  | .str, t => match P.underlying t with
    | some .string => true
    | _ => false
  | .slice e s, t => match P.underlying t with
    | some (.slice u) => Nat.beq (P.cellsOf u) e && Nat.blt 0 e && shpB P s u
    | _ => false
  | .agg l, t => Nat.beq (P.cellsOf t) (total l) && match P.underlying t with
    | some (.struct fs) => shpsB P l 0 (fs.toList.map fun f => (f.offset, f.type))
    | some (.array n e) => shpsB P l 0 ((List.range n).map fun i => (i * P.cellsOf e, e))
    | _ => false
def shpsB (P : Program) : List (Nat × Shp) → Nat → List (Nat × TypeId) → Bool
  | [], _, [] => true
  | (sz, s) :: l, off, (o, u) :: r => Nat.beq o off && Nat.beq (P.cellsOf u) sz && shpB P s u && shpsB P l (off + sz) r
  | _, _, _ => false
end

mutual
theorem shp_ok {P : Program} : ∀ (s : Shp) (t : TypeId), shpB P s t = true → ShpOK P s t
  | .int k, t, h => by
    simp only [shpB] at h
    split at h
    · rename_i k' hk; simp at h; subst h; exact hk
    · cases h
  | .bool, t, h => by
    simp only [shpB] at h
    split at h
    · assumption
    · cases h
  | .str, t, h => by
    simp only [shpB] at h
    split at h
    · assumption
    · cases h
  | .slice e s, t, h => by
    simp only [shpB] at h
    split at h
    · rename_i u hu
      simp only [Bool.and_eq_true, beq_iff] at h
      exact ⟨u, hu, h.1.1, blt_lt h.1.2, shp_ok s u h.2⟩
    · cases h
  | .agg l, t, h => by
    simp only [shpB, Bool.and_eq_true, beq_iff] at h
    obtain ⟨h1, h2⟩ := h
    refine ⟨h1, ?_⟩
    split at h2
    · rename_i fs hf; exact .inl ⟨fs, hf, shps_ok l _ _ h2⟩
    · rename_i n e hf; exact .inr ⟨n, e, hf, shps_ok l _ _ h2⟩
    · cases h2
theorem shps_ok {P : Program} : ∀ (l : List (Nat × Shp)) (off : Nat) (ts : List (Nat × TypeId)), shpsB P l off ts = true → ShpOKs P l off ts
  | [], _, [], _ => trivial
  | [], _, _ :: _, h => by simp [shpsB] at h
  | (sz, s) :: l, off, [], h => by simp [shpsB] at h
  | (sz, s) :: l, off, (o, u) :: r, h => by
    simp only [shpsB, Bool.and_eq_true, beq_iff] at h
    exact ⟨h.1.1.1, h.1.1.2, shp_ok s u h.1.2, shps_ok l _ r h.2⟩
end

/-- A value of this shape. -/
def FitV : Shp → IV → Prop
  | .agg l, v => ∃ xs, v = .agg xs ∧ FitL l xs
  | s, v => Fit s [v]

section
variable {H : Type} {enc : TypeId × Value → H} {P : Program} {w : World} {held : Bool} {base : Nat}

theorem open_shp {r : Reach} {b0 : Nat} (s : Shp) (t : TypeId) (hs : ShpOK P s t) {v : Value} {d : DataW H} {p : List MemPlace} (hval : Value.okWide P w r b0 t v) (h : DataW.Trod enc P w 0 (fun _ => true) held t v d p) :
    ∃ x, FitV s x ∧ D (fun a => w.cell? a) x v := by
  obtain ⟨fuel, h⟩ := h
  obtain ⟨xs, h1, h2, h3⟩ := fit_of_trod s t hs fuel _ _ h
  have plain : v.cells = #[v] → (∃ x, xs = [x]) → ∃ x, xs = [x] ∧ D (fun a => w.cell? a) x v := fun e hx => by
    obtain ⟨x, rfl⟩ := hx
    refine ⟨x, rfl, ?_⟩
    have := (h3 0 x rfl).1
    rw [e] at this; exact this
  cases s with
  | agg l =>
    simp only [ShpOK] at hs
    have : ∃ cs, v = .agg cs := by
      unfold Value.okWide at hval
      obtain ⟨_, ⟨fs, hu, _⟩ | ⟨n, e, hu, _⟩⟩ := hs
      · rw [hu] at hval; exact ⟨_, hval.choose_spec.1⟩
      · rw [hu] at hval; exact ⟨_, hval.choose_spec.1⟩
    obtain ⟨cs, rfl⟩ := this
    refine ⟨.agg xs, ⟨xs, rfl, h1⟩, .agg xs cs (by simpa [Value.cells] using h2) (fun j u hu => ?_) (fun j x hx => ?_)⟩
    · have hlt : j < xs.length := by rw [h2]; simpa [Value.cells] using (Array.getElem?_eq_some_iff.1 hu).1
      have := (h3 j _ (List.getElem?_eq_getElem hlt)).2
      simp only [Value.cells, List.getD_eq_getElem?_getD, Array.getElem?_toList, hu] at this
      exact this
    · have := (h3 j x hx).1
      simp only [Value.cells, List.getD_eq_getElem?_getD, Array.getElem?_toList] at this
      rw [Array.getD_eq_getD_getElem?]; exact this
  | int k =>
    simp only [ShpOK] at hs
    obtain ⟨n, rfl, hw⟩ := h1
    obtain ⟨m, hm, _, _⟩ := DataW.trod_int hs h
    have e : v.cells = #[v] := by cases v <;> simp_all [Value.cells, Value.okWide, Cell.okWide, Cell.ok]
    obtain ⟨x, hx, hD⟩ := plain e ⟨_, rfl⟩
    cases hx
    exact ⟨_, ⟨n, rfl, hw⟩, hD⟩
  | bool =>
    simp only [ShpOK] at hs
    obtain ⟨n, rfl⟩ := h1
    have e : v.cells = #[v] := by cases v <;> simp_all [Value.cells, Value.okWide, Cell.okWide, Cell.ok]
    obtain ⟨x, hx, hD⟩ := plain e ⟨_, rfl⟩
    cases hx
    exact ⟨_, ⟨n, rfl⟩, hD⟩
  | str =>
    simp only [ShpOK] at hs
    obtain ⟨n, rfl, hn⟩ := h1
    have e : v.cells = #[v] := by cases v <;> simp_all [Value.cells, Value.okWide, Cell.okWide, Cell.ok]
    obtain ⟨x, hx, hD⟩ := plain e ⟨_, rfl⟩
    cases hx
    exact ⟨_, ⟨n, rfl, hn⟩, hD⟩
  | slice e s =>
    simp only [ShpOK] at hs
    obtain ⟨u, hu, _⟩ := hs
    obtain ⟨n, f, rfl, hn⟩ := h1
    have e : v.cells = #[v] := by cases v <;> simp_all [Value.cells, Value.okWide, Cell.okWide, Cell.ok]
    obtain ⟨x, hx, hD⟩ := plain e ⟨_, rfl⟩
    cases hx
    exact ⟨_, ⟨n, f, rfl, hn⟩, hD⟩

/-- All arguments. -/
theorem open_shps {r : Reach} {b0 : Nat} : ∀ (ss : List Shp) (ts : List TypeId) (vs : List Value) (ds : List (DataW H)) (p : List MemPlace), ss.length = ts.length → (∀ (j : Nat) s t, ss[j]? = some s → ts[j]? = some t → ShpOK P s t) →
    (∀ (j : Nat) t v, ts[j]? = some t → vs[j]? = some v → Value.okWide P w r b0 t v) → DataW.TrodAll enc P w 0 (fun _ => true) held ts vs ds p →
    ∃ xs : List IV, xs.length = vs.length ∧ vs.length = ss.length ∧ (∀ (j : Nat) s x, ss[j]? = some s → xs[j]? = some x → FitV s x) ∧ ∀ (j : Nat) x, xs[j]? = some x → D (fun a => w.cell? a) x (vs.getD j undef)
  | [], [], vs, ds, p, _, _, _, h => by
    cases vs <;> cases ds <;> simp [DataW.TrodAll] at h
    exact ⟨[], rfl, rfl, fun j s x h => by simp at h, fun j x h => by simp at h⟩
  | [], _ :: _, _, _, _, hl, _, _, _ => by simp at hl
  | _ :: _, [], _, _, _, hl, _, _, _ => by simp at hl
  | s :: ss, t :: ts, vs, ds, p, hl, hs, hv, h => by
    obtain ⟨v, vs', d, ds', p1, p2, rfl, rfl, rfl, h1, h2⟩ := Go.ChangeShapes.trodAll_cons h
    obtain ⟨x, g1, g2⟩ := open_shp s t (hs 0 s t rfl rfl) (hv 0 t v rfl rfl) h1
    obtain ⟨xs, k0, k1, k2, k3⟩ := open_shps ss ts vs' ds' p2 (by simpa using hl) (fun j s t a b => hs (j + 1) s t (by simpa using a) (by simpa using b)) (fun j t v a b => hv (j + 1) t v (by simpa using a) (by simpa using b)) h2
    refine ⟨x :: xs, by simp [k0], by simp [k1], fun j s' x' a b => ?_, fun j x' b => ?_⟩
    · cases j with
      | zero => simp at a b; subst a b; exact g1
      | succ j => exact k2 j s' x' (by simpa using a) (by simpa using b)
    · cases j with
      | zero => simp at b; subst b; simpa using g2
      | succ j => simpa using k3 j x' (by simpa using b)

theorem trodAll_len : ∀ (ts : List TypeId) (vs : List Value) (ds : List (DataW H)) (p : List MemPlace) {spare : Nat → Bool}, DataW.TrodAll enc P w base spare held ts vs ds p → ds.length = ts.length
  | [], vs, ds, p, _, h => by
    cases vs <;> cases ds <;> simp [DataW.TrodAll] at h
    rfl
  | t :: ts, vs, ds, p, _, h => by
    obtain ⟨v, vs', d, ds', p1, p2, rfl, rfl, rfl, h1, h2⟩ := Go.ChangeShapes.trodAll_cons h
    simp [trodAll_len ts vs' ds' p2 h2]

/-- What the call did not touch reads as it did. -/
theorem shut_all (hl : laidOutB P = true) {W W' : World} (hb : Go.RowKit.Below W.heap.size W W') : ∀ (ts : List TypeId) (vs : List Value) (ds : List (DataW H)) (p : List MemPlace), ts.all (fun t => P.readableRec t && Nat.blt t P.types.size) = true →
    DataW.TrodAll enc P W 0 (fun _ => true) true ts vs ds p → DataW.TrodAll enc P W' 0 (fun b => decide (b < W.heap.size)) true ts vs ds p
  | [], vs, ds, p, _, h => by
    cases vs <;> cases ds <;> simp [DataW.TrodAll] at h ⊢
    exact h
  | t :: ts, vs, ds, p, ht, h => by
    obtain ⟨v, vs', d, ds', p1, p2, rfl, rfl, rfl, h1, h2⟩ := Go.ChangeShapes.trodAll_cons h
    simp only [List.all_cons, Bool.and_eq_true] at ht
    have lt : ∀ x ∈ p1, x.block < W.heap.size := by
      obtain ⟨m, hm⟩ := h1; exact DataW.trod_lt m _ _ _ hm
    exact ⟨_, _, (Go.RowKit.Below.trod hl ht.1.1 (blt_lt ht.1.2) h1 hb lt), shut_all hl hb ts vs' ds' p2 ht.2 h2, rfl⟩
end

/-- A contract, in the words of a claim. -/
theorem Comp.runG {P : Program} {gl : Nat → IV} {g : Nat} {args : List IV} {r : IV} {up' : List Ces} (h : Comp P gl g [] args r up') {vals : Array Value} {W : World} (hg : ∀ g, D (fun a => W.cell? a) (gl g) (.pointer (some ⟨g, 0, none⟩))) (hl : args.length = vals.size)
    (ha : ∀ (j : Nat) x, args[j]? = some x → D (fun a => W.cell? a) x (vals.getD j undef)) :
    Calls P g vals W fun e W' => ∃ v, e = .returned v ∧ (∃ I s, V I (under fun _ _ => none) s r v) ∧ Go.RowKit.Below W.heap.size W W' := by
  have hm : MemR gl [] W (fun a => W.cell? a) (fun b => b < W.heap.size) (fun _ _ => none) (fun _ => noSig) := by
    refine ⟨fun l d c hc => ?_, fun l d l' d' b h1 => (by cases h1), fun l d b h1 => (by cases h1), fun a v h => h, hg, fun b h => h⟩
    simp [upC, lookC] at hc
  refine (h.2 vals W (fun a => W.cell? a) (fun b => b < W.heap.size) (fun _ _ => none) (fun _ => noSig) hm hl (fun j x hx => .data (ha j x hx))).mono fun e W' hh => ?_
  obtain ⟨v, I', s, e1, e2, _, _, e5⟩ := hh
  exact ⟨v, e1, ⟨I', s, e2⟩, ⟨e5.os, e5.tape, e5.output, e5.size, fun k hk => e5.keep k hk⟩⟩

theorem Comp.run {P : Program} {g : Nat} {args : List IV} {r : IV} {up' : List Ces} (h : Comp P (fun _ => .dead) g [] args r up') {vals : Array Value} {W : World} (hl : args.length = vals.size)
    (ha : ∀ (j : Nat) x, args[j]? = some x → D (fun a => W.cell? a) x (vals.getD j undef)) :
    Calls P g vals W fun e W' => ∃ v, e = .returned v ∧ (∃ I s, V I (under fun _ _ => none) s r v) ∧ Go.RowKit.Below W.heap.size W W' := h.runG (fun _ => .dead _) hl ha

/-! ### Tables of numbers: what a datum says of the cells -/
mutual
def flatD {H : Type} : DataW H → List Value
  | .lit (.int k n) => [.int k n]
  | .agg parts => flatDs parts
  | _ => []
def flatDs {H : Type} : List (DataW H) → List Value
  | [] => []
  | d :: r => flatD d ++ flatDs r
end
mutual
def flatS : Shp → Bool
  | .int _ => true
  | .agg l => flatSs l
  | _ => false
def flatSs : List (Nat × Shp) → Bool
  | [] => true
  | (_, s) :: r => flatS s && flatSs r
end

section
variable {H : Type} {enc : TypeId × Value → H} {P : Program} {w : World} {held : Bool} {spare : Nat → Bool}

theorem shps_len : ∀ (l : List (Nat × Shp)) (off : Nat) (ts : List (Nat × TypeId)), ShpOKs P l off ts → ts.length = l.length
  | [], off, [], h => rfl
  | [], off, _ :: _, h => by simp [ShpOKs] at h
  | (sz, s) :: l, off, [], h => by simp [ShpOKs] at h
  | (sz, s) :: l, off, (o, u) :: r, h => by
    simp only [ShpOKs] at h
    simp [shps_len l _ r h.2.2.2]

mutual
theorem flat_of_trod : ∀ (s : Shp) (t : TypeId), ShpOK P s t → flatS s = true → ∀ (fuel : Nat) (cs : List Value) (x : DataW H × List MemPlace), DataW.trod enc P w 0 spare held fuel t cs = some x → flatD x.1 = cs
  | .int k, t, ht, _, fuel, cs, x, h => by
    simp only [ShpOK] at ht
    obtain ⟨n, rfl, rfl, hw⟩ := DataW.trod_int ht h
    rfl
  | .bool, t, ht, hf, fuel, cs, x, h => by simp [flatS] at hf
  | .str, t, ht, hf, fuel, cs, x, h => by simp [flatS] at hf
  | .slice e s, t, ht, hf, fuel, cs, x, h => by simp [flatS] at hf
  | .agg l, t, ht, hf, fuel, cs, x, h => by
    simp only [ShpOK] at ht
    simp only [flatS] at hf
    obtain ⟨hsz, ⟨fs, hu, hfs⟩ | ⟨n, e, hu, hfs⟩⟩ := ht
    · obtain ⟨ys, n, _, rfl, hcl, hyl, hy⟩ := DataW.trod_struct hu h
      have hlen := shps_len l 0 _ hfs
      simp only [List.length_map, Array.length_toList] at hlen
      have := flats_of_trod l 0 _ hfs hf n cs ys (fun i o u hi => by
        simp only [List.getElem?_map, Option.map_eq_some_iff] at hi
        obtain ⟨f, hf, e⟩ := hi
        simp only [Prod.mk.injEq] at e
        obtain ⟨rfl, rfl⟩ := e
        exact hy i f (by simpa using hf)) (by simp [hyl]) (by omega)
      simpa [flatD] using this
    · obtain ⟨ys, m, _, rfl, hcl, hyl, hy⟩ := DataW.trod_array hu h
      have := flats_of_trod l 0 _ hfs hf m cs ys (fun i o u hi => by
        simp only [List.getElem?_map, Option.map_eq_some_iff] at hi
        obtain ⟨f, hf, e⟩ := hi
        simp only [Prod.mk.injEq] at e
        obtain ⟨rfl, rfl⟩ := e
        obtain ⟨hlt, rfl⟩ := List.getElem?_eq_some_iff.1 hf
        simp at hlt ⊢
        exact hy i hlt) (by simp [hyl]) (by omega)
      simpa [flatD] using this
theorem flats_of_trod : ∀ (l : List (Nat × Shp)) (off : Nat) (ts : List (Nat × TypeId)), ShpOKs P l off ts → flatSs l = true → ∀ (fuel : Nat) (cs : List Value) (xs : List (DataW H × List MemPlace)),
    (∀ (i : Nat) o u, ts[i]? = some (o, u) → DataW.trod enc P w 0 spare held fuel u ((cs.drop o).take (P.cellsOf u)) = xs[i]?) → xs.length = ts.length → cs.length = off + total l → flatDs (xs.map (·.1)) = cs.drop off
  | [], off, ts, h, _, fuel, cs, xs, hx, hxl, hl => by
    have h0 := shps_len [] off ts h
    have : xs = [] := by simpa using hxl.trans h0
    subst this
    simp [total] at hl
    simp [flatDs, hl]
  | (sz, s) :: l, off, [], h, _, fuel, cs, xs, hx, hxl, hl => by simp [ShpOKs] at h
  | (sz, s) :: l, off, (o, u) :: r, h, hf, fuel, cs, xs, hx, hxl, hl => by
    simp only [ShpOKs] at h
    obtain ⟨rfl, rfl, h3, h4⟩ := h
    simp only [total] at hl
    simp only [flatSs, Bool.and_eq_true] at hf
    cases xs with
    | nil => simp at hxl
    | cons y ys =>
      have hy := hx 0 o u rfl
      have k1 := flat_of_trod s u h3 hf.1 fuel _ y hy
      have k2 := flats_of_trod l (o + P.cellsOf u) r h4 hf.2 fuel cs ys (fun i o' u' hi => by have := hx (i + 1) o' u' (by simpa using hi); simpa using this) (by simpa using hxl) (by omega)
      simp only [List.map_cons, flatDs, k1, k2]
      rw [← List.drop_drop, List.take_append_drop]
end
end

end Go.Proofs.YtllmejkmogepjaaDoor.Ix
