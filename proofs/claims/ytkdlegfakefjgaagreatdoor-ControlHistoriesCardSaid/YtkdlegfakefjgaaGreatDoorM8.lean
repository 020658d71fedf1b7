/-
  Ix31: from a contract to a claim's own words: the arguments as data of given shapes, the call, the arguments as they were.
-/
import Derived.Test.YtkdlegfakefjgaaGreatDoorM7
import Derived.SizedLaws
import Derived.Carry
import Derived.Lib.LaidTab
import Derived.Shelf.LaysM
import Derived.Shelf.Strings.OnBuilder
import Derived.Shelf.Strconv.Itoa3
import Derived.Test.YtkdlegfakefjgaaGreatDoorProg
import Derived.Lib.Builder
import Derived.MakeChecks
import Derived.Test.YtkdlegfakefjgaaGreatDoorRows
import Derived.Test.YtkdlegfakefjgaaGreatDoorTie
import Derived.Test.YtkdlegfakefjgaaGreatDoorCards
import Derived.ProofKit
import Derived.OpenShut
import Derived.LaidMore
import Derived.Stop.Joined
import Derived.SevenTiedAt
namespace Go.Proofs.YtkdlegfakefjgaaGreatDoor.Ix
set_option linter.unusedVariables false

mutual
/-- Has the type 't' this shape? -/
def shpB (P : Program) : Shp → TypeId → Bool
  | .int k, t => match P.underlying t with
    | some (.int k') => decide (k' = k)
    | _ => false
  | .bool, t => match P.underlying t with
    | some .bool => true
    | _ => false
  | .str, t => match P.underlying t with
    | some .string => true
    | _ => false
  | .slice e s, t => match P.underlying t with
    | some (.slice u) => Nat.beq (P.cellsOf u) e && Nat.blt 0 e && shpB P s u
    | _ => false
  | .agg l, t => Nat.beq (P.cellsOf t) (total l) && match P.underlying t with
    | some (.struct fs) => shpsB P l 0 (fs.toList.map fun f => (f.offset, f.type))
    | some (.array n e) => shpsB P l 0 ((List.range n).map fun i => (i * P.cellsOf e, e))
    | _ => false
def shpsB (P : Program) : List (Nat × Shp) → Nat → List (Nat × TypeId) → Bool
  | [], _, [] => true
  | (sz, s) :: l, off, (o, u) :: r => Nat.beq o off && Nat.beq (P.cellsOf u) sz && shpB P s u && shpsB P l (off + sz) r
  | _, _, _ => false
end

mutual
theorem shp_ok {P : Program} : ∀ (s : Shp) (t : TypeId), shpB P s t = true → ShpOK P s t
  | .int k, t, h => by
    simp only [shpB] at h
    split at h
    · rename_i k' hk; simp at h; subst h; exact hk
    · cases h
  | .bool, t, h => by
    simp only [shpB] at h
    split at h
    · assumption
    · cases h
  | .str, t, h => by
    simp only [shpB] at h
    split at h
    · assumption
    · cases h
  | .slice e s, t, h => by
    simp only [shpB] at h
    split at h
    · rename_i u hu
      simp only [Bool.and_eq_true, beq_iff] at h
      exact ⟨u, hu, h.1.1, blt_lt h.1.2, shp_ok s u h.2⟩
    · cases h
  | .agg l, t, h => by
    simp only [shpB, Bool.and_eq_true, beq_iff] at h
    obtain ⟨h1, h2⟩ := h
    refine ⟨h1, ?_⟩
    split at h2
    · rename_i fs hf; exact .inl ⟨fs, hf, shps_ok l _ _ h2⟩
    · rename_i n e hf; exact .inr ⟨n, e, hf, shps_ok l _ _ h2⟩
    · cases h2
theorem shps_ok {P : Program} : ∀ (l : List (Nat × Shp)) (off : Nat) (ts : List (Nat × TypeId)), shpsB P l off ts = true → ShpOKs P l off ts
  | [], _, [], _ => trivial
  | [], _, _ :: _, h => by simp [shpsB] at h
  | (sz, s) :: l, off, [], h => by simp [shpsB] at h
  | (sz, s) :: l, off, (o, u) :: r, h => by
    simp only [shpsB, Bool.and_eq_true, beq_iff] at h
    exact ⟨h.1.1.1, h.1.1.2, shp_ok s u h.1.2, shps_ok l _ r h.2⟩
end

/-- A value of this shape. -/
def FitV : Shp → IV → Prop
  | .agg l, v => ∃ xs, v = .agg xs ∧ FitL l xs
  | s, v => Fit s [v]

section
variable {H : Type} {enc : TypeId × Value → H} {P : Program} {w : World} {held : Bool} {base : Nat}

theorem open_shp {r : Reach} {b0 : Nat} (s : Shp) (t : TypeId) (hs : ShpOK P s t) {v : Value} {d : DataW H} {p : List MemPlace} (hval : Value.okWide P w r b0 t v) (h : DataW.Trod enc P w 0 (fun _ => true) held t v d p) :
    ∃ x, FitV s x ∧ D (fun a => w.cell? a) x v := by
  obtain ⟨fuel, h⟩ := h
  obtain ⟨xs, h1, h2, h3⟩ := fit_of_trod s t hs fuel _ _ h
  have plain : v.cells = #[v] → (∃ x, xs = [x]) → ∃ x, xs = [x] ∧ D (fun a => w.cell? a) x v := fun e hx => by
    obtain ⟨x, rfl⟩ := hx
    refine ⟨x, rfl, ?_⟩
    have := (h3 0 x rfl).1
    rw [e] at this; exact this
  cases s with
  | agg l =>
    simp only [ShpOK] at hs
    have : ∃ cs, v = .agg cs := by
      unfold Value.okWide at hval
      obtain ⟨_, ⟨fs, hu, _⟩ | ⟨n, e, hu, _⟩⟩ := hs
      · rw [hu] at hval; exact ⟨_, hval.choose_spec.1⟩
      · rw [hu] at hval; exact ⟨_, hval.choose_spec.1⟩
    obtain ⟨cs, rfl⟩ := this
    refine ⟨.agg xs, ⟨xs, rfl, h1⟩, .agg xs cs (by simpa [Value.cells] using h2) (fun j u hu => ?_) (fun j x hx => ?_)⟩
    · have hlt : j < xs.length := by rw [h2]; simpa [Value.cells] using (Array.getElem?_eq_some_iff.1 hu).1
      have := (h3 j _ (List.getElem?_eq_getElem hlt)).2
      simp only [Value.cells, List.getD_eq_getElem?_getD, Array.getElem?_toList, hu] at this
      exact this
    · have := (h3 j x hx).1
      simp only [Value.cells, List.getD_eq_getElem?_getD, Array.getElem?_toList] at this
      rw [Array.getD_eq_getD_getElem?]; exact this
  | int k =>
    simp only [ShpOK] at hs
    obtain ⟨n, rfl, hw⟩ := h1
    obtain ⟨m, hm, _, _⟩ := DataW.trod_int hs h
    have e : v.cells = #[v] := by cases v <;> simp_all [Value.cells, Value.okWide, Cell.okWide, Cell.ok]
    obtain ⟨x, hx, hD⟩ := plain e ⟨_, rfl⟩
    cases hx
    exact ⟨_, ⟨n, rfl, hw⟩, hD⟩
  | bool =>
    simp only [ShpOK] at hs
    obtain ⟨n, rfl⟩ := h1
    have e : v.cells = #[v] := by cases v <;> simp_all [Value.cells, Value.okWide, Cell.okWide, Cell.ok]
    obtain ⟨x, hx, hD⟩ := plain e ⟨_, rfl⟩
    cases hx
    exact ⟨_, ⟨n, rfl⟩, hD⟩
  | str =>
    simp only [ShpOK] at hs
    obtain ⟨n, rfl, hn⟩ := h1
    have e : v.cells = #[v] := by cases v <;> simp_all [Value.cells, Value.okWide, Cell.okWide, Cell.ok]
    obtain ⟨x, hx, hD⟩ := plain e ⟨_, rfl⟩
    cases hx
    exact ⟨_, ⟨n, rfl, hn⟩, hD⟩
  | slice e s =>
    simp only [ShpOK] at hs
    obtain ⟨u, hu, _⟩ := hs
    obtain ⟨n, f, rfl, hn⟩ := h1
    have e : v.cells = #[v] := by cases v <;> simp_all [Value.cells, Value.okWide, Cell.okWide, Cell.ok]
    obtain ⟨x, hx, hD⟩ := plain e ⟨_, rfl⟩
    cases hx
    exact ⟨_, ⟨n, f, rfl, hn⟩, hD⟩

/-- All arguments. -/
theorem open_shps {r : Reach} {b0 : Nat} : ∀ (ss : List Shp) (ts : List TypeId) (vs : List Value) (ds : List (DataW H)) (p : List MemPlace), ss.length = ts.length → (∀ (j : Nat) s t, ss[j]? = some s → ts[j]? = some t → ShpOK P s t) →
    (∀ (j : Nat) t v, ts[j]? = some t → vs[j]? = some v → Value.okWide P w r b0 t v) → DataW.TrodAll enc P w 0 (fun _ => true) held ts vs ds p →
    ∃ xs : List IV, xs.length = vs.length ∧ vs.length = ss.length ∧ (∀ (j : Nat) s x, ss[j]? = some s → xs[j]? = some x → FitV s x) ∧ ∀ (j : Nat) x, xs[j]? = some x → D (fun a => w.cell? a) x (vs.getD j undef)
  | [], [], vs, ds, p, _, _, _, h => by
    cases vs <;> cases ds <;> simp [DataW.TrodAll] at h
    exact ⟨[], rfl, rfl, fun j s x h => by simp at h, fun j x h => by simp at h⟩
  | [], _ :: _, _, _, _, hl, _, _, _ => by simp at hl
  | _ :: _, [], _, _, _, hl, _, _, _ => by simp at hl
  | s :: ss, t :: ts, vs, ds, p, hl, hs, hv, h => by
    obtain ⟨v, vs', d, ds', p1, p2, rfl, rfl, rfl, h1, h2⟩ := Go.ChangeShapes.trodAll_cons h
    obtain ⟨x, g1, g2⟩ := open_shp s t (hs 0 s t rfl rfl) (hv 0 t v rfl rfl) h1
    obtain ⟨xs, k0, k1, k2, k3⟩ := open_shps ss ts vs' ds' p2 (by simpa using hl) (fun j s t a b => hs (j + 1) s t (by simpa using a) (by simpa using b)) (fun j t v a b => hv (j + 1) t v (by simpa using a) (by simpa using b)) h2
    refine ⟨x :: xs, by simp [k0], by simp [k1], fun j s' x' a b => ?_, fun j x' b => ?_⟩
    · cases j with
      | zero => simp at a b; subst a b; exact g1
      | succ j => exact k2 j s' x' (by simpa using a) (by simpa using b)
    · cases j with
      | zero => simp at b; subst b; simpa using g2
      | succ j => simpa using k3 j x' (by simpa using b)

theorem trodAll_len : ∀ (ts : List TypeId) (vs : List Value) (ds : List (DataW H)) (p : List MemPlace) {spare : Nat → Bool}, DataW.TrodAll enc P w base spare held ts vs ds p → ds.length = ts.length
  | [], vs, ds, p, _, h => by
    cases vs <;> cases ds <;> simp [DataW.TrodAll] at h
    rfl
  | t :: ts, vs, ds, p, _, h => by
    obtain ⟨v, vs', d, ds', p1, p2, rfl, rfl, rfl, h1, h2⟩ := Go.ChangeShapes.trodAll_cons h
    simp [trodAll_len ts vs' ds' p2 h2]

/-- What the call did not touch reads as it did. -/
theorem shut_all (hl : laidOutB P = true) {W W' : World} (hb : Go.RowKit.Below W.heap.size W W') : ∀ (ts : List TypeId) (vs : List Value) (ds : List (DataW H)) (p : List MemPlace), ts.all (fun t => P.readableRec t && Nat.blt t P.types.size) = true →
    DataW.TrodAll enc P W 0 (fun _ => true) true ts vs ds p → DataW.TrodAll enc P W' 0 (fun b => decide (b < W.heap.size)) true ts vs ds p
  | [], vs, ds, p, _, h => by
    cases vs <;> cases ds <;> simp [DataW.TrodAll] at h ⊢
    exact h
  | t :: ts, vs, ds, p, ht, h => by
    obtain ⟨v, vs', d, ds', p1, p2, rfl, rfl, rfl, h1, h2⟩ := Go.ChangeShapes.trodAll_cons h
    simp only [List.all_cons, Bool.and_eq_true] at ht
    have lt : ∀ x ∈ p1, x.block < W.heap.size := by
      obtain ⟨m, hm⟩ := h1; exact DataW.trod_lt m _ _ _ hm
    exact ⟨_, _, (Go.RowKit.Below.trod hl ht.1.1 (blt_lt ht.1.2) h1 hb lt), shut_all hl hb ts vs' ds' p2 ht.2 h2, rfl⟩
end

/-- A contract, in the words of a claim. -/
theorem Comp.runG {P : Program} {gl : Nat → IV} {g : Nat} {args : List IV} {r : IV} {up' : List Ces} (h : Comp P gl g [] args r up') {vals : Array Value} {W : World} (hg : ∀ g, D (fun a => W.cell? a) (gl g) (.pointer (some ⟨g, 0, none⟩))) (hz : Gsz gl W) (hl : args.length = vals.size)
    (ha : ∀ (j : Nat) x, args[j]? = some x → D (fun a => W.cell? a) x (vals.getD j undef)) :
    Calls P g vals W fun e W' => ∃ v, e = .returned v ∧ (∃ I s, V I (under fun _ _ => none) s r v) ∧ Go.RowKit.Below W.heap.size W W' := by
  have hm : MemR gl [] W (fun a => W.cell? a) (fun b => b < W.heap.size) (fun _ _ => none) (fun _ => noSig) := by
    refine ⟨fun l d c hc => ?_, fun l d l' d' b h1 => (by cases h1), fun l d b h1 => (by cases h1), fun a v h => h, hg, fun b h => h, hz⟩
    simp [upC, lookC] at hc
  refine (h.2 vals W (fun a => W.cell? a) (fun b => b < W.heap.size) (fun _ _ => none) (fun _ => noSig) hm hl (fun j x hx => .data (ha j x hx))).mono fun e W' hh => ?_
  obtain ⟨v, I', s, e1, e2, _, _, e5⟩ := hh
  exact ⟨v, e1, ⟨I', s, e2⟩, ⟨e5.os, e5.tape, e5.output, e5.size, fun k hk => e5.keep k hk⟩⟩

theorem Comp.run {P : Program} {g : Nat} {args : List IV} {r : IV} {up' : List Ces} (h : Comp P (fun _ => .dead) g [] args r up') {vals : Array Value} {W : World} (hl : args.length = vals.size)
    (ha : ∀ (j : Nat) x, args[j]? = some x → D (fun a => W.cell? a) x (vals.getD j undef)) :
    Calls P g vals W fun e W' => ∃ v, e = .returned v ∧ (∃ I s, V I (under fun _ _ => none) s r v) ∧ Go.RowKit.Below W.heap.size W W' := h.runG (fun _ => .dead _) (fun _ _ _ _ _ _ h => by cases h) hl ha

/-! ### Tables of numbers: what a datum says of the cells -/
mutual
def flatD {H : Type} : DataW H → List Value
  | .lit (.int k n) => [.int k n]
  | .lit (.string bs) => [.string ⟨bs.toArray⟩]
  | .agg parts => flatDs parts
  | _ => []
def flatDs {H : Type} : List (DataW H) → List Value
  | [] => []
  | d :: r => flatD d ++ flatDs r
end
mutual
def flatS : Shp → Bool
  | .int _ => true
  | .str => true
  | .agg l => flatSs l
  | _ => false
def flatSs : List (Nat × Shp) → Bool
  | [] => true
  | (_, s) :: r => flatS s && flatSs r
end

section
variable {H : Type} {enc : TypeId × Value → H} {P : Program} {w : World} {held : Bool} {spare : Nat → Bool}

theorem shps_len : ∀ (l : List (Nat × Shp)) (off : Nat) (ts : List (Nat × TypeId)), ShpOKs P l off ts → ts.length = l.length
  | [], off, [], h => rfl
  | [], off, _ :: _, h => by simp [ShpOKs] at h
  | (sz, s) :: l, off, [], h => by simp [ShpOKs] at h
  | (sz, s) :: l, off, (o, u) :: r, h => by
    simp only [ShpOKs] at h
    simp [shps_len l _ r h.2.2.2]

mutual
theorem flat_of_trod : ∀ (s : Shp) (t : TypeId), ShpOK P s t → flatS s = true → ∀ (fuel : Nat) (cs : List Value) (x : DataW H × List MemPlace), DataW.trod enc P w 0 spare held fuel t cs = some x → flatD x.1 = cs
  | .int k, t, ht, _, fuel, cs, x, h => by
    simp only [ShpOK] at ht
    obtain ⟨n, rfl, rfl, hw⟩ := DataW.trod_int ht h
    rfl
  | .bool, t, ht, hf, fuel, cs, x, h => by simp [flatS] at hf
  | .str, t, ht, hf, fuel, cs, x, h => by
    simp only [ShpOK] at ht
    obtain ⟨s, rfl, rfl, hs⟩ := DataW.trod_string ht h
    simp [flatD]
  | .slice e s, t, ht, hf, fuel, cs, x, h => by simp [flatS] at hf
  | .agg l, t, ht, hf, fuel, cs, x, h => by
    simp only [ShpOK] at ht
    simp only [flatS] at hf
    obtain ⟨hsz, ⟨fs, hu, hfs⟩ | ⟨n, e, hu, hfs⟩⟩ := ht
    · obtain ⟨ys, n, _, rfl, hcl, hyl, hy⟩ := DataW.trod_struct hu h
      have hlen := shps_len l 0 _ hfs
      simp only [List.length_map, Array.length_toList] at hlen
      have := flats_of_trod l 0 _ hfs hf n cs ys (fun i o u hi => by
        simp only [List.getElem?_map, Option.map_eq_some_iff] at hi
        obtain ⟨f, hf, e⟩ := hi
        simp only [Prod.mk.injEq] at e
        obtain ⟨rfl, rfl⟩ := e
        exact hy i f (by simpa using hf)) (by simp [hyl]) (by omega)
      simpa [flatD] using this
    · obtain ⟨ys, m, _, rfl, hcl, hyl, hy⟩ := DataW.trod_array hu h
      have := flats_of_trod l 0 _ hfs hf m cs ys (fun i o u hi => by
        simp only [List.getElem?_map, Option.map_eq_some_iff] at hi
        obtain ⟨f, hf, e⟩ := hi
        simp only [Prod.mk.injEq] at e
        obtain ⟨rfl, rfl⟩ := e
        obtain ⟨hlt, rfl⟩ := List.getElem?_eq_some_iff.1 hf
        simp at hlt ⊢
        exact hy i hlt) (by simp [hyl]) (by omega)
      simpa [flatD] using this
theorem flats_of_trod : ∀ (l : List (Nat × Shp)) (off : Nat) (ts : List (Nat × TypeId)), ShpOKs P l off ts → flatSs l = true → ∀ (fuel : Nat) (cs : List Value) (xs : List (DataW H × List MemPlace)),
    (∀ (i : Nat) o u, ts[i]? = some (o, u) → DataW.trod enc P w 0 spare held fuel u ((cs.drop o).take (P.cellsOf u)) = xs[i]?) → xs.length = ts.length → cs.length = off + total l → flatDs (xs.map (·.1)) = cs.drop off
  | [], off, ts, h, _, fuel, cs, xs, hx, hxl, hl => by
    have h0 := shps_len [] off ts h
    have : xs = [] := by simpa using hxl.trans h0
    subst this
    simp [total] at hl
    simp [flatDs, hl]
  | (sz, s) :: l, off, [], h, _, fuel, cs, xs, hx, hxl, hl => by simp [ShpOKs] at h
  | (sz, s) :: l, off, (o, u) :: r, h, hf, fuel, cs, xs, hx, hxl, hl => by
    simp only [ShpOKs] at h
    obtain ⟨rfl, rfl, h3, h4⟩ := h
    simp only [total] at hl
    simp only [flatSs, Bool.and_eq_true] at hf
    cases xs with
    | nil => simp at hxl
    | cons y ys =>
      have hy := hx 0 o u rfl
      have k1 := flat_of_trod s u h3 hf.1 fuel _ y hy
      have k2 := flats_of_trod l (o + P.cellsOf u) r h4 hf.2 fuel cs ys (fun i o' u' hi => by have := hx (i + 1) o' u' (by simpa using hi); simpa using this) (by simpa using hxl) (by omega)
      simp only [List.map_cons, flatDs, k1, k2]
      rw [← List.drop_drop, List.take_append_drop]
end
end

end Go.Proofs.YtkdlegfakefjgaaGreatDoor.Ix

/-
  Ix32: a contract of the library, told of the memory below the heap's end, as a contract here; a table among the variables.
-/
namespace Go.Proofs.YtkdlegfakefjgaaGreatDoor.Ix
set_option linter.unusedVariables false

theorem Below_cells {w w' : World} (h : Go.RowKit.Below w.heap.size w w') {k : Nat} {o : Obj} (hk : w.heap[k]? = some o) : w'.heap[k]? = some o := by
  rw [h.block k (heap_lt hk)]; exact hk

theorem MemR.below {gl : Nat → IV} {cs : List Ces} {w w' : World} {I : Imm} {X : Nat → Prop} {β : Beta} {σ : Nat → Sig} (m : MemR gl cs w I X β σ) (h : Go.RowKit.Below w.heap.size w w') : MemR gl cs w' I X β σ := by
  refine ⟨fun l d c hc => ?_, m.inj, m.keys, fun x v hx => ?_, m.glo, fun b hb => Nat.lt_of_lt_of_le (m.xb b hb) h.size, m.gz.of fun g arr el mm hg => ⟨arr, el, mm, Below_cells h hg, rfl⟩⟩
  · obtain ⟨b, arr, el, h1, h2, h3⟩ := m.cell l d c hc
    exact ⟨b, arr, el, h1, Below_cells h h2, h3⟩
  · have h1 := m.im x v hx
    rw [World.cell?_of_block (h.block x.block (World.block_lt_of_cell? w _ h1))]; exact h1

theorem comp_of_below {P : Program} {gl : Nat → IV} {g : Nat} {up : List Ces} {args : List IV} {r : IV} {fn : Func} {c : Code} (hf : P.funcs[g]? = some fn) (hb : fn.body = some c) (hn : (fn.name == "runtime.NumGoroutine") = false)
    (h : ∀ (vals : Array Value) (w : World) (I : Imm) (X : Nat → Prop) (β : Beta) (σ : Nat → Sig), MemR gl up w I X β σ → args.length = vals.size →
      (∀ (j : Nat) x, args[j]? = some x → V I (under β) noSig x (vals.getD j undef)) → Calls P g vals w fun e w' => ∃ v, e = .returned v ∧ D I r v ∧ Go.RowKit.Below w.heap.size w w') : Comp P gl g up args r up := by
  refine ⟨⟨fn, c, hf, hb, hn⟩, fun vals w I X β σ m hl ha => (h vals w I X β σ m hl ha).mono ?_⟩
  rintro e w' ⟨v, he, hd, bel⟩
  exact ⟨v, I, noSig, he, .data hd, ⟨fun t g h => (by cases h), fun t t' g g' h => (by cases h)⟩, m.below bel,
    ⟨bel.os, bel.tape, bel.output, bel.size, fun b hb => bel.block b (m.xb b hb), fun _ _ h => h, fun _ _ => rfl, fun k o hk _ => Below_cells bel hk⟩⟩

theorem noSig_str {I : Imm} {β : Beta} {s : ByteArray} {v : Value} (h : V I β noSig (.str s) v) : v = .string s := by
  cases h with
  | data h => cases h; rfl

theorem noSig_int {I : Imm} {β : Beta} {k : IntKind} {n : Int} {v : Value} (h : V I β noSig (.int k n) v) : v = .int k n := by
  cases h with
  | data h => cases h; rfl

/-- A list of strings that came in. -/
theorem noSig_strs {I : Imm} {β : Beta} {n : Nat} {f : Nat → List IV} (s : Nat → ByteArray) (hf : ∀ i, i < n → f i = [.str (s i)]) {v : Value} (h : V I β noSig (.lst none 1 n f) v) :
    (n = 0 ∧ ∃ p, v = .slice p 0 0) ∨ ∃ b o c, v = .slice (some ⟨b, o, none⟩) n c ∧ n ≤ c ∧ ∀ i, i < n → I ⟨b, o + i, none⟩ = some (.string (s i)) := by
  cases h with
  | data h =>
    cases h with
    | lstN e f => exact .inl ⟨rfl, _, rfl⟩
    | lst e n f b off c g hc hl hI h1 h =>
      refine .inr ⟨b, off, c, rfl, hc, fun i hi => ?_⟩
      have hd := h i 0 _ hi (by rw [hf i hi]; rfl)
      have hs : g i 0 = .string (s i) := by generalize g i 0 = u at hd; cases hd; rfl
      have := hI i 0 hi (by decide)
      rw [hs] at this
      simpa using this

/-- A variable that is told as a row of integers is that table. -/
theorem tab_of {P : Program} {gl : Nat → IV} {cs : List Ces} {w : World} {I : Imm} {X : Nat → Prop} {β : Beta} {σ : Nat → Sig} (m : MemR gl cs w I X β σ) {name : String} {g : Nat} {k : IntKind} {zs : List Int} (hg : P.globalNamed name = some g)
    (h : gl g = .vptr zs.length 1 (fun _ => zs.map fun z => .int k z) 0 0) (hz : 0 < zs.length) : Go.Lib.TabIs P w name k zs := by
  obtain ⟨arr, el, mm, h1, h2⟩ := m.gz g _ _ _ _ _ h (by decide) hz
  have hd := m.glo g
  rw [h] at hd
  generalize hv : Value.pointer (some ⟨g, 0, none⟩) = v at hd
  cases hd with
  | vptr e n f i j b off gg hi hl hI h1' hD =>
    simp at hv
    obtain ⟨rfl, hoff⟩ := hv
    subst hoff
    unfold Go.Lib.TabIs World.var?
    rw [hg]
    simp only [Option.bind_some, h1]
    congr 1
    apply Array.ext
    · simp [h2]
    · intro j hj hj'
      have hj2 : j < zs.length := by simpa using hj'
      have hx := m.im _ _ (hI 0 j (by decide) hj2)
      have hd := hD 0 j (.int k zs[j]) (by decide) (by simp [hj2])
      have hs : gg 0 j = .int k zs[j] := by generalize gg 0 j = u at hd; cases hd; rfl
      rw [hs] at hx
      simp [World.cell?, h1] at hx
      rw [Array.getElem?_eq_getElem hj] at hx
      simpa using hx
end Go.Proofs.YtkdlegfakefjgaaGreatDoor.Ix

/- The shelf's contracts at this seat, laid in plain words. Written by shelf.py. -/
namespace Go.Proofs.YtkdlegfakefjgaaGreatDoor.Ix
open Go.Proofs Go.Shelf
def laysItoa_ren : Go.Shelf.Ren := ⟨fun | 171 => 108 | 243 => 133 | 246 => 150 | 283 => 157 | 284 => 158 | 285 => 159 | 286 => 160 | 129 => 167 | 317 => 166 | 318 => 168 | 319 => 169 | 320 => 170 | 337 => 175 | 338 => 176 | n => n, fun | 3 => 3 | 9 => 9 | 2 => 2 | 4 => 4 | 171 => 223 | 0 => 0 | 53 => 224 | 37 => 63 | 5 => 5 | 173 => 227 | 212 => 233 | 51 => 234 | 20 => 20 | 213 => 235 | 46 => 213 | 232 => 241 | 233 => 242 | n => n, fun | 17 => 1 | 18 => 3 | 19 => 4 | n => n⟩
theorem laysItoa : Go.Proofs.LaysM.n171 Tryz.prog laysItoa_ren := {
  mixed := by kernel_rfl
  f129 := Tryz.func167.trans (congrArg some (by kernel_rfl))
  f171 := Tryz.func108.trans (congrArg some (by kernel_rfl))
  f243 := Tryz.func133.trans (congrArg some (by kernel_rfl))
  f246 := Tryz.func150.trans (congrArg some (by kernel_rfl))
  f283 := Tryz.func157.trans (congrArg some (by kernel_rfl))
  f284 := Tryz.func158.trans (congrArg some (by kernel_rfl))
  f285 := Tryz.func159.trans (congrArg some (by kernel_rfl))
  f286 := Tryz.func160.trans (congrArg some (by kernel_rfl))
  f317 := Tryz.func166.trans (congrArg some (by kernel_rfl))
  f318 := Tryz.func168.trans (congrArg some (by kernel_rfl))
  f319 := Tryz.func169.trans (congrArg some (by kernel_rfl))
  f320 := Tryz.func170.trans (congrArg some (by kernel_rfl))
  f337 := Tryz.func175.trans (congrArg some (by kernel_rfl))
  f338 := Tryz.func176.trans (congrArg some (by kernel_rfl))
  t0 := Tryz.underlying0
  a0 := Tryz.isAgg0
  z0 := Tryz.sizeOf0
  v0 := Tryz.zeroValue0
  t2 := Tryz.underlying2
  a2 := Tryz.isAgg2
  z2 := Tryz.sizeOf2
  v2 := Tryz.zeroValue2
  t3 := Tryz.underlying3
  a3 := Tryz.isAgg3
  z3 := Tryz.sizeOf3
  v3 := Tryz.zeroValue3
  t4 := Tryz.underlying4
  a4 := Tryz.isAgg4
  z4 := Tryz.sizeOf4
  v4 := Tryz.zeroValue4
  t5 := Tryz.underlying5
  a5 := Tryz.isAgg5
  z5 := Tryz.sizeOf5
  v5 := Tryz.zeroValue5
  t9 := Tryz.underlying9
  a9 := Tryz.isAgg9
  z9 := Tryz.sizeOf9
  v9 := Tryz.zeroValue9
  t20 := Tryz.underlying20
  a20 := Tryz.isAgg20
  z20 := Tryz.sizeOf20
  v20 := Tryz.zeroValue20
  t37 := Tryz.underlying63
  a37 := Tryz.isAgg63
  z37 := Tryz.sizeOf63
  v37 := Tryz.zeroValue63
  t46 := Tryz.underlying213
  a46 := Tryz.isAgg213
  z46 := Tryz.sizeOf213
  v46 := Tryz.zeroValue213
  t51 := Tryz.underlying234
  a51 := Tryz.isAgg234
  z51 := Tryz.sizeOf234
  v51 := Tryz.zeroValue234
  t53 := Tryz.underlying224
  a53 := Tryz.isAgg224
  z53 := Tryz.sizeOf224
  v53 := Tryz.zeroValue224
  t171 := Tryz.underlying223
  a171 := Tryz.isAgg223
  z171 := Tryz.sizeOf223
  v171 := Tryz.zeroValue223
  t173 := Tryz.underlying227
  a173 := Tryz.isAgg227
  z173 := Tryz.sizeOf227
  v173 := Tryz.zeroValue227
  t212 := Tryz.underlying233
  a212 := Tryz.isAgg233
  z212 := Tryz.sizeOf233
  v212 := Tryz.zeroValue233
  t213 := Tryz.underlying235
  a213 := Tryz.isAgg235
  z213 := Tryz.sizeOf235
  t232 := Tryz.underlying241
  a232 := Tryz.isAgg241
  z232 := Tryz.sizeOf241
  v232 := Tryz.zeroValue241
  t233 := Tryz.underlying242
  a233 := Tryz.isAgg242
  z233 := Tryz.sizeOf242
  v233 := Tryz.zeroValue242
  g17 := by kernel_rfl
  g18 := by kernel_rfl
  g19 := by kernel_rfl
  i0 := by kernel_rfl
  i2 := by kernel_rfl
  i3 := by kernel_rfl
  i4 := by kernel_rfl
  i5 := by kernel_rfl
  i9 := by kernel_rfl
  i20 := by kernel_rfl
  i37 := by kernel_rfl
  i46 := by kernel_rfl
  i51 := by kernel_rfl
  i53 := by kernel_rfl
  i171 := by kernel_rfl
  i173 := by kernel_rfl
  i212 := by kernel_rfl
  i232 := by kernel_rfl
  i233 := by kernel_rfl
  m17 := by kernel_rfl
  m18 := by kernel_rfl
  m19 := by kernel_rfl }

def laysJoin_ren : Go.Shelf.Ren := ⟨fun | 156 => 110 | 165 => 135 | 166 => 109 | 169 => 111 | 240 => 134 | 241 => 152 | 276 => 151 | 277 => 161 | n => n, fun | 31 => 86 | 9 => 9 | 3 => 3 | 4 => 4 | 0 => 0 | 20 => 20 | 72 => 168 | 76 => 173 | 70 => 166 | 37 => 63 | 75 => 172 | 127 => 206 | 164 => 219 | 5 => 5 | 80 => 176 | n => n, fun | n => n⟩
theorem laysJoin : Go.Proofs.Lays.n156 Tryz.prog laysJoin_ren := {
  mixed := by kernel_rfl
  f156 := Tryz.func110.trans (congrArg some (by kernel_rfl))
  f165 := Tryz.func135.trans (congrArg some (by kernel_rfl))
  f166 := Tryz.func109.trans (congrArg some (by kernel_rfl))
  f169 := Tryz.func111.trans (congrArg some (by kernel_rfl))
  f240 := Tryz.func134.trans (congrArg some (by kernel_rfl))
  f241 := Tryz.func152.trans (congrArg some (by kernel_rfl))
  f276 := Tryz.func151.trans (congrArg some (by kernel_rfl))
  f277 := Tryz.func161.trans (congrArg some (by kernel_rfl))
  t0 := Tryz.underlying0
  a0 := Tryz.isAgg0
  z0 := Tryz.sizeOf0
  v0 := Tryz.zeroValue0
  t3 := Tryz.underlying3
  a3 := Tryz.isAgg3
  z3 := Tryz.sizeOf3
  v3 := Tryz.zeroValue3
  t4 := Tryz.underlying4
  a4 := Tryz.isAgg4
  z4 := Tryz.sizeOf4
  v4 := Tryz.zeroValue4
  t9 := Tryz.underlying9
  a9 := Tryz.isAgg9
  z9 := Tryz.sizeOf9
  v9 := Tryz.zeroValue9
  t20 := Tryz.underlying20
  a20 := Tryz.isAgg20
  z20 := Tryz.sizeOf20
  v20 := Tryz.zeroValue20
  t31 := Tryz.underlying86
  a31 := Tryz.isAgg86
  z31 := Tryz.sizeOf86
  v31 := Tryz.zeroValue86
  t37 := Tryz.underlying63
  a37 := Tryz.isAgg63
  z37 := Tryz.sizeOf63
  v37 := Tryz.zeroValue63
  t70 := Tryz.underlying166
  a70 := Tryz.isAgg166
  z70 := Tryz.sizeOf166
  v70 := Tryz.zeroValue166
  t72 := Tryz.underlying168
  a72 := Tryz.isAgg168
  z72 := Tryz.sizeOf168
  v72 := Tryz.zeroValue168
  t75 := Tryz.underlying172
  a75 := Tryz.isAgg172
  z75 := Tryz.sizeOf172
  v75 := Tryz.zeroValue172
  t76 := Tryz.underlying173
  a76 := Tryz.isAgg173
  z76 := Tryz.sizeOf173
  v76 := Tryz.zeroValue173
  t127 := Tryz.underlying206
  a127 := Tryz.isAgg206
  z127 := Tryz.sizeOf206
  v127 := Tryz.zeroValue206
  t164 := Tryz.underlying219
  a164 := Tryz.isAgg219
  z164 := Tryz.sizeOf219
  v164 := Tryz.zeroValue219 }

theorem extraJoin : Builder.Extra Tryz.prog laysJoin_ren := {
  sizeBuilder := by kernel_rfl
  liesBuilder := by kernel_rfl
  t5 := Tryz.underlying5
  a5 := Tryz.isAgg5
  z5 := Tryz.sizeOf5
  v5 := Tryz.zeroValue5
  infoByte := by kernel_rfl
  cellsByte := by kernel_rfl
  sizeByte := by kernel_rfl
  neB5 := by decide }
end Go.Proofs.YtkdlegfakefjgaaGreatDoor.Ix

/-
  Cs1: texts at the seats of the package control: numerals and joined strings out of the library, the errors of acts by themselves.
-/
namespace Go.Proofs.YtkdlegfakefjgaaGreatDoor.Ix
open Go.Proofs
set_option maxRecDepth 100000
set_option linter.unusedVariables false
set_option linter.unusedSimpArgs false
variable {gl : Nat → IV}

/-- The table of the powers of ten, as it lies. -/
noncomputable abbrev powI : IV := .vptr Go.Lib.pow10Tab.length 1 (fun _ => Go.Lib.pow10Tab.map fun z => .int .u64 z) 0 0
theorem gPow : prog.globalNamed "internal/strconv.uint64pow10" = some g_internal_strconv_uint64pow10 := by kernel_rfl

theorem one_arg {vals : Array Value} (h : 1 = vals.size) : ∃ v, vals = #[v] := by
  rcases vals with ⟨l⟩
  match l, h with
  | [v], _ => exact ⟨v, rfl⟩
theorem two_args {vals : Array Value} (h : 2 = vals.size) : ∃ v u, vals = #[v, u] := by
  rcases vals with ⟨l⟩
  match l, h with
  | [v, u], _ => exact ⟨v, u, rfl⟩

theorem c_Itoa (up : List Ces) (hg : gl g_internal_strconv_uint64pow10 = powI) (n : Int) (hn : i64 n) : Cs gl n_strconv_Itoa up [.int .i64 n] (.str (bytesS (Go.Lib.itoa n))) up := by
  refine comp_of_below h_strconv_Itoa rfl rfl fun vals w I X β σ m hl ha => ?_
  obtain ⟨v, rfl⟩ := one_arg hl
  have hv := noSig_int (ha 0 _ rfl)
  have hv : v = .int .i64 n := hv
  subst hv
  refine (Any.strconv_Itoa laysItoa n hn.1 hn.2 w (tab_of m gPow hg (by rw [Go.Lib.pow10Tab_length]; decide))).mono ?_
  rintro e w' ⟨rfl, k, os, rfl⟩
  refine ⟨_, rfl, .str _, rfl, rfl, rfl, by simp [Go.Sort.grow, World.drewN], fun k hk => ?_⟩
  simp only [Go.Sort.grow, World.drewN]
  rw [Array.getElem?_append_left hk]

theorem c_Join (up : List Ces) (n : Nat) (f : Nat → List IV) (s : Nat → List UInt8) (sep : List UInt8) (hf : ∀ i, i < n → f i = [.str (bytesS (s i))]) (hn : n ≤ 1000000) (hl : (Go.Lib.join ((List.range n).map s) sep).length ≤ 140737488355328) :
    Cs gl n_strings_Join up [.lst none 1 n f, .str (bytesS sep)] (.str (bytesS (Go.Lib.join ((List.range n).map s) sep))) up := by
  refine comp_of_below h_strings_Join rfl rfl fun vals w I X β σ m hlen ha => ?_
  obtain ⟨v, u, rfl⟩ := two_args hlen
  have hu : u = .string (bytesS sep) := noSig_str (ha 1 _ rfl)
  subst hu
  rcases noSig_strs (fun i => bytesS (s i)) hf (ha 0 _ rfl) with ⟨rfl, p, hv⟩ | ⟨b, o, c, hv, hc, hI⟩
  · have hv : v = .slice p 0 0 := hv
    subst hv
    refine (Any.strings_Join_none laysJoin extraJoin p 0 (bytesS sep) w).mono ?_
    rintro e w' ⟨rfl, rfl⟩
    exact ⟨_, rfl, .str _, Go.RowKit.Below.refl _ _⟩
  · have hv : v = .slice (some ⟨b, o, none⟩) n c := hv
    subst hv
    by_cases h0 : n = 0
    · subst h0
      refine (Any.strings_Join_none laysJoin extraJoin (some ⟨b, o, none⟩) c (bytesS sep) w).mono ?_
      rintro e w' ⟨rfl, rfl⟩
      exact ⟨_, rfl, .str _, Go.RowKit.Below.refl _ _⟩
    · have hcell : ∀ (j : Nat) x, ((List.range n).map fun i => bytesS (s i))[j]? = some x → w.cell? ⟨b, o + j, none⟩ = some (.string x) := fun j x hx => by
        rw [List.getElem?_map] at hx
        by_cases hj : j < n
        · rw [List.getElem?_range hj] at hx
          cases hx
          exact m.im _ _ (hI j hj)
        · rw [List.getElem?_eq_none (by simp; omega)] at hx; cases hx
      have e : ((List.range n).map fun i => bytesS (s i)).map (fun x => x.data.toList) = (List.range n).map s := by
        rw [List.map_map]
        exact List.map_congr_left fun i _ => bytesS_data (s i)
      have hb : b < w.heap.size := World.block_lt_of_cell? w _ (m.im _ _ (hI 0 (by omega)))
      have hJ := Any.strings_Join laysJoin extraJoin b o c ((List.range n).map fun i => bytesS (s i)) (bytesS sep) w hcell hb (by simp; omega) (by simpa using hc) (by rw [e, bytesS_data]; exact hl)
      rw [e, bytesS_data] at hJ
      have hsz : ((List.range n).map fun i => bytesS (s i)).length = n := by simp
      rw [hsz] at hJ
      refine hJ.mono ?_
      rintro e w' ⟨rfl, bel⟩
      exact ⟨_, rfl, .str _, bel⟩

theorem c_mappedS (up : List Ces) (n : Nat) (hn : n ≤ 1000000) (f : Nat → Int) (φ : Nat → ByteArray) (k : Nat) (hk : ∀ up i, i < n → Cs gl k up [.int .i64 (f i)] (.str (φ i)) up) :
    Cs gl n_control_mapped_int_string up [.lst none 1 n fun i => [.int .i64 (f i)], .fn k [] []] (.lst (some 19) 1 n fun i => [.str (φ i)]) up := by
  refine mk h_control_mapped_int_string rfl rfl ?_
  conv => whnf
  refine .mk (α := {i : Nat // i ≤ n}) (fun i => ⟨[(10, .int .i64 i.1), (9, .int .i64 n), (8, .lst none 1 n fun i => [.int .i64 (f i)]), (5, .lst (some 19) 1 i.1 fun i => [.str (φ i)]), (1, .fn k [] [])], [], up⟩) (fun i => n - i.1) ⟨0, Nat.zero_le _⟩ ⟨?_, trivial, rfl, rfl⟩ ?_
  · exact ⟨leV_refl _, leV_refl _, leV_refl _, rfl, leV_refl _, trivial⟩
  · rintro ⟨i, hi⟩
    conv => whnf
    split
    · rename_i hb
      have hlt : i < n := by simpa using hb
      conv => whnf
      split
      · conv => whnf
        refine .mk _ _ _ _ _ (leL_refl _) (hk _ i hlt) rfl ?_
        conv => whnf
        split
        · conv => whnf
          refine ⟨⟨i + 1, hlt⟩, ⟨?_, trivial, rfl, rfl⟩, ?_⟩
          · have hw : IntKind.i64.wrap ((i : Int) + 1) = ((i + 1 : Nat) : Int) := by
              rw [wrap_in] <;> omega
            refine ⟨leV_int hw, leV_refl _, leV_refl _, ⟨.inr rfl, rfl, rfl, fun j hj => ?_⟩, leV_refl _, trivial⟩
            show (if j < i then [IV.str (φ j)] else litF 1 [.str (φ i)] (j - i)) = [IV.str (φ j)]
            split
            · rfl
            · have : j = i := by have : j < i + 1 := hj; omega
              subst this; rw [Nat.sub_self]; rfl
          · show n - (i + 1) < n - i
            omega
        · rename_i h2
          have h2' : decide (i + 1 ≤ 1073741824) = false := h2
          simp at h2'; omega
      · rename_i h2; rw [hb] at h2; cases h2
    · rename_i hb
      have : i = n := by simp at hb; omega
      subst this
      conv => whnf
      exact ⟨rfl, rfl⟩


/-! Acts by themselves. -/
theorem c_printable1 (up : List Ces) (hk : gl g_control_kinds = kindsI) (a : Ac) : Cs gl n_control_printable_1 up [a.iv] (.int .i64 (a.checkE 100 100 100)) up := by
  refine mk h_control_printable_1 rfl rfl ?_
  have h := fun up => c_check (gl := gl) up hk a 100 100 100
  conv => whnf
  repeat first
    | (refine DRAW.seek ?_; repeat (first | refine TRYD.take ?_ | refine TRYD.next ?_); conv => whnf)
    | (refine HOLD.mk (by first | exact trivial | exact ⟨⟨rfl, rfl⟩, trivial⟩ | exact ⟨⟨rfl, rfl⟩, ⟨rfl, rfl⟩, trivial⟩) ?_; (conv => whnf))
    | (refine CALL0.by (h ..) rfl ?_; conv => whnf)
    | (refine CALLQ.mk _ _ _ (leL_refl _) (h ..) rfl ?_; conv => whnf)
  exact ⟨rfl, rfl⟩

theorem c_mappedA (up : List Ces) (hk : gl g_control_kinds = kindsI) (n : Nat) (hn : n ≤ 10000000) (l : Nat → Ac) :
    Cs gl n_control_mapped_control_Act_api_Errno up [.lst none 5 n fun i => (l i).cs, .fn n_control_printable_1 [] []] (.lst (some 19) 1 n fun i => [.int .i64 ((l i).checkE 100 100 100)]) up := by
  refine mk h_control_mapped_control_Act_api_Errno rfl rfl ?_
  let F : Nat → List IV := fun i => [.int .i64 ((l i).checkE 100 100 100)]
  have hp := fun up i => c_printable1 (gl := gl) up hk (l i)
  conv => whnf
  refine .mk (α := {i : Nat // i ≤ n}) (fun i => ⟨[(10, .int .i64 i.1), (9, .int .i64 n), (8, .lst none 5 n fun i => (l i).cs), (5, .lst (some 19) 1 i.1 F), (1, .fn n_control_printable_1 [] [])], [], up⟩) (fun i => n - i.1) ⟨0, Nat.zero_le _⟩ ⟨?_, ?_, rfl, rfl⟩ ?_
  · exact ⟨leV_refl _, leV_refl _, leV_refl _, rfl, leV_refl _, trivial⟩
  · trivial
  rintro ⟨i, hi⟩
  have hw : w64 ((i : Int) + 1) = ((i + 1 : Nat) : Int) := by rw [w64, wrap_in] <;> omega
  by_cases hlt : i < n
  · have q : decide ((i : Int) < n) = true := decide_eq_true (by omega)
    have hp := fun up => hp up i
    conv => whnf
    split
    rotate_left
    · rename_i h
      exact Bool.noConfusion ((q).symm.trans h)
    rename_i hN
    clear hN
    conv => whnf
    split
    rotate_left
    · rename_i h
      exact Bool.noConfusion ((q).symm.trans h)
    rename_i hN
    clear hN
    conv => whnf
    repeat first
      | (refine DRAW.seek ?_; repeat (first | refine TRYD.take ?_ | refine TRYD.next ?_); conv => whnf)
      | (refine HOLD.mk (by first | exact trivial | exact ⟨⟨rfl, rfl⟩, trivial⟩ | exact ⟨⟨rfl, rfl⟩, ⟨rfl, rfl⟩, trivial⟩) ?_; (conv => whnf))
      | (refine CALL0.by (hp ..) rfl ?_; conv => whnf)
      | (refine CALLQ.mk _ _ _ (leL_refl _) (hp ..) rfl ?_; conv => whnf)
    split
    rotate_left
    · rename_i h
      have h' : decide (i + 1 ≤ 1073741824) = false := h
      simp at h' <;> omega
    conv => whnf
    refine ⟨⟨i + 1, hlt⟩, ⟨⟨leV_int hw, leV_refl _, leV_refl _, ⟨.inr rfl, rfl, rfl, fun j hj => ?_⟩, leV_refl _, trivial⟩, trivial, rfl, rfl⟩, (by show n - (i + 1) < n - i; omega)⟩
    show (if j < i then F j else litF 1 (F i) (j - i)) = F j
    split
    · rfl
    · have : j = i := by have : j < i + 1 := hj; omega
      subst this; rw [Nat.sub_self]; rfl
  · have q : decide ((i : Int) < n) = false := decide_eq_false (by omega)
    have e : i = n := by omega
    subst e
    conv => whnf
    split
    · rename_i h
      exact Bool.noConfusion ((q).symm.trans h)
    rename_i hN
    clear hN
    conv => whnf
    exact ⟨rfl, rfl⟩

/-- The error of acts by themselves. -/
def actsE (n : Nat) (l : Nat → Ac) : Int := bif decide ((n : Int) > 1024) then 5 else firstS (fun i => (l i).checkE 100 100 100) n 0

theorem c_printable (up : List Ces) (hk : gl g_control_kinds = kindsI) (n : Nat) (hn : n ≤ 10000000) (l : Nat → Ac) :
    Cs gl n_control_printable up [.lst none 5 n fun i => (l i).cs] (.int .i64 (actsE n l)) up := by
  refine mk h_control_printable rfl rfl ?_
  unfold actsE
  have hm := fun up => c_mappedA (gl := gl) up hk n hn l
  cases q : decide ((n : Int) > 1024) with
  | true =>
    conv => whnf
    split
    rotate_left
    · rename_i h
      exact Bool.noConfusion ((q).symm.trans h)
    rename_i hN
    clear hN
    conv => whnf
    exact ⟨rfl, rfl⟩
  | false =>
    conv => whnf
    split
    · rename_i h
      exact Bool.noConfusion ((q).symm.trans h)
    rename_i hN
    clear hN
    conv => whnf
    repeat first
      | (refine DRAW.seek ?_; repeat (first | refine TRYD.take ?_ | refine TRYD.next ?_); conv => whnf)
      | (refine HOLD.mk (by first | exact trivial | exact ⟨⟨rfl, rfl⟩, trivial⟩ | exact ⟨⟨rfl, rfl⟩, ⟨rfl, rfl⟩, trivial⟩) ?_; (conv => whnf))
      | (refine CALL0.by (hm ..) rfl ?_; conv => whnf)
      | (refine CALLQ.mk _ _ _ (leL_refl _) (hm ..) rfl ?_; conv => whnf)
    refine .mk _ _ _ _ _ ?_ (c_first _ n (by omega) fun i => (l i).checkE 100 100 100) rfl ?_
    · exact ⟨⟨.inl rfl, rfl, rfl, fun _ _ => rfl⟩, trivial⟩
    conv => whnf
    exact ⟨rfl, rfl⟩

/-! The text of an act. -/
def Ac.blade (a : Ac) : List UInt8 := bif a.stuck != -1 then Go.Lib.itoa a.stuck else [45]
def Ac.line (a : Ac) : List UInt8 := a.kind.data.toList ++ (32 :: Go.Lib.itoa a.wind ++ (32 :: Go.Lib.itoa a.pitch ++ (32 :: Go.Lib.itoa a.tor ++ (32 :: a.blade ++ [10]))))
def actsS (l : Nat → Ac) : Nat → List UInt8
  | 0 => []
  | k + 1 => actsS l k ++ (l k).line

structure Ac.plainOk (a : Ac) : Prop where
  kind : idxS a.kind kindsL 0 ≥ 0
  wind : 0 ≤ a.wind ∧ a.wind ≤ 100
  pitch : 0 ≤ a.pitch ∧ a.pitch ≤ 100
  tor : 0 ≤ a.tor ∧ a.tor ≤ 100
  stuck : -1 ≤ a.stuck ∧ a.stuck ≤ 2
  formed : a.formB = true

theorem checkE_ok {a : Ac} (h : a.checkE 100 100 100 = 0) : a.plainOk := by
  unfold Ac.checkE at h
  rw [orL_zero] at h
  simp only [List.mem_cons, List.not_mem_nil, or_false, forall_eq_or_imp, forall_eq, withinS_zero] at h
  obtain ⟨a1, a2, a3, a4, a5, a6⟩ := h
  rw [bif_nz (by decide)] at a1 a6
  exact ⟨by simpa using a1, a2, a3, a4, a5, by simpa using a6⟩

theorem actsE_ok {n : Nat} {l : Nat → Ac} (h : actsE n l = 0) : n ≤ 1024 ∧ ∀ i, i < n → (l i).plainOk := by
  unfold actsE at h
  cases q : decide ((n : Int) > 1024) with
  | true => rw [q] at h; cases h
  | false =>
    rw [q, cond_false, firstS_zero] at h
    have := of_decide_eq_false q
    exact ⟨by omega, fun i hi => checkE_ok (h i (Nat.zero_le _) (by omega))⟩

theorem idxS_mem {x : ByteArray} : ∀ {L : List ByteArray} {i : Int}, 0 ≤ i → idxS x L i ≥ 0 → x ∈ L
  | [], i, _, h => by simp [idxS] at h
  | k :: r, i, hi, h => by
    unfold idxS at h
    cases q : eqS x k with
    | true => rw [eqS_iff.1 q]; exact List.mem_cons_self ..
    | false =>
      rw [q, cond_false] at h
      exact List.mem_cons_of_mem _ (idxS_mem (by omega) h)

theorem kind_len {x : ByteArray} (h : idxS x kindsL 0 ≥ 0) : x.data.toList.length ≤ 6 := by
  have := idxS_mem (by decide) h
  unfold kindsL at this
  simp only [List.mem_cons, List.not_mem_nil, or_false] at this
  rcases this with rfl | rfl | rfl | rfl | rfl | rfl <;> decide

theorem line_len {a : Ac} (h : a.plainOk) : a.line.length ≤ 110 := by
  have h1 := kind_len h.kind
  have h2 := Go.Lib.itoa_length_le a.wind (by have := h.wind; omega) (by have := h.wind; omega)
  have h3 := Go.Lib.itoa_length_le a.pitch (by have := h.pitch; omega) (by have := h.pitch; omega)
  have h4 := Go.Lib.itoa_length_le a.tor (by have := h.tor; omega) (by have := h.tor; omega)
  have h5 : a.blade.length ≤ 21 := by
    unfold Ac.blade
    cases (a.stuck != -1)
    · show 1 ≤ 21
      decide
    · exact Go.Lib.itoa_length_le a.stuck (by have := h.stuck; omega) (by have := h.stuck; omega)
  unfold Ac.line
  simp only [List.length_append, List.length_cons, List.length_nil]
  omega

theorem actsS_len {l : Nat → Ac} : ∀ k, (∀ i, i < k → (l i).plainOk) → (actsS l k).length ≤ 110 * k
  | 0, _ => Nat.le_refl _
  | k + 1, h => by
    have h1 := actsS_len k fun i hi => h i (by omega)
    have h2 := line_len (h k (by omega))
    simp only [actsS, List.length_append]
    omega

def Ac.words (a : Ac) : List (List UInt8) := [a.kind.data.toList, Go.Lib.itoa a.wind, Go.Lib.itoa a.pitch, Go.Lib.itoa a.tor, a.blade]
theorem line_eq (a : Ac) : a.line = Go.Lib.join a.words [32] ++ [10] := by
  unfold Ac.line Ac.words
  rw [Go.Lib.join_cons]
  simp [Go.Lib.joinTail]
end Go.Proofs.YtkdlegfakefjgaaGreatDoor.Ix

/-
  Ix38: a piece of code, run in a frame that this interpreter does not see as a whole: what was in memory stays as it was.
-/
namespace Go.Proofs.YtkdlegfakefjgaaGreatDoor.Ix
set_option linter.unusedVariables false

/-- What a piece leaves. -/
def PcT (Q : St → Prop) (a' : Act) : Prop := ∃ (S' : St) (I' : Imm) (β' : Beta) (σ' : Nat → Sig), Q S' ∧ ∀ i, V I' β' (σ' 0) (look S'.tm i) (a'.tmps.getD i undef)
def Pc (nt : Nat) (c : Code) (Q : Ex → St → Prop) (a : Act) (w : World) (e : Exit) (a' : Act) (w' : World) : Prop :=
  (match e with
    | .normal => PcT (Q .normal) a'
    | .ret => PcT (Q .ret) a'
    | .exit id => PcT (Q (.exit id)) a'
    | _ => False) ∧ Go.RowKit.Below w.heap.size w w' ∧ a'.defers = [] ∧ nt ≤ a'.tmps.size ∧ ∀ i, isIn (wrs c) i = false → a'.tmps.getD i undef = a.tmps.getD i undef

theorem piece {Γ : Env} {C : Con} (hm : Γ.P.follows .mixedOrders = true) (hT : TOK Γ.P Γ.T) (hC : HC C Γ) (hds : Γ.ds = some []) {n : Nat} {c : Code} {tm : Tms} {Q : Ex → St → Prop} (hn : noRange c = true) (h : iwp C Γ c Q ⟨tm, [], []⟩)
    {a : Act} {w : World} {I : Imm} (him : ∀ x v, I x = some v → w.cell? x = some v) (hglo : ∀ g, D I (Γ.gl g) (.pointer (some ⟨g, 0, none⟩))) (hgz : Gsz Γ.gl w)
    (htm : ∀ i, V I (fun _ _ => none) noSig (look tm i) (a.tmps.getD i undef)) (hnt : Γ.nt ≤ a.tmps.size) (hd : a.defers = []) :
    c.wpIn (Fw none) n Γ.P (Pc Γ.nt c Q a w) a w := by
  let X : Nat → Prop := fun b => b < w.heap.size
  have r0 : Rel Γ ⟨tm, [], []⟩ a w I X (fun _ _ => none) fun _ => noSig := by
    refine ⟨htm, ⟨by rw [hd]; exact .nil _ _, fun d e => by rw [hds] at e; cases e; exact hd⟩, hnt, ⟨fun l d c hc => ?_, fun l d l' d' b h1 => (by cases h1), fun l d b h1 => (by cases h1), him, hglo, fun b hb => hb, hgz⟩, ⟨fun t g h => (by cases h), fun t t' g g' h => (by cases h)⟩⟩
    cases l with
    | zero => simp [upC, lookC] at hc
    | succ l => simp [upC, lookC] at hc
  refine wpIn_mono (iwp_sound_r hm hT hC none n c Q ⟨tm, [], []⟩ a w I X _ _ (isIn (wrs c)) hn (fun d hd => isIn_iff.2 hd) h r0) fun e a' w' hq => ?_
  have key : ∀ K : St → Prop, AftG Γ (Wn (isIn (wrs c))) K I X w (fun _ _ => none) (fun _ => noSig) a a' w' → PcT K a' ∧ Go.RowKit.Below w.heap.size w w' ∧ a'.defers = [] ∧ Γ.nt ≤ a'.tmps.size ∧ ∀ i, isIn (wrs c) i = false → a'.tmps.getD i undef = a.tmps.getD i undef := by
    rintro K ⟨S', I', X', β', σ', hk, r, _, ⟨he, _⟩, _, hs⟩
    exact ⟨⟨S', I', β', σ', hk, r.tm⟩, ⟨he.os, he.tape, he.output, he.size, fun k hk => he.keep k hk⟩, r.df.e [] hds, r.nt, hs⟩
  cases e with
  | normal => exact key _ hq
  | ret => exact key _ hq
  | exit id => exact key _ hq
  | goto l => exact hq.elim
  | panic c => exact hq.elim
  | outgrown => exact hq.elim

theorem rel_start {Γ : Env} (hds : Γ.ds = some []) {tm : Tms} {a : Act} {w : World} {I : Imm} (him : ∀ x v, I x = some v → w.cell? x = some v) (hglo : ∀ g, D I (Γ.gl g) (.pointer (some ⟨g, 0, none⟩))) (hgz : Gsz Γ.gl w)
    (htm : ∀ i, V I (fun _ _ => none) noSig (look tm i) (a.tmps.getD i undef)) (hnt : Γ.nt ≤ a.tmps.size) (hd : a.defers = []) :
    Rel Γ ⟨tm, [], []⟩ a w I (fun b => b < w.heap.size) (fun _ _ => none) fun _ => noSig := by
  refine ⟨htm, ⟨by rw [hd]; exact .nil _ _, fun d e => by rw [hds] at e; cases e; exact hd⟩, hnt, ⟨fun l d c hc => ?_, fun l d l' d' b h1 => (by cases h1), fun l d b h1 => (by cases h1), him, hglo, fun b hb => hb, hgz⟩, ⟨fun t g h => (by cases h), fun t t' g g' h => (by cases h)⟩⟩
  cases l with
  | zero => simp [upC, lookC] at hc
  | succ l => simp [upC, lookC] at hc

/-- Only a normal end. -/
def nrm (K : St → Prop) : Ex → St → Prop
  | .normal, S => K S
  | _, _ => False

/-- A piece in front of other code. -/
theorem piece_seq {Γ : Env} {C : Con} (hm : Γ.P.follows .mixedOrders = true) (hT : TOK Γ.P Γ.T) (hC : HC C Γ) (hds : Γ.ds = some []) {n : Nat} {c d : Code} {tm : Tms} {K : St → Prop} {R : Exit → Act → World → Prop} (hn : noRange c = true) (h : iwp C Γ c (nrm K) ⟨tm, [], []⟩)
    {a : Act} {w : World} {I : Imm} (him : ∀ x v, I x = some v → w.cell? x = some v) (hglo : ∀ g, D I (Γ.gl g) (.pointer (some ⟨g, 0, none⟩))) (hgz : Gsz Γ.gl w)
    (htm : ∀ i, V I (fun _ _ => none) noSig (look tm i) (a.tmps.getD i undef)) (hnt : Γ.nt ≤ a.tmps.size) (hd : a.defers = [])
    (hk : ∀ a' w', PcT K a' → Go.RowKit.Below w.heap.size w w' → a'.defers = [] → Γ.nt ≤ a'.tmps.size → (∀ i, isIn (wrs c) i = false → a'.tmps.getD i undef = a.tmps.getD i undef) → d.wpIn (Fw none) n Γ.P R a' w') :
    (Code.seq c d).wpIn (Fw none) n Γ.P R a w := by
  refine wpIn_seq (wpIn_mono (piece hm hT hC hds hn h him hglo hgz htm hnt hd) fun e a' w' hq => ?_)
  obtain ⟨h1, h2, h3, h4, h5⟩ := hq
  cases e with
  | normal => exact hk a' w' h1 h2 h3 h4 h5
  | ret => obtain ⟨_, _, _, _, h, _⟩ := h1; exact h.elim
  | exit id => obtain ⟨_, _, _, _, h, _⟩ := h1; exact h.elim
  | goto l => exact h1.elim
  | panic c => exact h1.elim
  | outgrown => exact h1.elim

/-- One after the other: the first operations of a region. -/
theorem ops_part {Γ : Env} {C : Con} (hT : TOK Γ.P Γ.T) (hC : HC C Γ) {n : Nat} {ops : Array Oper} {K : St → Prop} {Q : Exit → Act → World → Prop} {rest : List Nat} {w : World} {I : Imm} {X : Nat → Prop} {a : Act} {wr : Nat → Bool}
    (hF : ∀ a' w' S' I' X' β' σ', K S' → Rel Γ S' a' w' I' X' β' σ' → (Wn wr).E w I X w' I' X' → Same (Wn wr) a a' → wpOpsIn (Fw none) n Γ.P ops Q rest a' w') :
    ∀ (pre : List Oper) (k : Nat), (∀ (j : Nat) o, pre[j]? = some o → ops[k + j]? = some o) → (∀ d ∈ dsts pre, wr d = true) → ∀ (S' : St) (a' : Act) (w' : World) (I' : Imm) (X' : Nat → Prop) (β' : Beta) (σ' : Nat → Sig),
      iops C Γ ops.toList pre K S' → Rel Γ S' a' w' I' X' β' σ' → (Wn wr).E w I X w' I' X' → Same (Wn wr) a a' →
      wpOpsIn (Fw none) n Γ.P ops Q (List.range' k pre.length ++ rest) a' w' := by
  intro pre
  induction pre with
  | nil => exact fun k _ _ S' a' w' I' X' β' σ' h hr he hs => hF a' w' S' I' X' β' σ' h hr he hs
  | cons o pre ih =>
    intro k hk hw S' a' w' I' X' β' σ' h hr he hs
    have h0 : ops[k]? = some o := by have := hk 0 o rfl; simpa using this
    rw [iops_cons] at h
    have hwo : ∀ d, o.dst = some d → wr d = true := fun d hd => hw d (dsts_mem (List.mem_cons_self ..) hd)
    have h1 := iop1_soundG (W := Wn wr) (opOK_n wr hT hC none n) (ops := ops) o hwo h hr trivial Q
    have next : ∀ a2 w2, AftG Γ (Wn wr) (fun S' => iops C Γ ops.toList pre K S') I' X' w' β' σ' a' a2 w2 → wpOpsIn (Fw none) n Γ.P ops Q (List.range' (k + 1) pre.length ++ rest) a2 w2 := by
      rintro a2 w2 ⟨S2, I2, X2, β2, σ2, k1, k2, _, k4, _, k6⟩
      refine ih (k + 1) (fun j x hx => by have := hk (j + 1) x hx; rw [← this]; congr 1; omega) (fun d hd => hw d ?_) S2 a2 w2 I2 X2 β2 σ2 k1 k2 ((Wn wr).trans he k4) (hs.trans k6)
      unfold dsts
      split
      · exact List.mem_cons_of_mem _ hd
      · exact hd
    simp only [List.length_cons, List.range'_succ, List.cons_append, wpOpsIn, h0]
    split
    · rename_i hw
      rw [if_pos hw] at h1
      exact Oper.wpIn_mono next h1
    · rename_i hw
      rw [if_neg hw] at h1
      exact ⟨fun _ _ => trivial, next _ _ h1⟩

/-- Four pieces and a region's operations but the last one. -/
theorem round5 {Γ : Env} {C : Con} (hm : Γ.P.follows .mixedOrders = true) (hT : TOK Γ.P Γ.T) (hC : HC C Γ) (hds : Γ.ds = some []) {n : Nat} {c1 c2 c3 c4 : Code} {id : Nat} {ops : Array Oper} (hops : ops.toList ≠ []) {tm : Tms} {K : St → Prop} {R : Exit → Act → World → Prop}
    (hn1 : noRange c1 = true) (hn2 : noRange c2 = true) (hn3 : noRange c3 = true) (hn4 : noRange c4 = true)
    (h : iwp C Γ c1 (nrm fun S => iwp C Γ c2 (nrm fun S => iwp C Γ c3 (nrm fun S => iwp C Γ c4 (nrm fun S => iops C Γ ops.toList ops.toList.dropLast K S) S) S) S) ⟨tm, [], []⟩)
    {a : Act} {w : World} {I : Imm} (him : ∀ x v, I x = some v → w.cell? x = some v) (hglo : ∀ g, D I (Γ.gl g) (.pointer (some ⟨g, 0, none⟩))) (hgz : Gsz Γ.gl w)
    (htm : ∀ i, V I (fun _ _ => none) noSig (look tm i) (a.tmps.getD i undef)) (hnt : Γ.nt ≤ a.tmps.size) (hd : a.defers = [])
    (hk : ∀ a' w', PcT K a' → Go.RowKit.Below w.heap.size w w' → a'.defers = [] → Γ.nt ≤ a'.tmps.size → (∀ i, isIn (wrs c1 ++ (wrs c2 ++ (wrs c3 ++ (wrs c4 ++ dsts ops.toList.dropLast)))) i = false → a'.tmps.getD i undef = a.tmps.getD i undef) → wpOpsIn (Fw none) n Γ.P ops R [ops.toList.dropLast.length] a' w') :
    (Code.seq c1 (.seq c2 (.seq c3 (.seq c4 (.region id ops false))))).wpIn (Fw none) n Γ.P R a w := by
  obtain ⟨o, hops⟩ : ∃ o, ops.toList = ops.toList.dropLast ++ [o] := ⟨_, (List.dropLast_concat_getLast hops).symm⟩
  generalize hpre : ops.toList.dropLast = pre at *
  have r0 := rel_start hds him hglo hgz htm hnt hd
  let wr : Nat → Bool := isIn (wrs c1 ++ (wrs c2 ++ (wrs c3 ++ (wrs c4 ++ dsts pre))))
  let X : Nat → Prop := fun b => b < w.heap.size
  have one : ∀ {c d : Code} {K : St → Prop} (_ : noRange c = true) (_ : ∀ d ∈ wrs c, wr d = true) {S : St} {a1 : Act} {w1 : World} {I1 : Imm} {X1 : Nat → Prop} {β1 : Beta} {σ1 : Nat → Sig}, iwp C Γ c (nrm K) S → Rel Γ S a1 w1 I1 X1 β1 σ1 → (Wn wr).E w I X w1 I1 X1 → Same (Wn wr) a a1 →
      (∀ a' w' S' I' X' β' σ', K S' → Rel Γ S' a' w' I' X' β' σ' → (Wn wr).E w I X w' I' X' → Same (Wn wr) a a' → d.wpIn (Fw none) n Γ.P R a' w') → (Code.seq c d).wpIn (Fw none) n Γ.P R a1 w1 := by
    intro c d K hn hw S a1 w1 I1 X1 β1 σ1 h hr he hs hk
    refine wpIn_seq (wpIn_mono (iwp_sound_r hm hT hC none n c (nrm K) S a1 w1 I1 X1 β1 σ1 wr hn hw h hr) fun e a' w' hq => ?_)
    cases e with
    | normal =>
      obtain ⟨S', I', X', β', σ', k1, k2, _, k4, _, k6⟩ := hq
      exact hk a' w' S' I' X' β' σ' k1 k2 ((Wn wr).trans he k4) (hs.trans k6)
    | ret => obtain ⟨_, _, _, _, _, h, _⟩ := hq; exact h.elim
    | exit id => obtain ⟨_, _, _, _, _, h, _⟩ := hq; exact h.elim
    | goto l => exact hq.elim
    | panic c => exact hq.elim
    | outgrown => exact hq.elim
  have w1 : ∀ d ∈ wrs c1, wr d = true := fun d hd => isIn_iff.2 (by simp [hd])
  have w2 : ∀ d ∈ wrs c2, wr d = true := fun d hd => isIn_iff.2 (by simp [hd])
  have w3 : ∀ d ∈ wrs c3, wr d = true := fun d hd => isIn_iff.2 (by simp [hd])
  have w4 : ∀ d ∈ wrs c4, wr d = true := fun d hd => isIn_iff.2 (by simp [hd])
  have w5 : ∀ d ∈ dsts pre, wr d = true := fun d hd => isIn_iff.2 (by simp [hd])
  refine one hn1 w1 h r0 ((Wn wr).refl _ _ _) (Same.refl _ _) fun a' w' S' I' X' β' σ' h hr he hs => ?_
  refine one hn2 w2 h hr he hs fun a' w' S' I' X' β' σ' h hr he hs => ?_
  refine one hn3 w3 h hr he hs fun a' w' S' I' X' β' σ' h hr he hs => ?_
  refine one hn4 w4 h hr he hs fun a' w' S' I' X' β' σ' h hr he hs => ?_
  refine wpIn_region ?_
  have hsz : ops.size = pre.length + 1 := by rw [← Array.length_toList, hops]; simp
  have e : List.range ops.size = List.range' 0 pre.length ++ [pre.length] := by
    rw [hsz, List.range_succ, List.range_eq_range']
  rw [e]
  refine ops_part hT hC (w := w) (I := I) (X := X) (a := a) (wr := wr) ?_ pre 0 (fun j x hx => ?_) w5 S' a' w' I' X' β' σ' h hr he hs
  · rintro a' w' S' I' X' β' σ' hk' r ⟨he, _⟩ hs
    exact hk a' w' ⟨S', I', β', σ', hk', r.tm⟩ ⟨he.os, he.tape, he.output, he.size, fun k hk => he.keep k hk⟩ (r.df.e [] hds) r.nt hs
  · rw [Nat.zero_add, ← Array.getElem?_toList, hops, List.getElem?_append_left (by
      rcases Nat.lt_or_ge j pre.length with h | h
      · exact h
      · rw [List.getElem?_eq_none h] at hx; cases hx)]
    exact hx

/-- A builder stays what it is if no block turns. -/
theorem builder_below {T e : TypeId} {B b : Nat} {bs : List Value} {w w' : World} (h : Go.Lib.IsBuilder T e B b bs w) (k : Go.RowKit.Below w.heap.size w w') : Go.Lib.IsBuilder T e B b bs w' := by
  have key : ∀ p, Go.Lib.BuilderAt T e B b p bs w → Go.Lib.BuilderAt T e B b p bs w' := by
    rintro p ⟨hB, v, hb, hown, hne⟩
    refine ⟨hB, v, by rw [k.block b (heap_lt hb)]; exact hb, ?_, hne⟩
    obtain ⟨h1, h2⟩ := hown
    refine ⟨h1, h2.elim .inl ?_⟩
    rintro ⟨g, cap, cur, e1, e2, e3, e4⟩
    exact .inr ⟨g, cap, cur, e1, e2, by rw [k.block g (heap_lt e3)]; exact e3, e4⟩
  exact h.elim (fun x => .inl (key _ x)) fun x => .inr (key _ x)

/-- One operation that hands a value back. -/
theorem op_val {P : Program} {ops : Array Oper} {Q : Exit → Act → World → Prop} {n i : Nat} {rest : List Nat} {o : Oper} {a : Act} {w w2 : World} {v : Value} (h0 : ops[i]? = some o) (hg : o.guard = none) (hd : ∀ c, o.op ≠ .defer c)
    (h : (execOp a.eval o).run P w = .ok (.value v) w2) (hk : wpOpsIn (Fw none) n P ops Q rest (a.put o.dst v) w2) : wpOpsIn (Fw none) n P ops Q (i :: rest) a w := by
  simp only [wpOpsIn, h0]
  rw [if_pos (by simp [Region.wanted, hg])]
  exact wpIn_of_wp hd (wp_val h hk)

/-- A call of a function by its name. -/
theorem op_call {P : Program} {ops : Array Oper} {Q : Exit → Act → World → Prop} {n i : Nat} {rest : List Nat} {o : Oper} {a : Act} {w : World} {c : Call} {f : Nat} {fn : Func} {cd : Code} (h0 : ops[i]? = some o) (hg : o.guard = none) (ho : o.op = .call c) (hc : c.callee = .value (.func f)) (hf : P.funcs[f]? = some fn) (hb : fn.body = some cd) (hn : (fn.name == "runtime.NumGoroutine") = false)
    (h : Calls P f (c.args.map a.eval) w fun e w2 => ∃ v, e = .returned v ∧ wpOpsIn (Fw none) n P ops Q rest (a.put o.dst v) w2) : wpOpsIn (Fw none) n P ops Q (i :: rest) a w := by
  simp only [wpOpsIn, h0]
  rw [if_pos (by simp [Region.wanted, hg])]
  refine wpIn_of_wp (fun c e => by rw [ho] at e; cases e) ?_
  unfold Oper.wp
  have hrun : (execOp a.eval o).run P w = .ok (.enter f (c.args.map a.eval)) w := by
    have hval : a.eval (.func f) = .func (.func f) #[] #[] := rfl
    simp only [execOp, ho, resolve, hc, hval, Deferred.ofValue, Sem.run_bind, Sem.run_pure, Result.andThen_ok, invoke, callFunc, run_program, hf, hn, hb, Option.isNone]
    simp
  rw [hrun]
  refine h.mono ?_
  rintro e w2 ⟨v, rfl, hk⟩
  exact hk

theorem put_same {a : Act} {d : Nat} {v : Value} (h : d < a.tmps.size) : (a.put (some d) v).tmps.getD d undef = v := by
  simp only [Act.put, Array.getD_eq_getD_getElem?]
  rw [Array.getElem?_setIfInBounds_self_of_lt h]; rfl
theorem put_other {a : Act} {d i : Nat} {v : Value} (h : d ≠ i) : (a.put (some d) v).tmps.getD i undef = a.tmps.getD i undef := by
  simp only [Act.put, Array.getD_eq_getD_getElem?]
  rw [Array.getElem?_setIfInBounds_ne h]
theorem put_size {a : Act} {d : Option Nat} {v : Value} : (a.put d v).tmps.size = a.tmps.size := by
  cases d <;> simp [Act.put]
end Go.Proofs.YtkdlegfakefjgaaGreatDoor.Ix

/-
  Cs2: the contract of Print: a loop that writes into a builder, walked at the model's level; what lies between the writings by pieces.
-/
namespace Go.Proofs.YtkdlegfakefjgaaGreatDoor.Ix
open Go.Proofs
set_option maxRecDepth 100000
set_option linter.unusedVariables false
set_option linter.unusedSimpArgs false
variable {gl : Nat → IV}

noncomputable abbrev Γp (gl : Nat → IV) : Env := ⟨prog, T, gl, 48, Vis prog gl, none, some []⟩

set_option maxHeartbeats 400000 in
theorem c_PrintOk (up : List Ces) (hk : gl g_control_kinds = kindsI) (hg : gl g_internal_strconv_uint64pow10 = powI) (n : Nat) (hn : n ≤ 10000000) (l : Nat → Ac) (h0 : actsE n l = 0) :
    Cs gl n_control_Print up [.lst none 5 n fun i => (l i).cs] (.tup [.str (bytesS (actsS l n)), .int .i64 0]) up := by
  refine comp_of_below h_control_Print rfl rfl fun vals w0 I X β σ m hlen ha => ?_
  obtain ⟨v0, rfl⟩ := one_arg hlen
  obtain ⟨hn2, hok⟩ := actsE_ok h0
  have hv0 : D I (.lst none 5 n fun i => (l i).cs) v0 := by
    have h := ha 0 _ rfl
    cases h with
    | data h => exact h
  refine (callsIn_wide (n := 1)).1 (callsIn_of_wp_marks (F := Fw none) h_control_Print rfl trivial ?_)
  have P := fun {c d : Code} {tm : Tms} {K : St → Prop} {R : Exit → Act → World → Prop} (hnr : noRange c = true) (h : iwp (Cs gl) (Γp gl) c (nrm K) ⟨tm, [], []⟩) {a : Act} {w : World} (hb : Go.RowKit.Below w0.heap.size w0 w)
    (htm : ∀ i, V I (fun _ _ => none) noSig (look tm i) (a.tmps.getD i undef)) (hnt : 48 ≤ a.tmps.size) (hd : a.defers = []) hk =>
    piece_seq (n := 1) (d := d) (R := R) (Γ := Γp gl) mixed0 tok0 ⟨fun _ _ _ _ _ h => h, rfl⟩ rfl hnr h (m.below hb).im m.glo (m.below hb).gz htm hnt hd hk
  refine P (K := fun _ => True) (tm := []) ?_ ?_ (.refl _ _) (fun i => .data (.dead _)) ?_ ?_ ?_
  · rfl
  · conv => whnf
    trivial
  · show 48 ≤ (#[v0] ++ Array.replicate 47 undef).size
    simp
  · rfl
  intro a1 w1 _ b1 d1 z1 f1
  have g0 : (#[v0] ++ Array.replicate (48 - #[v0].size) undef).getD 0 undef = v0 := by simp [Array.getD_eq_getD_getElem?]
  have g1 : a1.tmps.getD 0 undef = v0 := (f1 0 (by rfl)).trans g0
  have hp := fun up => c_printable (gl := gl) up hk n hn l
  rw [h0] at hp
  refine P (K := fun _ => True) (tm := [(0, .lst none 5 n fun i => (l i).cs)]) ?_ ?_ b1 ?_ z1 d1 ?_
  · rfl
  · conv => whnf
    repeat first
      | (refine DRAW.seek ?_; repeat (first | refine TRYD.take ?_ | refine TRYD.next ?_); conv => whnf)
      | (refine HOLD.mk (by first | exact trivial | exact ⟨⟨rfl, rfl⟩, trivial⟩ | exact ⟨⟨rfl, rfl⟩, ⟨rfl, rfl⟩, trivial⟩) ?_; (conv => whnf))
      | (refine CALL0.by (hp ..) rfl ?_; conv => whnf)
      | (refine CALLQ.mk _ _ _ (leL_refl _) (hp ..) rfl ?_; conv => whnf)
    trivial
  · intro i
    rw [look_cons]
    split
    · rename_i e; subst e; rw [g1]; exact .data hv0
    · exact .data (.dead _)
  intro a2 w2 _ b2 d2 z2 f2
  have g2 : a2.tmps.getD 0 undef = v0 := (f2 0 (by rfl)).trans g1
  replace b2 := b1.trans (b2.mono b1.size)
  clear f1 f2 g1 z1 d1
  -- the builder
  refine wpIn_seq (wpIn_region ?_)
  refine op_val (o := { dst := some 5, op := Op.alloc 168, type := 0, pos := "act.go:237", after := #[], guard := none }) rfl rfl (fun c e => by cases e) (v := .pointer (some ⟨w2.heap.size, 0, none⟩)) (w2 := w2.alloc (.cells #[.pointer none, .slice none 0 0] 168)) ?_ ?_
  · have hz : (prog.info? 168).map (fun i => i.zero) = some (some (.agg #[.pointer none, .slice none 0 0])) := by kernel_rfl
    cases hi : prog.info? 168 with
    | none => rw [hi] at hz; cases hz
    | some inf =>
      rw [hi] at hz
      have hz : inf.zero = some (.agg #[.pointer none, .slice none 0 0]) := by simpa using hz
      show (execOp a2.eval { dst := some 5, op := Op.alloc 168, type := 0, pos := "act.go:237", after := #[], guard := none }).run prog w2 = _
      simp [execOp, Instr.alloc, zeroValue, typeInfo, hi, hz, newVar, newRow, Value.cells]
  have hbld : Go.Lib.IsBuilder 168 5 w0.heap.size w2.heap.size [] (w2.alloc (.cells #[.pointer none, .slice none 0 0] 168)) :=
    .inl ⟨b2.size, .slice none 0 0, World.alloc_heap_new _ _, ⟨rfl, .inl ⟨rfl, rfl⟩⟩, by simp [Value.ownBlock]⟩
  have b3 := b2.alloc b2.size (.cells #[.pointer none, .slice none 0 0] 168)
  generalize hb : w2.heap.size = b at hbld
  generalize w2.alloc (.cells #[.pointer none, .slice none 0 0] 168) = w3 at hbld b3
  have hg3 : (a2.put (some 5) (.pointer (some ⟨b, 0, none⟩))).tmps.getD 0 undef = v0 := (put_other (by decide)).trans g2
  have hz3 : 48 ≤ (a2.put (some 5) (.pointer (some ⟨b, 0, none⟩))).tmps.size := by rw [put_size]; exact z2
  have hd3 : (a2.put (some 5) (.pointer (some ⟨b, 0, none⟩))).defers = [] := d2
  have hp3 : (a2.put (some 5) (.pointer (some ⟨b, 0, none⟩))).tmps.getD 5 undef = .pointer (some ⟨b, 0, none⟩) := put_same (Nat.lt_of_lt_of_le (show 5 < 48 by decide) z2)
  show Code.wpIn (Fw none) 1 prog _ _ (a2.put (some 5) (.pointer (some ⟨b, 0, none⟩))) w3
  generalize a2.put (some 5) (.pointer (some ⟨b, 0, none⟩)) = a3 at hg3 hz3 hd3 hp3
  clear b2 d2 z2 g2
  let LI : Nat → Act → World → Prop := fun k a w => Go.RowKit.Below w0.heap.size w0 w ∧ a.defers = [] ∧ 48 ≤ a.tmps.size ∧ a.tmps.getD 15 undef = v0 ∧ a.tmps.getD 16 undef = .int .i64 n ∧ a.tmps.getD 17 undef = .int .i64 k ∧
    a.tmps.getD 5 undef = .pointer (some ⟨b, 0, none⟩) ∧ Go.Lib.IsBuilder 168 5 w0.heap.size b (Go.Lib.byteCells (actsS l k)) w
  obtain ⟨p0, c0, hvs⟩ : ∃ p c, v0 = .slice p n c := by
    cases hv0 with
    | lstN => exact ⟨_, _, rfl⟩
    | lst => exact ⟨_, _, rfl⟩
  refine wpIn_seq (wpIn_seq (wpIn_region ?_))
  refine op_val rfl rfl (fun c e => by cases e) (v := v0) (w2 := w3) ?_ ?_
  · show Result.ok (Next.value (a3.tmps.getD 0 undef)) w3 = _
    rw [hg3]
  have hl : (a3.put (some 15) v0).tmps.getD 15 undef = v0 := put_same (Nat.lt_of_lt_of_le (by decide) hz3)
  refine op_val rfl rfl (fun c e => by cases e) (v := .int .i64 n) (w2 := w3) ?_ ?_
  · have hu : prog.underlying 71 = some (.slice 50) := by kernel_rfl
    have hlt : 15 < a3.tmps.size := Nat.lt_of_lt_of_le (by decide) hz3
    simp [execOp, resolve, invoke, go_sem, hlt, hvs, Builtin.len_, run_underlying hu, goInt]
  refine op_val rfl rfl (fun c e => by cases e) (v := .int .i64 0) (w2 := w3) rfl ?_
  simp only [wpOpsIn]
  show Code.wpIn (Fw none) 1 prog _ _ (((a3.put (some 15) v0).put (some 16) (.int .i64 n)).put (some 17) (.int .i64 0)) w3
  have hLI : LI 0 (((a3.put (some 15) v0).put (some 16) (.int .i64 n)).put (some 17) (.int .i64 0)) w3 := by
    refine ⟨b3, hd3, by simp only [put_size]; exact hz3, ?_, ?_, put_same (by simp only [put_size]; omega), ?_, hbld⟩
    · rw [put_other (by decide), put_other (by decide)]; exact hl
    · rw [put_other (by decide)]; exact put_same (by simp only [put_size]; omega)
    · rw [put_other (by decide), put_other (by decide), put_other (by decide)]; exact hp3
  refine wpIn_block (wpIn_loop_from (α := {k : Nat // k ≤ n}) (fun k => LI k.1) (fun k => n - k.1) ⟨0, Nat.zero_le _⟩ hLI ?_)
  clear hLI hl hp3 hd3 hz3 hg3 hbld b3
  rintro ⟨k, hkn⟩ a w ⟨b1, d1, z1, q15, q16, q17, q5, hB⟩
  refine P (K := fun S => S = ⟨[(18, .bool (decide ((k : Int) < n))), (17, .int .i64 k), (16, .int .i64 n)], [], []⟩) (tm := [(17, .int .i64 k), (16, .int .i64 n)]) ?_ ?_ b1 ?_ z1 d1 ?_
  · rfl
  · conv => whnf
  · intro i
    rw [look_cons]
    split
    · rename_i e; subst e; rw [q17]; exact .data (.int _ _)
    · rw [look_cons]
      split
      · rename_i e; subst e; rw [q16]; exact .data (.int _ _)
      · exact .data (.dead _)
  rintro a1 w1 ⟨S', I', β', σ', rfl, ht⟩ b2 d2 z2 f2
  have t18 : a1.tmps.getD 18 undef = .bool (decide ((k : Int) < n)) := (ht 18).bool_inv
  replace q15 := (f2 15 (by rfl)).trans q15
  replace q16 := (f2 16 (by rfl)).trans q16
  replace q17 := (f2 17 (by rfl)).trans q17
  replace q5 := (f2 5 (by rfl)).trans q5
  replace hB := builder_below hB b2
  replace b2 := b1.trans (b2.mono b1.size)
  clear ht f2 b1 d1 z1 I' β' σ'
  by_cases hlt : k < n
  · rw [decide_eq_true (by omega : (k : Int) < n)] at t18
    refine wpIn_seq (wpIn_cond t18 (wpIn_skip ?_))
    show Code.wpIn (Fw none) 1 prog _ _ a1 w1
    refine wpIn_seq (wpIn_block ?_)
    refine round5 (Γ := Γp gl) (C := Cs gl) (K := fun S => look S.tm 44 = .str (bytesS (l k).line)) (tm := [(17, .int .i64 k), (16, .int .i64 n), (15, .lst none 5 n fun i => (l i).cs)]) mixed0 tok0 ⟨fun _ _ _ _ _ h => h, rfl⟩ rfl ?_ ?_ ?_ ?_ ?_ ?_ (m.below b2).im m.glo (m.below b2).gz ?_ z2 d2 ?_
    · exact List.cons_ne_nil _ _
    · rfl
    · rfl
    · rfl
    · rfl
    · have q : decide ((k : Int) < n) = true := decide_eq_true (by omega)
      have hA := hok k hlt
      have hI := fun (up : List Ces) (x : Int) (h : 0 ≤ x ∧ x ≤ 100) => c_Itoa (gl := gl) up hg x ⟨by omega, by omega⟩
      have hM : ∀ up, Cs gl n_control_mapped_int_string up [.lst none 1 3 (litF 1 [.int .i64 (l k).wind, .int .i64 (l k).pitch, .int .i64 (l k).tor]), .fn n_strconv_Itoa [] []] (.lst (some 19) 1 3 fun i => [.str (bytesS (Go.Lib.itoa ([(l k).wind, (l k).pitch, (l k).tor].getD i 0)))]) up := fun up => by
        refine Comp.le ?_ (c_mappedS (gl := gl) up 3 (by decide) (fun i => [(l k).wind, (l k).pitch, (l k).tor].getD i 0) (fun i => bytesS (Go.Lib.itoa ([(l k).wind, (l k).pitch, (l k).tor].getD i 0))) n_strconv_Itoa fun up i hi => hI up _ ?_)
        · refine ⟨⟨.inl rfl, rfl, rfl, fun i hi => ?_⟩, leV_refl _, trivial⟩
          match i, hi with
          | 0, _ => rfl
          | 1, _ => rfl
          | 2, _ => rfl
        · match i, hi with
          | 0, _ => exact hA.wind
          | 1, _ => exact hA.pitch
          | 2, _ => exact hA.tor
      have hJ : ∀ up, Cs gl n_strings_Join up [.lst none 1 5 fun i => [.str (bytesS ((l k).words.getD i []))], .str (bytesS [32])] (.str (bytesS (Go.Lib.join (l k).words [32]))) up := fun up => by
        have := c_Join (gl := gl) up 5 (fun i => [.str (bytesS ((l k).words.getD i []))]) (fun i => (l k).words.getD i []) [32] (fun i hi => rfl) (by decide) (by
          show (Go.Lib.join (l k).words [32]).length ≤ _
          have := line_len hA
          rw [line_eq, List.length_append] at this
          omega)
        exact this
      have hlen : (Go.Lib.join (l k).words [32]).length ≤ 110 := by
        have := line_len hA
        rw [line_eq, List.length_append] at this
        omega
      have hlen2 : decide ((bytesS (Go.Lib.join (l k).words [32])).size + (bytesS [10]).size ≤ 1099511627776) = true := decide_eq_true (by rw [bytesS_size, bytesS_size]; simp only [List.length_cons, List.length_nil]; omega)
      have hI4 := fun up => hI up (l k).stuck
      cases qs : ((l k).stuck != -1) with
      | true =>
        have hst : 0 ≤ (l k).stuck ∧ (l k).stuck ≤ 100 := by
          have := hA.stuck
          have : (l k).stuck ≠ -1 := by simpa using qs
          omega
        have hI4 := fun up => hI up (l k).stuck hst
        have hb : (l k).blade = Go.Lib.itoa (l k).stuck := by unfold Ac.blade; rw [qs]; rfl
        conv => whnf
        split
        rotate_left
        · rename_i h
          exact Bool.noConfusion ((q).symm.trans h)
        rename_i hN
        clear hN
        conv => whnf
        repeat first
          | (refine DRAW.seek ?_; repeat (first | refine TRYD.take ?_ | refine TRYD.next ?_); conv => whnf)
          | (refine HOLD.mk (by first | exact trivial | exact ⟨⟨rfl, rfl⟩, trivial⟩ | exact ⟨⟨rfl, rfl⟩, ⟨rfl, rfl⟩, trivial⟩) ?_; (conv => whnf))
          | (refine CALL0.by (hM ..) rfl ?_; conv => whnf)
          | (refine CALLQ.mk _ _ _ (leL_refl _) (hM ..) rfl ?_; conv => whnf)
        split
        rotate_left
        · rename_i h
          exact Bool.noConfusion ((qs).symm.trans h)
        rename_i hN
        clear hN
        conv => whnf
        repeat first
          | (refine DRAW.seek ?_; repeat (first | refine TRYD.take ?_ | refine TRYD.next ?_); conv => whnf)
          | (refine HOLD.mk (by first | exact trivial | exact ⟨⟨rfl, rfl⟩, trivial⟩ | exact ⟨⟨rfl, rfl⟩, ⟨rfl, rfl⟩, trivial⟩) ?_; (conv => whnf))
          | (refine CALL0.by (hI4 ..) rfl ?_; conv => whnf)
          | (refine CALLQ.mk _ _ _ (leL_refl _) (hI4 ..) rfl ?_; conv => whnf)
        refine .mk _ _ _ _ _ ?_ (hJ _) rfl ?_
        · refine ⟨⟨.inl rfl, rfl, rfl, fun i hi => ?_⟩, leV_refl _, trivial⟩
          match i, hi with
          | 0, _ => show [IV.str (l k).kind] = [.str (bytesS (l k).kind.data.toList)]; rw [bytesS_mk]
          | 1, _ => rfl
          | 2, _ => rfl
          | 3, _ => rfl
          | 4, _ => show [IV.str _] = [.str (bytesS (l k).blade)]; rw [hb]
        conv => whnf
        split
        rotate_left
        · rename_i h
          exact Bool.noConfusion ((hlen2).symm.trans h)
        rename_i hN
        clear hN
        conv => whnf
        show IV.str (bytesS (Go.Lib.join (l k).words [32]) ++ bytesS [10]) = .str (bytesS (l k).line)
        rw [bytesS_append, line_eq]
      | false =>
        have hb : (l k).blade = [45] := by unfold Ac.blade; rw [qs]; rfl
        conv => whnf
        split
        rotate_left
        · rename_i h
          exact Bool.noConfusion ((q).symm.trans h)
        rename_i hN
        clear hN
        conv => whnf
        repeat first
          | (refine DRAW.seek ?_; repeat (first | refine TRYD.take ?_ | refine TRYD.next ?_); conv => whnf)
          | (refine HOLD.mk (by first | exact trivial | exact ⟨⟨rfl, rfl⟩, trivial⟩ | exact ⟨⟨rfl, rfl⟩, ⟨rfl, rfl⟩, trivial⟩) ?_; (conv => whnf))
          | (refine CALL0.by (hM ..) rfl ?_; conv => whnf)
          | (refine CALLQ.mk _ _ _ (leL_refl _) (hM ..) rfl ?_; conv => whnf)
        split
        · rename_i h
          exact Bool.noConfusion ((qs).symm.trans h)
        rename_i hN
        clear hN
        conv => whnf
        refine .mk _ _ _ _ _ ?_ (hJ _) rfl ?_
        · refine ⟨⟨.inl rfl, rfl, rfl, fun i hi => ?_⟩, leV_refl _, trivial⟩
          match i, hi with
          | 0, _ => show [IV.str (l k).kind] = [.str (bytesS (l k).kind.data.toList)]; rw [bytesS_mk]
          | 1, _ => rfl
          | 2, _ => rfl
          | 3, _ => rfl
          | 4, _ => show [IV.str _] = [.str (bytesS (l k).blade)]; rw [hb]
        conv => whnf
        split
        rotate_left
        · rename_i h
          exact Bool.noConfusion ((hlen2).symm.trans h)
        rename_i hN
        clear hN
        conv => whnf
        show IV.str (bytesS (Go.Lib.join (l k).words [32]) ++ bytesS [10]) = .str (bytesS (l k).line)
        rw [bytesS_append, line_eq]
    · intro i
      rw [look_cons]
      split
      · rename_i e; subst e; rw [q17]; exact .data (.int _ _)
      · rw [look_cons]
        split
        · rename_i e; subst e; rw [q16]; exact .data (.int _ _)
        · rw [look_cons]
          split
          · rename_i e; subst e; rw [q15]; exact .data hv0
          · exact .data (.dead _)
    · intro a3 w3 ⟨S', I', β', σ', hS, ht⟩ b3 d3 z3 f3
      have t44 : a3.tmps.getD 44 undef = .string (bytesS (l k).line) := by
        have h := ht 44
        rw [hS] at h
        exact h.str_inv
      replace q15 := (f3 15 (by rfl)).trans q15
      replace q16 := (f3 16 (by rfl)).trans q16
      replace q17 := (f3 17 (by rfl)).trans q17
      replace q5 := (f3 5 (by rfl)).trans q5
      replace hB := builder_below hB b3
      replace b3 := b2.trans (b3.mono b2.size)
      clear ht hS f3 b2 d2 z2 I' β' σ' S' t18
      refine op_call rfl rfl rfl rfl h_strings_Builder_WriteString rfl rfl ?_
      have hargs : (#[Operand.tmp 5, Operand.tmp 44].map a3.eval) = #[.pointer (some ⟨b, 0, none⟩), .string (bytesS (l k).line)] := by
        have e5 : a3.eval (.tmp 5) = _ := q5
        have e44 : a3.eval (.tmp 44) = _ := t44
        simp [e5, e44]
      show Calls prog 109 (#[Operand.tmp 5, Operand.tmp 44].map a3.eval) w3 _
      rw [hargs]
      refine (Any.Builder_WriteString { laysJoin with } extraJoin w0.heap.size b _ _ w3 hB ?_ b3.size).mono ?_
      · have h1 := actsS_len k fun i hi => hok i (by omega)
        have h2 := line_len (hok k hlt)
        show (Go.Lib.byteCells (actsS l k)).length + (bytesS (l k).line).size ≤ _
        rw [bytesS_size]
        unfold Go.Lib.byteCells
        rw [List.length_map]
        omega
      rintro e w4 ⟨rfl, hB4, b4⟩
      refine ⟨_, rfl, ?_⟩
      replace b4 := b3.trans b4
      have hB4 : Go.Lib.IsBuilder 168 5 w0.heap.size b (Go.Lib.byteCells (actsS l (k + 1))) w4 := by
        refine .inr ?_
        have e : Go.Lib.byteCells (actsS l (k + 1)) = Go.Lib.byteCells (actsS l k) ++ Go.Lib.strCells (bytesS (l k).line) := by
          show List.map _ (actsS l k ++ (l k).line) = _
          rw [List.map_append]; rfl
        rw [e]; exact hB4
      clear hB b3
      simp only [wpOpsIn]
      have z4 : 48 ≤ (a3.put (some 45) (.tuple #[.int .i64 ((bytesS (l k).line).size : Int), .nilIface])).tmps.size := by rw [put_size]; exact z3
      have d4 : (a3.put (some 45) (.tuple #[.int .i64 ((bytesS (l k).line).size : Int), .nilIface])).defers = [] := d3
      have p15 := (put_other (a := a3) (d := 45) (i := 15) (v := (.tuple #[.int .i64 ((bytesS (l k).line).size : Int), .nilIface])) (by decide)).trans q15
      have p16 := (put_other (a := a3) (d := 45) (i := 16) (v := (.tuple #[.int .i64 ((bytesS (l k).line).size : Int), .nilIface])) (by decide)).trans q16
      have p17 := (put_other (a := a3) (d := 45) (i := 17) (v := (.tuple #[.int .i64 ((bytesS (l k).line).size : Int), .nilIface])) (by decide)).trans q17
      have p5 := (put_other (a := a3) (d := 45) (i := 5) (v := (.tuple #[.int .i64 ((bytesS (l k).line).size : Int), .nilIface])) (by decide)).trans q5
      show Code.wpIn (Fw none) 1 prog _ _ (a3.put (some 45) (.tuple #[.int .i64 ((bytesS (l k).line).size : Int), .nilIface])) w4
      generalize a3.put (some 45) (.tuple #[.int .i64 ((bytesS (l k).line).size : Int), .nilIface]) = a4 at z4 d4 p15 p16 p17 p5
      clear q15 q16 q17 q5 t44 z3 d3 hargs
      have hw : w64 ((k : Int) + 1) = ((k + 1 : Nat) : Int) := by rw [w64, wrap_in] <;> omega
      refine wpIn_mono (piece (Γ := Γp gl) (Q := nrm fun S => look S.tm 17 = .int .i64 (k + 1 : Nat)) (tm := [(17, .int .i64 k)]) mixed0 tok0 ⟨fun _ _ _ _ _ h => h, rfl⟩ rfl ?_ ?_ (m.below b4).im m.glo (m.below b4).gz ?_ z4 d4) ?_
      · rfl
      · conv => whnf
        show IV.int .i64 (w64 ((k : Int) + 1)) = _
        rw [hw]
      · intro i
        rw [look_cons]
        split
        · rename_i e; subst e; rw [p17]; exact .data (.int _ _)
        · exact .data (.dead _)
      rintro e a5 w5 ⟨hq, b5, d5, z5, f5⟩
      cases e with
      | normal =>
        obtain ⟨S', I', β', σ', hS, ht⟩ := hq
        have hS : look S'.tm 17 = .int .i64 (k + 1 : Nat) := hS
        refine ⟨⟨k + 1, hlt⟩, ⟨b4.trans (b5.mono b4.size), d5, z5, (f5 15 (by rfl)).trans p15, (f5 16 (by rfl)).trans p16, ?_, (f5 5 (by rfl)).trans p5, builder_below hB4 b5⟩, ?_⟩
        · have h := ht 17
          rw [hS] at h
          exact h.int_inv
        · show n - (k + 1) < n - k
          omega
      | ret => obtain ⟨_, _, _, _, h, _⟩ := hq; exact h.elim
      | exit id => obtain ⟨_, _, _, _, h, _⟩ := hq; exact h.elim
      | goto l => exact hq.elim
      | panic c => exact hq.elim
      | outgrown => exact hq.elim
  · rw [decide_eq_false (by omega : ¬ (k : Int) < n)] at t18
    refine wpIn_seq (wpIn_cond t18 (wpIn_exit ?_))
    show Code.wpIn (Fw none) 1 prog _ _ a1 w1
    have : k = n := by omega
    subst this
    refine wpIn_seq (wpIn_region ?_)
    refine op_call rfl rfl rfl rfl h_strings_Builder_String rfl rfl ?_
    have hargs : (#[Operand.tmp 5].map a1.eval) = #[.pointer (some ⟨b, 0, none⟩)] := by
      have e5 : a1.eval (.tmp 5) = _ := q5
      simp [e5]
    show Calls prog 111 (#[Operand.tmp 5].map a1.eval) w1 _
    rw [hargs]
    refine (Any.Builder_String_any { laysJoin with } extraJoin w0.heap.size b _ w1 hB b2.size).mono ?_
    rintro e w4 ⟨rfl, b4⟩
    refine ⟨_, rfl, ?_⟩
    replace b4 := b2.trans b4
    have p47 : (a1.put (some 47) (.string (bytesS (actsS l k)))).tmps.getD 47 undef = .string (bytesS (actsS l k)) := put_same (Nat.lt_of_lt_of_le (show 47 < 48 by decide) z2)
    refine op_val rfl rfl (fun c e => by cases e) (v := .string (bytesS (actsS l k))) (w2 := w4) ?_ ?_
    · show Result.ok (Next.value ((a1.put (some 47) (.string (bytesS (actsS l k)))).tmps.getD 47 undef)) w4 = _
      rw [p47]
    refine op_val rfl rfl (fun c e => by cases e) (v := .int .i64 0) (w2 := w4) rfl ?_
    simp only [wpOpsIn]
    have p2 : (((a1.put (some 47) (.string (bytesS (actsS l k)))).put (some 2) (.string (bytesS (actsS l k)))).put (some 3) (.int .i64 0)).tmps.getD 2 undef = .string (bytesS (actsS l k)) := by
      rw [put_other (by decide)]
      exact put_same (by rw [put_size]; exact Nat.lt_of_lt_of_le (show 2 < 48 by decide) z2)
    have p3 : (((a1.put (some 47) (.string (bytesS (actsS l k)))).put (some 2) (.string (bytesS (actsS l k)))).put (some 3) (.int .i64 0)).tmps.getD 3 undef = .int .i64 0 := put_same (by rw [put_size, put_size]; exact Nat.lt_of_lt_of_le (show 3 < 48 by decide) z2)
    have pd : (((a1.put (some 47) (.string (bytesS (actsS l k)))).put (some 2) (.string (bytesS (actsS l k)))).put (some 3) (.int .i64 0)).defers = [] := d2
    show Code.wpIn (Fw none) 1 prog Code.ret _ (((a1.put (some 47) (.string (bytesS (actsS l k)))).put (some 2) (.string (bytesS (actsS l k)))).put (some 3) (.int .i64 0)) w4
    generalize (((a1.put (some 47) (.string (bytesS (actsS l k)))).put (some 2) (.string (bytesS (actsS l k)))).put (some 3) (.int .i64 0)) = a9 at p2 p3 pd
    refine wpIn_ret ?_
    show LeavesInM (Fw none) 1 prog f_control_Print a9.tmps _ a9.defers .returning w4
    rw [pd]
    refine ⟨.tuple #[.string (bytesS (actsS l k)), .int .i64 0], ?_, _, rfl, ?_, b4⟩
    · have hr : f_control_Print.results = #[.tmp 2, .tmp 3] := rfl
      rw [results_eq, hr]
      simp [resSem, p2, p3]
    · refine .tup _ _ rfl fun j x hx => ?_
      match j, hx with
      | 0, hx => simp at hx; subst hx; exact .str _
      | 1, hx => simp at hx; subst hx; exact .int _ _

theorem c_Print (up : List Ces) (hk : gl g_control_kinds = kindsI) (hg : gl g_internal_strconv_uint64pow10 = powI) (n : Nat) (hn : n ≤ 10000000) (l : Nat → Ac) :
    Cs gl n_control_Print up [.lst none 5 n fun i => (l i).cs] (bif actsE n l != 0 then .tup [.str (bytesS []), .int .i64 (actsE n l)] else .tup [.str (bytesS (actsS l n)), .int .i64 0]) up := by
  by_cases h0 : actsE n l = 0
  · have q : (actsE n l != 0) = false := by simpa using h0
    rw [q]
    exact c_PrintOk up hk hg n hn l h0
  · have q : (actsE n l != 0) = true := by simpa using h0
    rw [q]
    refine mk h_control_Print rfl rfl ?_
    have hp := fun up => c_printable (gl := gl) up hk n hn l
    conv => whnf
    repeat first
      | (refine DRAW.seek ?_; repeat (first | refine TRYD.take ?_ | refine TRYD.next ?_); conv => whnf)
      | (refine HOLD.mk (by first | exact trivial | exact ⟨⟨rfl, rfl⟩, trivial⟩ | exact ⟨⟨rfl, rfl⟩, ⟨rfl, rfl⟩, trivial⟩) ?_; (conv => whnf))
      | (refine CALL0.by (hp ..) rfl ?_; conv => whnf)
      | (refine CALLQ.mk _ _ _ (leL_refl _) (hp ..) rfl ?_; conv => whnf)
    split
    rotate_left
    · rename_i h
      exact Bool.noConfusion ((q).symm.trans h)
    rename_i hN
    clear hN
    conv => whnf
    exact ⟨rfl, rfl⟩
end Go.Proofs.YtkdlegfakefjgaaGreatDoor.Ix

/-
  Aw5: the package control returns the results of the examples: awake() is true.
-/
namespace Go.Proofs.YtkdlegfakefjgaaGreatDoor.Ix
open Go.Proofs
set_option maxRecDepth 100000
set_option linter.unusedVariables false
set_option linter.unusedSimpArgs false
variable {gl : Nat → IV}

def usM : Mc := ⟨10, 6, 2, 8, 40, 20, 1⟩
theorem us_ok : usM.ok := Mc.err_ok (by decide +kernel)
theorem us_fea : usM.fea ≤ 20 := by decide
def begA : Nat → Ac
  | 0 => ⟨sStart, 0, 0, 0, -1⟩
  | _ + 1 => ⟨sTick, 10, 0, 0, -1⟩

theorem c_usual (up : List Ces) : Cs gl n_nacellelaw05_usual up [] usM.iv up := by
  refine mk h_nacellelaw05_usual rfl rfl ?_
  conv => whnf
  exact ⟨rfl, rfl⟩

theorem c_begun (up : List Ces) : Cs gl n_nacellelaw05_begun up [] (.lst none 5 4 fun i => (begA i).cs) up := by
  have h : Cs gl n_nacellelaw05_begun up [] (.lst (some 5) 5 4 (litF 5 [.str sStart, .int .i64 0, .int .i64 0, .int .i64 0, .int .i64 (-1), .str sTick, .int .i64 10, .int .i64 0, .int .i64 0, .int .i64 (-1), .str sTick, .int .i64 10, .int .i64 0, .int .i64 0, .int .i64 (-1), .str sTick, .int .i64 10, .int .i64 0, .int .i64 0, .int .i64 (-1)])) up := by
    refine mk h_nacellelaw05_begun rfl rfl ?_
    conv => whnf
    exact ⟨rfl, rfl⟩
  refine h.res ⟨.inl rfl, rfl, rfl, fun i hi => ?_⟩
  match i, hi with
  | 0, _ => rfl
  | 1, _ => rfl
  | 2, _ => rfl
  | 3, _ => rfl

theorem beg_run : repE usM begA 4 0 = (0, 0) := by
  rw [repE_run us_ok us_fea begA 4 0 (begin_inv us_ok)]
  decide +kernel
theorem beg_e0 : repE0 usM 4 = 0 := by decide +kernel
theorem beg_s : repS usM begA 4 = ⟨sRun, 14, 0, 0, 0, 0, -1⟩ := by
  rw [rep_run]
  kernel_rfl

def stA (r : ByteArray) : Sta := ⟨r, 14, 0, 0, 0, 0, -1⟩

theorem a_Replay (up : List Ces) (hk : gl g_control_kinds = kindsI) (r : ByteArray) (hr : r = sRun) : Cs gl n_control_Replay up [usM.iv, .lst none 5 4 fun i => (begA i).cs] (.tup [(stA r).iv, .int .i64 0, .int .i64 0]) up := by
  have h := c_Replay (gl := gl) up hk usM 4 (by decide) begA
  rw [beg_e0, beg_run, beg_s] at h
  subst hr
  exact h

def spd : Nat → Int := fun i => [0, 0, 4, 14].getD i 0
theorem a_Speeds (up : List Ces) (hk : gl g_control_kinds = kindsI) : Cs gl n_control_Speeds up [usM.iv, .lst none 5 4 fun i => (begA i).cs] (.tup [.lst none 1 4 fun i => [.int .i64 (spd i)], .int .i64 0]) up := by
  have h := c_Speeds (gl := gl) up hk usM 4 (by decide) begA
  rw [beg_e0, beg_run] at h
  refine Comp.res (r := .tup [.lst (some 20) 1 4 fun i => [.int .i64 (repS usM begA (i + 1)).speed], .int .i64 0]) h ⟨⟨.inl rfl, rfl, rfl, fun i hi => ?_⟩, leV_refl _, trivial⟩
  show [IV.int .i64 (repS usM begA (i + 1)).speed] = [.int .i64 (spd i)]
  rw [rep_run]
  obtain rfl | rfl | rfl | rfl : i = 0 ∨ i = 1 ∨ i = 2 ∨ i = 3 := by omega
  all_goals kernel_rfl

def stpL (z : ByteArray) : List Sta := [⟨sStop, 14, 0, 0, 0, 0, 0⟩, ⟨sStop, 20, 0, 2, 2, 0, 0⟩, ⟨sStop, 22, 0, 4, 4, 0, 0⟩, ⟨sStop, 20, 0, 6, 6, 0, 0⟩, ⟨sStop, 18, 0, 6, 6, 0, 0⟩, ⟨sStop, 16, 0, 6, 6, 0, 0⟩, ⟨sStop, 14, 0, 6, 6, 0, 0⟩, ⟨sStop, 12, 0, 6, 6, 0, 0⟩, ⟨sStop, 10, 0, 6, 6, 0, 0⟩, ⟨sStop, 8, 0, 6, 6, 0, 0⟩, ⟨sStop, 6, 0, 6, 6, 0, 0⟩, ⟨sStop, 4, 0, 6, 6, 0, 0⟩, ⟨sStop, 2, 0, 6, 6, 0, 0⟩, ⟨sStop, 0, 0, 6, 6, 0, 0⟩]
def stp (z : ByteArray) (i : Nat) : Sta := (stpL z).getD i Sta.zero

theorem stA_rng : (stA sRun).rng usM := ⟨by decide, by decide, by decide, by decide⟩
theorem stA_err : (stA sRun).err usM = 0 := by
  rw [staErr_run]
  decide +kernel
theorem stA_run : (stA sRun).pk usM 0 = 22 ∧ (stA sRun).num usM 0 = 13 := by
  have h := pk_run us_ok (k := 0) (by decide) stA_rng (by decide) (mu_small us_ok us_fea stA_rng (by decide) _)
  have e : (stA sRun).runW usM 0 = (22, 13) := by kernel_rfl
  rw [e] at h
  exact h
theorem stA_takes : (stA sRun).takes usM 0 13 := by
  have h := (takes_num us_ok stA_rng (by decide) (stuck := 0) (by decide) (by decide)).1
  rw [stA_run.2] at h
  exact h

theorem stp_eq : ∀ i, i < 14 → (stA sRun).stopS usM 0 i = stp sStop i := by
  intro i hi
  obtain rfl | rfl | rfl | rfl | rfl | rfl | rfl | rfl | rfl | rfl | rfl | rfl | rfl | rfl : i = 0 ∨ i = 1 ∨ i = 2 ∨ i = 3 ∨ i = 4 ∨ i = 5 ∨ i = 6 ∨ i = 7 ∨ i = 8 ∨ i = 9 ∨ i = 10 ∨ i = 11 ∨ i = 12 ∨ i = 13 := by omega
  all_goals kernel_rfl

theorem eqSta_refl (s : Sta) : eqSta s s = true := by
  unfold eqSta
  rw [eqS_iff.2 rfl]
  simp

theorem a_Stop (up : List Ces) (r z : ByteArray) (hr : r = sRun) (hz : z = sStop) : Cs gl n_control_Stop up [usM.iv, (stA r).iv, .int .i64 0] (.tup [.lst none 7 14 fun i => (stp z i).cs, .int .i64 0]) up := by
  subst hr
  subst hz
  have h := c_Stop (gl := gl) up (stA sRun) usM 0 13 fun _ => ⟨stA_takes, by decide⟩
  have e0 : ((stA sRun).err0 usM 0 != 0) = false := by
    unfold Sta.err0
    rw [stA_err]
    decide
  have e1 : decide ((stA sRun).most usM 0 13 > usM.lim) = false := by
    have h := stA_run.1
    unfold Sta.pk at h
    rw [stA_run.2] at h
    rw [h]; decide
  unfold Sta.StopR at h
  rw [e0, e1, stopF_eq] at h
  refine Comp.res (r := .tup [.lst (some 25) 7 14 fun i => ((stA sRun).stopS usM 0 i).cs, .int .i64 0]) h ⟨⟨.inl rfl, rfl, rfl, fun i hi => ?_⟩, leV_refl _, trivial⟩
  show ((stA sRun).stopS usM 0 i).cs = (stp sStop i).cs
  rw [stp_eq i hi]

theorem a_Peak (up : List Ces) (r : ByteArray) (hr : r = sRun) : Cs gl n_control_Peak up [usM.iv, (stA r).iv, .int .i64 0] (.tup [.int .i64 22, .int .i64 13, .int .i64 0]) up := by
  subst hr
  have h := c_Peak (gl := gl) up (stA sRun) usM 0 13 fun _ => ⟨stA_takes, by decide⟩
  have e0 : ((stA sRun).err0 usM 0 != 0) = false := by
    unfold Sta.err0
    rw [stA_err]
    decide
  have e1 : (stA sRun).most usM 0 13 = 22 := by
    have h := stA_run.1
    unfold Sta.pk at h
    rwa [stA_run.2] at h
  unfold Sta.peakR at h
  rw [e0, e1] at h
  exact h

theorem a_CheckStop (up : List Ces) (r z : ByteArray) (hr : r = sRun) (hz : z = sStop) : Cs gl n_control_CheckStop up [usM.iv, (stA r).iv, .int .i64 0, .lst none 7 14 fun i => (stp z i).cs] (.int .i64 0) up := by
  subst hr
  subst hz
  have h := c_CheckStop (gl := gl) up (stA sRun) usM 0 14 (by decide) (stp sStop)
  have e0 : (csErr0 (stA sRun) usM 0 14 != 0) = false := by
    unfold csErr0
    rw [stA_err]
    decide
  have e1 : decide ((stA sRun).most usM 0 ((stA sRun).num usM 0) > usM.lim) = false := by
    have h := stA_run.1
    unfold Sta.pk at h
    rw [h]; decide
  have e2 : allB (fun i => eqSta (stp sStop i) ((stA sRun).stopS usM 0 i)) 14 0 = true := by
    have g : ∀ n i, i + n ≤ 14 → allB (fun i => eqSta (stp sStop i) ((stA sRun).stopS usM 0 i)) n i = true := by
      intro n
      induction n with
      | zero => intro i _; rfl
      | succ n ih =>
        intro i hi
        unfold allB
        rw [ih (i + 1) (by omega), stp_eq i (by omega), eqSta_refl]; rfl
    exact g 14 0 (by decide)
  unfold csErr at h
  rw [e0, e1, e2, stA_run.2] at h
  exact h

def rwL : List Rw := [⟨0, 32⟩, ⟨1, 37⟩, ⟨2, 40⟩, ⟨3, 40⟩, ⟨4, 40⟩, ⟨5, 40⟩, ⟨6, 40⟩]
theorem rows_us : rowsOf usM (numN usM) 7 = rwL := by
  rw [rows_run us_ok us_fea 7 (by decide)]
  kernel_rfl
theorem a_Table (up : List Ces) : Cs gl n_control_Table up [usM.iv] (.tup [.lst none 2 7 fun i => (rwL.getD i row0).cs, .int .i64 0]) up := by
  have h := c_Table (gl := gl) up usM (numN usM) fun hm a v h1 h2 h3 h4 k hk => tab_takes hm a v h1 h2 h3 h4 k hk
  unfold tableR at h
  rw [show (usM.err != 0) = false by decide +kernel, show (usM.fea + 1).toNat = 7 from rfl, rows_us] at h
  exact Comp.res h ⟨tagless _ _ _ _, leV_refl _, trivial⟩

def fastS (r : ByteArray) : Sta := ⟨r, 30, 0, 0, 0, 0, -1⟩
theorem fast_rng : (fastS sRun).rng usM := ⟨by decide, by decide, by decide, by decide⟩
theorem fast_err : (fastS sRun).err usM = 0 := by
  rw [staErr_run]
  decide +kernel
theorem a_Allowed (up : List Ces) (hk : gl g_control_kinds = kindsI) (r : ByteArray) (hr : r = sRun) (t : ByteArray) (ht : t = sTick) : Cs gl n_control_Allowed up [usM.iv, (fastS r).iv, (Ac.mk t 10 0 0 (-1)).iv] (.tup [.int .i64 7, .int .i64 0]) up := by
  subst hr
  subst ht
  have h := c_Allowed (gl := gl) up hk usM (fastS sRun) ⟨sTick, 10, 0, 0, -1⟩
  have e1 : (Ac.mk sTick 10 0 0 (-1)).err usM = 0 := by
    rw [acErr_run]
    decide +kernel
  have e0 : (actE usM (fastS sRun) ⟨sTick, 10, 0, 0, -1⟩ != 0) = false := by
    unfold actE
    rw [fast_err, e1]
    decide
  rw [e0, allowed_run us_ok us_fea fast_rng (Ac.err_ok e1).2.1, show (fastS sRun).allowedX usM ⟨sTick, 10, 0, 0, -1⟩ = 7 by kernel_rfl] at h
  exact h

theorem a_Next (up : List Ces) (hk : gl g_control_kinds = kindsI) (r : ByteArray) (hr : r = sRun) (t : ByteArray) (ht : t = sTick) : Cs gl n_control_Next up [usM.iv, (fastS r).iv, (Ac.mk t 10 0 8 (-1)).iv] (.tup [(Sta.mk r 32 0 0 0 8 (-1)).iv, .int .i64 0]) up := by
  subst hr
  subst ht
  have h := c_Next (gl := gl) up hk usM (fastS sRun) ⟨sTick, 10, 0, 8, -1⟩
  have e1 : (Ac.mk sTick 10 0 8 (-1)).err usM = 0 := by
    rw [acErr_run]
    decide +kernel
  have e0 : (actE usM (fastS sRun) ⟨sTick, 10, 0, 8, -1⟩ != 0) = false := by
    unfold actE
    rw [fast_err, e1]
    decide
  unfold nextR at h
  rw [e0, allowed_run us_ok us_fea fast_rng (Ac.err_ok e1).2.1, show (fastS sRun).allowedX usM ⟨sTick, 10, 0, 8, -1⟩ = 0 by kernel_rfl, behind_run, show (fastS sRun).behindX usM ⟨sTick, 10, 0, 8, -1⟩ = ⟨sRun, 32, 0, 0, 0, 8, -1⟩ by kernel_rfl] at h
  exact h

theorem a_Propose (up : List Ces) (r : ByteArray) (hr : r = sRun) (t : ByteArray) (ht : t = sTick) : Cs gl n_control_Propose up [usM.iv, (Sta.mk r 24 4 4 4 0 (-1)).iv, .int .i64 10] (.tup [(Ac.mk t 10 4 8 (-1)).iv, .int .i64 0]) up := by
  subst hr
  subst ht
  have h := c_Propose (gl := gl) up usM ⟨sRun, 24, 4, 4, 4, 0, -1⟩ 10
  have e1 : (Sta.mk sRun 24 4 4 4 0 (-1)).err usM = 0 := by
    rw [staErr_run]
    decide +kernel
  unfold proposeR at h
  have hi : (Sta.mk sRun 24 4 4 4 0 (-1)).inv usM := ⟨⟨by decide, by decide, by decide, by decide⟩, by decide, by decide⟩
  rw [e1, show (orL [0, withinS 10 0 usM.wind] != 0) = false by decide, propose_run us_ok us_fea hi (by decide), show (Sta.mk sRun 24 4 4 4 0 (-1)).proposeX usM 10 = ⟨sTick, 10, 4, 8, -1⟩ by kernel_rfl] at h
  exact h
end Go.Proofs.YtkdlegfakefjgaaGreatDoor.Ix

/-
  Aw6: awake() of chapter 5 is true.
-/
namespace Go.Proofs.YtkdlegfakefjgaaGreatDoor.Ix
open Go.Proofs
set_option maxRecDepth 100000
set_option linter.unusedVariables false
set_option linter.unusedSimpArgs false
variable {gl : Nat → IV}

def sameIn (n k : Nat) (f g : Nat → Int) : Bool := bif (n : Int) != k then false else allB (fun i => f i == g i) n 0

theorem c_rSameInts (up : List Ces) (n k : Nat) (hn : n ≤ 10000000) (f g : Nat → Int) :
    Cs gl n_nacelleref01_SameInts up [.lst none 1 n fun i => [.int .i64 (f i)], .lst none 1 k fun i => [.int .i64 (g i)]] (.bool (sameIn n k f g)) up := by
  refine mk h_nacelleref01_SameInts rfl rfl ?_
  unfold sameIn
  cases q0 : ((n : Int) != k) with
  | true =>
    conv => whnf
    split
    rotate_left
    · rename_i h
      exact Bool.noConfusion ((q0).symm.trans h)
    rename_i hN
    clear hN
    conv => whnf
    exact ⟨rfl, rfl⟩
  | false =>
    have e : n = k := by have : (n : Int) = k := by simpa using q0
                         omega
    subst e
    conv => whnf
    split
    · rename_i h
      exact Bool.noConfusion ((q0).symm.trans h)
    rename_i hN
    clear hN
    conv => whnf
    refine .mk (α := {i : Nat // i ≤ n ∧ allB (fun i => f i == g i) n 0 = allB (fun i => f i == g i) (n - i) i}) (fun i => ⟨[(5, .int .i64 i.1), (1, .lst none 1 n fun i => [.int .i64 (g i)]), (0, .lst none 1 n fun i => [.int .i64 (f i)])], [], up⟩) (fun i => n - i.1) ⟨0, Nat.zero_le _, rfl⟩ ⟨?_, ?_, rfl, rfl⟩ ?_
    · exact ⟨leV_refl _, leV_refl _, leV_refl _, trivial⟩
    · exact trivial
    rintro ⟨i, hi, he⟩
    have hw : w64 ((i : Int) + 1) = ((i + 1 : Nat) : Int) := by rw [w64, wrap_in] <;> omega
    by_cases hlt : i < n
    · have q : decide ((i : Int) < (n : Int)) = true := decide_eq_true (by omega)
      rw [allB_step hlt] at he
      cases qe : (f i == g i) with
      | false =>
        rw [qe, Bool.false_and] at he
        have ne : (f i != g i) = true := by simpa using qe
        conv => whnf
        split
        rotate_left
        · rename_i h
          exact Bool.noConfusion ((q).symm.trans h)
        rename_i hN
        clear hN
        conv => whnf
        refine DRAW.seek ?_
        repeat (first | refine TRYD.take ?_ | refine TRYD.next ?_)
        conv => whnf
        split
        rotate_left
        · rename_i h
          exact Bool.noConfusion ((q).symm.trans h)
        rename_i hN
        clear hN
        conv => whnf
        split
        rotate_left
        · rename_i h
          exact Bool.noConfusion ((q).symm.trans h)
        rename_i hN
        clear hN
        conv => whnf
        split
        rotate_left
        · rename_i h
          exact Bool.noConfusion ((ne).symm.trans h)
        rename_i hN
        clear hN
        conv => whnf
        exact ⟨congrArg IV.bool he.symm, rfl⟩
      | true =>
        rw [qe, Bool.true_and] at he
        have ne : (f i != g i) = false := by simpa using qe
        conv => whnf
        split
        rotate_left
        · rename_i h
          exact Bool.noConfusion ((q).symm.trans h)
        rename_i hN
        clear hN
        conv => whnf
        refine DRAW.seek ?_
        repeat (first | refine TRYD.take ?_ | refine TRYD.next ?_)
        conv => whnf
        split
        rotate_left
        · rename_i h
          exact Bool.noConfusion ((q).symm.trans h)
        rename_i hN
        clear hN
        conv => whnf
        split
        rotate_left
        · rename_i h
          exact Bool.noConfusion ((q).symm.trans h)
        rename_i hN
        clear hN
        conv => whnf
        split
        · rename_i h
          exact Bool.noConfusion ((ne).symm.trans h)
        rename_i hN
        clear hN
        conv => whnf
        exact ⟨⟨i + 1, hlt, he⟩, ⟨⟨leV_int hw, leV_refl _, leV_refl _, trivial⟩, trivial, rfl, rfl⟩, (by show n - (i + 1) < n - i; omega)⟩
    · have q : decide ((i : Int) < (n : Int)) = false := decide_eq_false (by omega)
      have : i = n := by omega
      subst this
      rw [Nat.sub_self] at he
      conv => whnf
      split
      · rename_i h
        exact Bool.noConfusion ((q).symm.trans h)
      rename_i hN
      clear hN
      conv => whnf
      exact ⟨congrArg IV.bool he.symm, rfl⟩

theorem sameIn_refl (n : Nat) (f : Nat → Int) : sameIn n n f f = true := by
  unfold sameIn
  rw [show ((n : Int) != n) = false by simp, cond_false]
  have : ∀ n i, allB (fun i => f i == f i) n i = true := by
    intro n
    induction n with
    | zero => intro i; rfl
    | succ n ih => intro i; unfold allB; rw [ih, beq_self_eq_true]; rfl
  exact this n 0

theorem a_SameInts (up : List Ces) : Cs gl n_nacelleref01_SameInts up [.lst none 1 4 fun i => [.int .i64 (spd i)], .lst none 1 4 (litF 1 [.int .i64 0, .int .i64 0, .int .i64 4, .int .i64 14])] (.bool true) up := by
  have h := c_rSameInts (gl := gl) up 4 4 (by decide) spd spd
  rw [sameIn_refl] at h
  refine Comp.le (args' := [.lst none 1 4 fun i => [.int .i64 (spd i)], .lst none 1 4 fun i => [.int .i64 (spd i)]]) ?_ h
  refine ⟨leV_refl _, ⟨.inl rfl, rfl, rfl, fun i hi => ?_⟩, trivial⟩
  match i, hi with
  | 0, _ => rfl
  | 1, _ => rfl
  | 2, _ => rfl
  | 3, _ => rfl

def exText : ByteArray := ⟨#[115, 116, 97, 114, 116, 32, 48, 32, 48, 32, 48, 32, 45, 10, 116, 105, 99, 107, 32, 49, 48, 32, 48, 32, 48, 32, 45, 10, 116, 105, 99, 107, 32, 49, 48, 32, 48, 32, 48, 32, 45, 10, 116, 105, 99, 107, 32, 49, 48, 32, 48, 32, 48, 32, 45, 10]⟩
theorem itoa_0 : Go.Lib.itoa 0 = [48] := by
  rw [show (0 : Int) = ((0 : Nat) : Int) from rfl, Go.Lib.itoa_nonneg, Go.Lib.decDigits_one (by decide)]; rfl
theorem itoa_10 : Go.Lib.itoa 10 = [49, 48] := by
  rw [show (10 : Int) = ((10 : Nat) : Int) from rfl, Go.Lib.itoa_nonneg, Go.Lib.decDigits_two (by decide) (by decide)]; rfl

theorem beg_text : actsS begA 4 = exText.data.toList := by
  have l0 : (begA 0).line = [115, 116, 97, 114, 116, 32, 48, 32, 48, 32, 48, 32, 45, 10] := by
    show sStart.data.toList ++ (32 :: Go.Lib.itoa 0 ++ (32 :: Go.Lib.itoa 0 ++ (32 :: Go.Lib.itoa 0 ++ (32 :: Ac.blade _ ++ [10])))) = _
    rw [itoa_0]; rfl
  have l1 : ∀ i, (begA (i + 1)).line = [116, 105, 99, 107, 32, 49, 48, 32, 48, 32, 48, 32, 45, 10] := by
    intro i
    show sTick.data.toList ++ (32 :: Go.Lib.itoa 10 ++ (32 :: Go.Lib.itoa 0 ++ (32 :: Go.Lib.itoa 0 ++ (32 :: Ac.blade _ ++ [10])))) = _
    rw [itoa_0, itoa_10]; rfl
  show ((([] ++ (begA 0).line) ++ (begA 1).line) ++ (begA 2).line) ++ (begA 3).line = _
  rw [l0, l1 0, l1 1, l1 2]; rfl

theorem beg_acts : actsE 4 begA = 0 := by
  have : ∀ i, (begA i).checkE 100 100 100 = 0 := fun i => by
    rw [check_run]
    cases i with
    | zero => decide +kernel
    | succ i =>
      show (Ac.mk sTick 10 0 0 (-1)).checkX 100 100 100 = 0
      decide +kernel
  unfold actsE
  rw [show decide (((4 : Nat) : Int) > 1024) = false from rfl, cond_false, firstS_zero]
  exact fun j _ _ => this j

theorem a_Print (up : List Ces) (hk : gl g_control_kinds = kindsI) (hg : gl g_internal_strconv_uint64pow10 = powI) (x : ByteArray) (hx : x = exText) : Cs gl n_control_Print up [.lst none 5 4 fun i => (begA i).cs] (.tup [.str x, .int .i64 0]) up := by
  subst hx
  have h := c_Print (gl := gl) up hk hg 4 (by decide) begA
  rw [beg_acts, beg_text] at h
  exact h

def eqAc (a b : Ac) : Bool := eqS a.kind b.kind && (a.wind == b.wind && (a.pitch == b.pitch && (a.tor == b.tor && (a.stuck == b.stuck && true))))
theorem eqAc_refl (a : Ac) : eqAc a a = true := by
  unfold eqAc
  rw [eqS_iff.2 rfl]
  simp

/-- What is read behind each call. -/
def lvAw : List (Nat × List Nat) := [(23, [0, 1, 2, 3, 4, 5, 6, 7, 8, 9, 10, 11, 23]), (24, [0, 1, 2, 3, 4, 5, 6, 7, 8, 9, 10, 11, 23, 24]), (25, [0, 1, 2, 3, 4, 5, 6, 7, 8, 9, 10, 11, 25]), (30, [0, 1, 2, 3, 4, 5, 6, 7, 8, 9, 10, 11, 30]), (31, [0, 1, 2, 3, 4, 5, 6, 7, 8, 9, 10, 11, 30, 31]), (32, [0, 1, 2, 3, 4, 5, 6, 7, 8, 9, 10, 11, 32]), (36, [0, 1, 2, 3, 4, 5, 6, 7, 8, 9, 10, 11, 36]), (38, [0, 1, 2, 3, 4, 5, 6, 7, 8, 9, 10, 11, 38]), (42, [0, 1, 2, 3, 4, 5, 6, 7, 8, 9, 10, 11, 42]), (44, [0, 1, 2, 3, 4, 5, 6, 7, 8, 9, 10, 11, 44]), (49, [0, 1, 2, 3, 4, 5, 6, 7, 8, 9, 10, 11, 49]), (50, [0, 1, 2, 3, 4, 5, 6, 7, 8, 9, 10, 11, 50]), (55, [0, 1, 2, 3, 4, 5, 6, 7, 8, 9, 10, 11, 12, 13, 55]), (58, [0, 1, 2, 3, 4, 5, 6, 7, 8, 9, 10, 11, 12, 13, 58]), (62, [0, 1, 2, 3, 4, 5, 6, 7, 8, 9, 10, 11, 12, 13, 14, 15, 62]), (65, [0, 1, 2, 3, 4, 5, 6, 7, 8, 9, 10, 11, 12, 14, 15, 65]), (69, [0, 1, 2, 3, 4, 5, 6, 7, 8, 9, 10, 11, 12, 14, 15, 16, 17, 69]), (72, [0, 1, 2, 3, 4, 5, 6, 7, 8, 9, 10, 11, 12, 14, 15, 16, 17, 72]), (76, [0, 1, 2, 3, 4, 5, 6, 7, 8, 9, 10, 11, 12, 14, 15, 16, 17, 18, 19, 76]), (77, [0, 1, 2, 3, 4, 5, 6, 7, 8, 9, 10, 11, 12, 14, 15, 16, 17, 18, 19, 77]), (110, [0, 1, 6, 8, 9, 11, 14, 16, 18, 20, 107, 110]), (201, [0, 1, 6, 200, 201]), (204, [0, 200, 204])]
set_option maxHeartbeats 16000000 in
theorem c_awake (up : List Ces) (hk : gl g_control_kinds = kindsI) (hg : gl g_internal_strconv_uint64pow10 = powI) : Cs gl n_nacellelaw05_awake up [] (.bool true) up := by
  obtain ⟨r, hr⟩ : ∃ r, r = sRun := ⟨_, rfl⟩
  obtain ⟨z, hz⟩ : ∃ r, r = sStop := ⟨_, rfl⟩
  obtain ⟨t, ht⟩ : ∃ r, r = sTick := ⟨_, rfl⟩
  obtain ⟨x, hx⟩ : ∃ r, r = exText := ⟨_, rfl⟩
  obtain ⟨f, hf⟩ : ∃ f, f = stp z := ⟨_, rfl⟩
  have h1 := fun up => a_Replay (gl := gl) up hk r hr
  have h2 := fun up => a_Speeds (gl := gl) up hk
  have h3 := fun up => a_Stop (gl := gl) up r z hr hz
  have h4 := fun up => a_Peak (gl := gl) up r hr
  have h5 := fun up => a_Allowed (gl := gl) up hk sRun rfl sTick rfl
  have h6 := fun up => a_Next (gl := gl) up hk sRun rfl sTick rfl
  have h7 := fun up => a_Propose (gl := gl) up sRun rfl t ht
  have h8 := fun up => a_Print (gl := gl) up hk hg x hx
  have h9 := fun up => a_CheckStop (gl := gl) up r z hr hz
  rw [← hf] at h3 h9
  have n5 : ((f 2).speed != 22) = false := by rw [hf]; rfl
  have n6 : ((f 13).speed != 0) = false := by rw [hf]; rfl
  have n1 : (!eqSta (stA r) (stA sRun)) = false := by rw [hr, eqSta_refl]; rfl
  have n2 : (!eqSta (f 1) (stp sStop 1)) = false := by rw [hf, hz, eqSta_refl]; rfl
  have n3 : eqAc ⟨t, 10, 4, 8, -1⟩ ⟨sTick, 10, 4, 8, -1⟩ = true := by rw [ht, eqAc_refl]
  have n4 : eqS x exText = true := eqS_iff.2 hx
  clear hf hz hr ht hx
  refine mk h_nacellelaw05_awake rfl rfl ?_
  conv => whnf
  repeat first
    | (refine DRAW.seek ?_; repeat (first | refine TRYD.take ?_ | refine TRYD.next ?_); conv => whnf)
    | (refine HOLD.mk (by first | exact trivial | exact ⟨⟨rfl, rfl⟩, trivial⟩ | exact ⟨⟨rfl, rfl⟩, ⟨rfl, rfl⟩, trivial⟩) ?_; (conv => whnf))
    | (refine CALL0.cutBy lvAw _ _ _ _ _ (leL_refl _) (c_usual ..) rfl ?_; conv => whnf)
    | (refine CALL0.by (c_usual ..) rfl ?_; conv => whnf)
    | (refine CALLQ.mk _ _ _ (leL_refl _) (c_usual ..) rfl ?_; conv => whnf)
    | (refine CALL0.cutBy lvAw _ _ _ _ _ (leL_refl _) (c_begun ..) rfl ?_; conv => whnf)
    | (refine CALL0.by (c_begun ..) rfl ?_; conv => whnf)
    | (refine CALLQ.mk _ _ _ (leL_refl _) (c_begun ..) rfl ?_; conv => whnf)
    | (refine CALL0.cutBy lvAw _ _ _ _ _ (leL_refl _) (h1 ..) rfl ?_; conv => whnf)
    | (refine CALL0.by (h1 ..) rfl ?_; conv => whnf)
    | (refine CALLQ.mk _ _ _ (leL_refl _) (h1 ..) rfl ?_; conv => whnf)
    | (refine CALL0.cutBy lvAw _ _ _ _ _ (leL_refl _) (h2 ..) rfl ?_; conv => whnf)
    | (refine CALL0.by (h2 ..) rfl ?_; conv => whnf)
    | (refine CALLQ.mk _ _ _ (leL_refl _) (h2 ..) rfl ?_; conv => whnf)
    | (refine CALL0.cutBy lvAw _ _ _ _ _ (leL_refl _) (h3 ..) rfl ?_; conv => whnf)
    | (refine CALL0.by (h3 ..) rfl ?_; conv => whnf)
    | (refine CALLQ.mk _ _ _ (leL_refl _) (h3 ..) rfl ?_; conv => whnf)
    | (refine CALL0.cutBy lvAw _ _ _ _ _ (leL_refl _) (h4 ..) rfl ?_; conv => whnf)
    | (refine CALL0.by (h4 ..) rfl ?_; conv => whnf)
    | (refine CALLQ.mk _ _ _ (leL_refl _) (h4 ..) rfl ?_; conv => whnf)
    | (refine CALL0.cutBy lvAw _ _ _ _ _ (leL_refl _) (a_Table ..) rfl ?_; conv => whnf)
    | (refine CALL0.by (a_Table ..) rfl ?_; conv => whnf)
    | (refine CALLQ.mk _ _ _ (leL_refl _) (a_Table ..) rfl ?_; conv => whnf)
    | (refine CALL0.cutBy lvAw _ _ _ _ _ (leL_refl _) (h5 ..) rfl ?_; conv => whnf)
    | (refine CALL0.by (h5 ..) rfl ?_; conv => whnf)
    | (refine CALLQ.mk _ _ _ (leL_refl _) (h5 ..) rfl ?_; conv => whnf)
    | (refine CALL0.cutBy lvAw _ _ _ _ _ (leL_refl _) (h6 ..) rfl ?_; conv => whnf)
    | (refine CALL0.by (h6 ..) rfl ?_; conv => whnf)
    | (refine CALLQ.mk _ _ _ (leL_refl _) (h6 ..) rfl ?_; conv => whnf)
    | (refine CALL0.cutBy lvAw _ _ _ _ _ (leL_refl _) (h7 ..) rfl ?_; conv => whnf)
    | (refine CALL0.by (h7 ..) rfl ?_; conv => whnf)
    | (refine CALLQ.mk _ _ _ (leL_refl _) (h7 ..) rfl ?_; conv => whnf)
    | (refine CALL0.cutBy lvAw _ _ _ _ _ (leL_refl _) (h8 ..) rfl ?_; conv => whnf)
    | (refine CALL0.by (h8 ..) rfl ?_; conv => whnf)
    | (refine CALLQ.mk _ _ _ (leL_refl _) (h8 ..) rfl ?_; conv => whnf)
  split
  · rename_i h
    exact Bool.noConfusion ((n1).symm.trans h)
  rename_i hN
  clear hN
  conv => whnf
  repeat first
    | (refine DRAW.seek ?_; repeat (first | refine TRYD.take ?_ | refine TRYD.next ?_); conv => whnf)
    | (refine HOLD.mk (by first | exact trivial | exact ⟨⟨rfl, rfl⟩, trivial⟩ | exact ⟨⟨rfl, rfl⟩, ⟨rfl, rfl⟩, trivial⟩) ?_; (conv => whnf))
    | (refine CALL0.cutBy lvAw _ _ _ _ _ (leL_refl _) (a_SameInts ..) rfl ?_; conv => whnf)
    | (refine CALL0.by (a_SameInts ..) rfl ?_; conv => whnf)
    | (refine CALLQ.mk _ _ _ (leL_refl _) (a_SameInts ..) rfl ?_; conv => whnf)
  split
  · rename_i h
    exact Bool.noConfusion ((n2).symm.trans h)
  rename_i hN
  clear hN
  conv => whnf
  split
  · rename_i h
    exact Bool.noConfusion ((n5).symm.trans h)
  rename_i hN
  clear hN
  conv => whnf
  split
  · rename_i h
    exact Bool.noConfusion ((n6).symm.trans h)
  rename_i hN
  clear hN
  conv => whnf
  refine DRAW.seek ?_
  repeat (first | refine TRYD.take ?_ | refine TRYD.next ?_)
  conv => whnf
  split
  rotate_left
  · rename_i h
    exact Bool.noConfusion ((n3).symm.trans h)
  rename_i hN
  clear hN
  conv => whnf
  split
  rotate_left
  · rename_i h
    exact Bool.noConfusion ((n4).symm.trans h)
  rename_i hN
  clear hN
  conv => whnf
  repeat first
    | (refine DRAW.seek ?_; repeat (first | refine TRYD.take ?_ | refine TRYD.next ?_); conv => whnf)
    | (refine HOLD.mk (by first | exact trivial | exact ⟨⟨rfl, rfl⟩, trivial⟩ | exact ⟨⟨rfl, rfl⟩, ⟨rfl, rfl⟩, trivial⟩) ?_; (conv => whnf))
    | (refine CALL0.cutBy lvAw _ _ _ _ _ (leL_refl _) (c_usual ..) rfl ?_; conv => whnf)
    | (refine CALL0.by (c_usual ..) rfl ?_; conv => whnf)
    | (refine CALLQ.mk _ _ _ (leL_refl _) (c_usual ..) rfl ?_; conv => whnf)
    | (refine CALL0.cutBy lvAw _ _ _ _ _ (leL_refl _) (h9 ..) rfl ?_; conv => whnf)
    | (refine CALL0.by (h9 ..) rfl ?_; conv => whnf)
    | (refine CALLQ.mk _ _ _ (leL_refl _) (h9 ..) rfl ?_; conv => whnf)
  exact ⟨rfl, rfl⟩
end Go.Proofs.YtkdlegfakefjgaaGreatDoor.Ix

/-
  Ks0: what several laws of chapter 5 use: small machines, lists of acts, empty lists.
-/
namespace Go.Proofs.YtkdlegfakefjgaaGreatDoor.Ix
open Go.Proofs
set_option maxRecDepth 100000
set_option linter.unusedVariables false
set_option linter.unusedSimpArgs false
variable {gl : Nat → IV}

def Mc.smallB (m : Mc) : Bool := m.err != 0 || (decide (m.fea ≤ 20) && (decide (m.lim ≤ 100) && decide (w64 (10 * m.rate) ≥ m.fea)))

theorem c_rSmall (up : List Ces) (m : Mc) : Cs gl n_nacelleref05_Small up [m.iv] (.bool m.smallB) up := by
  refine mk h_nacelleref05_Small rfl rfl ?_
  unfold Mc.smallB
  cases q0 : (m.err != 0) with
  | true =>
    conv => whnf
    repeat first
      | (refine DRAW.seek ?_; repeat (first | refine TRYD.take ?_ | refine TRYD.next ?_); conv => whnf)
      | (refine HOLD.mk (by first | exact trivial | exact ⟨⟨rfl, rfl⟩, trivial⟩ | exact ⟨⟨rfl, rfl⟩, ⟨rfl, rfl⟩, trivial⟩) ?_; (conv => whnf))
      | (refine CALL0.by (c_rMachine ..) rfl ?_; conv => whnf)
      | (refine CALLQ.mk _ _ _ (leL_refl _) (c_rMachine ..) rfl ?_; conv => whnf)
    split
    rotate_left
    · rename_i h
      exact Bool.noConfusion ((q0).symm.trans h)
    rename_i hN
    clear hN
    conv => whnf
    exact ⟨rfl, rfl⟩
  | false =>
  cases q1 : decide (m.fea ≤ 20) with
  | false =>
    conv => whnf
    repeat first
      | (refine DRAW.seek ?_; repeat (first | refine TRYD.take ?_ | refine TRYD.next ?_); conv => whnf)
      | (refine HOLD.mk (by first | exact trivial | exact ⟨⟨rfl, rfl⟩, trivial⟩ | exact ⟨⟨rfl, rfl⟩, ⟨rfl, rfl⟩, trivial⟩) ?_; (conv => whnf))
      | (refine CALL0.by (c_rMachine ..) rfl ?_; conv => whnf)
      | (refine CALLQ.mk _ _ _ (leL_refl _) (c_rMachine ..) rfl ?_; conv => whnf)
    split
    · rename_i h
      exact Bool.noConfusion ((q0).symm.trans h)
    rename_i hN
    clear hN
    conv => whnf
    split
    · rename_i h
      exact Bool.noConfusion ((q1).symm.trans h)
    rename_i hN
    clear hN
    conv => whnf
    exact ⟨rfl, rfl⟩
  | true =>
  cases q2 : decide (m.lim ≤ 100) with
  | false =>
    conv => whnf
    repeat first
      | (refine DRAW.seek ?_; repeat (first | refine TRYD.take ?_ | refine TRYD.next ?_); conv => whnf)
      | (refine HOLD.mk (by first | exact trivial | exact ⟨⟨rfl, rfl⟩, trivial⟩ | exact ⟨⟨rfl, rfl⟩, ⟨rfl, rfl⟩, trivial⟩) ?_; (conv => whnf))
      | (refine CALL0.by (c_rMachine ..) rfl ?_; conv => whnf)
      | (refine CALLQ.mk _ _ _ (leL_refl _) (c_rMachine ..) rfl ?_; conv => whnf)
    split
    · rename_i h
      exact Bool.noConfusion ((q0).symm.trans h)
    rename_i hN
    clear hN
    conv => whnf
    split
    rotate_left
    · rename_i h
      exact Bool.noConfusion ((q1).symm.trans h)
    rename_i hN
    clear hN
    conv => whnf
    split
    · rename_i h
      exact Bool.noConfusion ((q2).symm.trans h)
    rename_i hN
    clear hN
    conv => whnf
    exact ⟨rfl, rfl⟩
  | true =>
    conv => whnf
    repeat first
      | (refine DRAW.seek ?_; repeat (first | refine TRYD.take ?_ | refine TRYD.next ?_); conv => whnf)
      | (refine HOLD.mk (by first | exact trivial | exact ⟨⟨rfl, rfl⟩, trivial⟩ | exact ⟨⟨rfl, rfl⟩, ⟨rfl, rfl⟩, trivial⟩) ?_; (conv => whnf))
      | (refine CALL0.by (c_rMachine ..) rfl ?_; conv => whnf)
      | (refine CALLQ.mk _ _ _ (leL_refl _) (c_rMachine ..) rfl ?_; conv => whnf)
    split
    · rename_i h
      exact Bool.noConfusion ((q0).symm.trans h)
    rename_i hN
    clear hN
    conv => whnf
    split
    rotate_left
    · rename_i h
      exact Bool.noConfusion ((q1).symm.trans h)
    rename_i hN
    clear hN
    conv => whnf
    split
    rotate_left
    · rename_i h
      exact Bool.noConfusion ((q2).symm.trans h)
    rename_i hN
    clear hN
    conv => whnf
    exact ⟨rfl, rfl⟩

theorem small_ok {m : Mc} (h : m.smallB = true) (h0 : m.err = 0) : m.ok ∧ m.fea ≤ 20 ∧ m.lim ≤ 100 ∧ m.fea ≤ 10 * m.rate := by
  have hm := Mc.err_ok h0
  unfold Mc.smallB at h
  rw [show (m.err != 0) = false by simpa using h0, Bool.false_or, Bool.and_eq_true, Bool.and_eq_true] at h
  obtain ⟨a, b, c⟩ := h
  have a := of_decide_eq_true a
  have b := of_decide_eq_true b
  have c := of_decide_eq_true c
  have := hm.rate
  have := hm.fea
  rw [w64, wrap_in (by omega) (by omega)] at c
  exact ⟨hm, a, b, c⟩

theorem orL_ne {a : Int} {r : List Int} (h : (a != 0) = true) : orL (a :: r) = a := orE_ne h
theorem orL_0 {r : List Int} : orL (0 :: r) = orL r := rfl

theorem c_toldNil (up : List Ces) : Cs gl n_nacellelaw05_told up [.nilS] (.lst (some 15) 7 0 fun i => Sta.zero.cs) up :=
  Comp.le (args' := [.lst none 7 0 fun i => Sta.zero.cs]) ⟨rfl, trivial⟩ (c_told up 0 (by decide) fun _ => Sta.zero)
theorem c_sameNil (up : List Ces) : Cs gl n_nacelleref05_SameStates up [.lst none 7 0 fun i => Sta.zero.cs, .nilS] (.bool true) up :=
  Comp.le (args' := [.lst none 7 0 fun i => Sta.zero.cs, .lst none 7 0 fun i => Sta.zero.cs]) ⟨leV_refl _, rfl, trivial⟩ (c_rSameStates up 0 0 (by decide) (fun _ => Sta.zero) fun _ => Sta.zero)

theorem sameSt_refl (n : Nat) (f : Nat → Sta) : sameSt n n f f = true := by
  unfold sameSt
  rw [show ((n : Int) != n) = false by simp, cond_false]
  have : ∀ n i, allB (fun i => eqSta (f i) (f i)) n i = true := by
    intro n
    induction n with
    | zero => intro i; rfl
    | succ n ih => intro i; unfold allB; rw [ih, eqSta_refl]; rfl
  exact this n 0

theorem c_acts (up : List Ces) (n : Nat) (hn : n ≤ 10000000) (f : Nat → Ac) : Cs gl n_nacellelaw05_acts up [.lst none 5 n fun i => (f i).cs] (.lst (some 15) 5 n fun i => (f i).cs) up := by
  refine mk h_nacellelaw05_acts rfl rfl ?_
  conv => whnf
  let F : Nat → List IV := fun i => (f i).cs
  refine .mk (α := {i : Nat // i ≤ n}) (fun i => ⟨[(8, .int .i64 i.1), (7, .int .i64 n), (6, .lst none 5 n F), (3, .lst (some 15) 5 i.1 F)], [], up⟩) (fun i => n - i.1) ⟨0, Nat.zero_le _⟩ ⟨?_, trivial, rfl, rfl⟩ ?_
  · exact ⟨leV_refl _, leV_refl _, leV_refl _, rfl, trivial⟩
  rintro ⟨i, hi⟩
  have hw : w64 ((i : Int) + 1) = ((i + 1 : Nat) : Int) := by rw [w64, wrap_in] <;> omega
  by_cases hlt : i < n
  · have q : decide ((i : Int) < n) = true := decide_eq_true (by omega)
    conv => whnf
    split
    rotate_left
    · rename_i h
      exact Bool.noConfusion ((q).symm.trans h)
    rename_i hN
    clear hN
    conv => whnf
    split
    rotate_left
    · rename_i h
      exact Bool.noConfusion ((q).symm.trans h)
    rename_i hN
    clear hN
    conv => whnf
    split
    rotate_left
    · rename_i h
      have h' : decide (i + 1 ≤ 1073741824) = false := h
      simp at h' <;> omega
    conv => whnf
    refine ⟨⟨i + 1, hlt⟩, ⟨⟨leV_int hw, leV_refl _, leV_refl _, ⟨.inr rfl, rfl, rfl, fun j hj => ?_⟩, trivial⟩, trivial, rfl, rfl⟩, (by show n - (i + 1) < n - i; omega)⟩
    show (if j < i then F j else litF 5 (F i) (j - i)) = F j
    split
    · rfl
    · have : j = i := by have : j < i + 1 := hj; omega
      subst this; rw [Nat.sub_self]; rfl
  · have q : decide ((i : Int) < n) = false := decide_eq_false (by omega)
    have : i = n := by omega
    subst this
    conv => whnf
    split
    · rename_i h
      exact Bool.noConfusion ((q).symm.trans h)
    rename_i hN
    clear hN
    conv => whnf
    exact ⟨rfl, rfl⟩
theorem c_own (up : List Ces) (n : Nat) (hn : n ≤ 10000000) (f : Nat → Ac) : Cs gl n_nacellelaw05_own up [.lst none 5 n fun i => (f i).cs] (.lst (some 15) 5 n fun i => (f i).cs) up := by
  refine mk h_nacellelaw05_own rfl rfl ?_
  conv => whnf
  let F : Nat → List IV := fun i => (f i).cs
  refine .mk (α := {i : Nat // i ≤ n}) (fun i => ⟨[(8, .int .i64 i.1), (7, .int .i64 n), (6, .lst none 5 n F), (3, .lst (some 15) 5 i.1 F)], [], up⟩) (fun i => n - i.1) ⟨0, Nat.zero_le _⟩ ⟨?_, trivial, rfl, rfl⟩ ?_
  · exact ⟨leV_refl _, leV_refl _, leV_refl _, rfl, trivial⟩
  rintro ⟨i, hi⟩
  have hw : w64 ((i : Int) + 1) = ((i + 1 : Nat) : Int) := by rw [w64, wrap_in] <;> omega
  by_cases hlt : i < n
  · have q : decide ((i : Int) < n) = true := decide_eq_true (by omega)
    conv => whnf
    split
    rotate_left
    · rename_i h
      exact Bool.noConfusion ((q).symm.trans h)
    rename_i hN
    clear hN
    conv => whnf
    split
    rotate_left
    · rename_i h
      exact Bool.noConfusion ((q).symm.trans h)
    rename_i hN
    clear hN
    conv => whnf
    split
    rotate_left
    · rename_i h
      have h' : decide (i + 1 ≤ 1073741824) = false := h
      simp at h' <;> omega
    conv => whnf
    refine ⟨⟨i + 1, hlt⟩, ⟨⟨leV_int hw, leV_refl _, leV_refl _, ⟨.inr rfl, rfl, rfl, fun j hj => ?_⟩, trivial⟩, trivial, rfl, rfl⟩, (by show n - (i + 1) < n - i; omega)⟩
    show (if j < i then F j else litF 5 (F i) (j - i)) = F j
    split
    · rfl
    · have : j = i := by have : j < i + 1 := hj; omega
      subst this; rw [Nat.sub_self]; rfl
  · have q : decide ((i : Int) < n) = false := decide_eq_false (by omega)
    have : i = n := by omega
    subst this
    conv => whnf
    split
    · rename_i h
      exact Bool.noConfusion ((q).symm.trans h)
    rename_i hN
    clear hN
    conv => whnf
    exact ⟨rfl, rfl⟩
end Go.Proofs.YtkdlegfakefjgaaGreatDoor.Ix

/-
  IxSh: the shapes of blades and flows, and the blades and flows that fit them.
-/
namespace Go.Proofs.YtkdlegfakefjgaaGreatDoor.Ix

abbrev intS : Shp := .int .i64
def intAt (l : List IV) (j : Nat) : Int := match l[j]? with
  | some (.int _ n) => n
  | _ => 0

theorem fit_ints : ∀ (n : Nat) (xs : List IV), FitL (List.replicate n (1, intS)) xs → xs = (List.range n).map fun j => IV.int .i64 (intAt xs j)
  | 0, xs, h => by simpa [FitL] using h
  | n + 1, xs, h => by
    simp only [List.replicate_succ, FitL] at h
    obtain ⟨ys, zs, rfl, hl, ⟨m, rfl, _⟩, h2⟩ := h
    have ih := fit_ints n zs h2
    rw [List.range_succ_eq_map, List.map_cons, List.map_map]
    refine List.cons_eq_cons.2 ⟨rfl, ?_⟩
    show zs = _
    rw [show ((fun j => IV.int .i64 (intAt ([IV.int .i64 m] ++ zs) j)) ∘ Nat.succ) = fun j => IV.int .i64 (intAt zs j) from by funext j; simp [intAt]]
    exact ih

theorem leL_append : ∀ {xs ys us vs : List IV}, leL xs us → leL ys vs → leL (xs ++ ys) (us ++ vs)
  | [], _, [], _, _, h => h
  | [], _, _ :: _, _, h, _ => h.elim
  | _ :: _, _, [], _, h, _ => h.elim
  | _ :: _, _, _ :: _, _, h, k => ⟨h.1, leL_append h.2 k⟩

theorem fit_u8s : ∀ (n : Nat) (xs : List IV), FitL (List.replicate n (1, .int .u8)) xs → xs = (List.range n).map (fun j => IV.int .u8 (intAt xs j)) ∧ ∀ j, j < n → 0 ≤ intAt xs j ∧ intAt xs j < 256
  | 0, xs, h => by
    simp only [List.replicate_zero, FitL] at h
    exact ⟨by simpa using h, fun j hj => by omega⟩
  | n + 1, xs, h => by
    simp only [List.replicate_succ, FitL] at h
    obtain ⟨ys, zs, rfl, hl, ⟨m, rfl, hw⟩, h2⟩ := h
    obtain ⟨ih, ih2⟩ := fit_u8s n zs h2
    refine ⟨?_, fun j hj => ?_⟩
    · rw [List.range_succ_eq_map, List.map_cons, List.map_map]
      refine List.cons_eq_cons.2 ⟨rfl, ?_⟩
      show zs = _
      rw [show ((fun j => IV.int .u8 (intAt ([IV.int .u8 m] ++ zs) j)) ∘ Nat.succ) = fun j => IV.int .u8 (intAt zs j) from by funext j; simp [intAt]]
      exact ih
    · cases j with
      | zero =>
        have e : intAt ([IV.int .u8 m] ++ zs) 0 = m := rfl
        rw [e]
        simp [Lit.wf, IntKind.min, IntKind.max, IntKind.signed, IntKind.bits] at hw
        omega
      | succ j =>
        have e : intAt ([IV.int .u8 m] ++ zs) (j + 1) = intAt zs j := by simp [intAt]
        rw [e]; exact ih2 j (by omega)

end Go.Proofs.YtkdlegfakefjgaaGreatDoor.Ix

/-
  IxSh2: pairs, loads, whole numbers that fit their shapes.
-/
namespace Go.Proofs.YtkdlegfakefjgaaGreatDoor.Ix

abbrev tripShp : Shp := .agg [(1, intS), (1, intS), (1, intS)]

theorem cells3 {ys : List IV} (h : Fit tripShp ys) : ∃ a b c, ys = [.int .i64 a, .int .i64 b, .int .i64 c] := by
  have := fit_ints 3 ys h
  exact ⟨intAt ys 0, intAt ys 1, intAt ys 2, by rw [this]; simp [intAt, List.range, List.range.loop]⟩
theorem cells1 {ys : List IV} (h : Fit intS ys) : ∃ a, ys = [.int .i64 a] := by
  obtain ⟨m, rfl, _⟩ := h
  exact ⟨m, rfl⟩

end Go.Proofs.YtkdlegfakefjgaaGreatDoor.Ix

/-
  Kf1: what fits the shapes of machines, states and acts, and of lists of them.
-/
namespace Go.Proofs.YtkdlegfakefjgaaGreatDoor.Ix
open Go.Proofs
set_option linter.unusedVariables false
set_option linter.unusedSimpArgs false

abbrev machShp : Shp := .agg [(1, intS), (1, intS), (1, intS), (1, intS), (1, intS), (1, intS), (1, intS)]
abbrev stateShp : Shp := .agg [(1, .str), (1, intS), (3, .agg [(1, intS), (1, intS), (1, intS)]), (1, intS), (1, intS)]
abbrev actShp : Shp := .agg [(1, .str), (1, intS), (1, intS), (1, intS), (1, intS)]

theorem fit_mach {v : IV} (h : FitV machShp v) : ∃ m : Mc, v = m.iv := by
  obtain ⟨xs, rfl, h⟩ := h
  have := fit_ints 7 xs h
  exact ⟨⟨intAt xs 0, intAt xs 1, intAt xs 2, intAt xs 3, intAt xs 4, intAt xs 5, intAt xs 6⟩, by rw [this]; simp [intAt, List.range, List.range.loop, Mc.iv]⟩

theorem cellsS {ys : List IV} (h : Fit .str ys) : ∃ s, ys = [.str s] ∧ s.size ≤ maxLen := by
  obtain ⟨s, rfl, h⟩ := h
  exact ⟨s, rfl, h⟩

theorem cells_state {xs : List IV} (h : Fit stateShp xs) : ∃ s : Sta, xs = s.cs ∧ s.mode.size ≤ maxLen := by
  unfold stateShp at h
  simp only [Fit, FitL] at h
  obtain ⟨y1, z1, rfl, _, h1, y2, z2, rfl, _, h2, y3, z3, rfl, _, h3, y4, z4, rfl, _, h4, y5, z5, rfl, _, h5, rfl⟩ := h
  obtain ⟨a, rfl, ha⟩ := h1
  obtain ⟨b, rfl⟩ := cells1 h2
  obtain ⟨p, q, r, rfl⟩ := cells3 h3
  obtain ⟨t, rfl⟩ := cells1 h4
  obtain ⟨u, rfl⟩ := cells1 h5
  exact ⟨⟨a, b, p, q, r, t, u⟩, rfl, ha⟩

theorem fit_state {v : IV} (h : FitV stateShp v) : ∃ s : Sta, v = s.iv ∧ s.mode.size ≤ maxLen := by
  obtain ⟨xs, rfl, h⟩ := h
  obtain ⟨s, rfl, hs⟩ := cells_state h
  exact ⟨s, rfl, hs⟩

theorem cells_act {xs : List IV} (h : Fit actShp xs) : ∃ a : Ac, xs = a.cs ∧ a.kind.size ≤ maxLen := by
  unfold actShp at h
  simp only [Fit, FitL] at h
  obtain ⟨y1, z1, rfl, _, h1, y2, z2, rfl, _, h2, y3, z3, rfl, _, h3, y4, z4, rfl, _, h4, y5, z5, rfl, _, h5, rfl⟩ := h
  obtain ⟨a, rfl, ha⟩ := h1
  obtain ⟨b, rfl⟩ := cells1 h2
  obtain ⟨c, rfl⟩ := cells1 h3
  obtain ⟨t, rfl⟩ := cells1 h4
  obtain ⟨u, rfl⟩ := cells1 h5
  exact ⟨⟨a, b, c, t, u⟩, rfl, ha⟩

theorem fit_act {v : IV} (h : FitV actShp v) : ∃ a : Ac, v = a.iv ∧ a.kind.size ≤ maxLen := by
  obtain ⟨xs, rfl, h⟩ := h
  obtain ⟨s, rfl, hs⟩ := cells_act h
  exact ⟨s, rfl, hs⟩

noncomputable def staAt (f : Nat → List IV) (i : Nat) : Sta := open Classical in if h : ∃ s : Sta, f i = s.cs then h.choose else Sta.zero
theorem staAt_eq {f : Nat → List IV} {i : Nat} (h : ∃ s : Sta, f i = s.cs) : f i = (staAt f i).cs := by
  unfold staAt
  rw [dif_pos h]
  exact h.choose_spec
noncomputable def acAt (f : Nat → List IV) (i : Nat) : Ac := open Classical in if h : ∃ s : Ac, f i = s.cs then h.choose else ⟨ByteArray.empty, 0, 0, 0, 0⟩
theorem acAt_eq {f : Nat → List IV} {i : Nat} (h : ∃ s : Ac, f i = s.cs) : f i = (acAt f i).cs := by
  unfold acAt
  rw [dif_pos h]
  exact h.choose_spec

theorem cells_states {xs : List IV} (h : Fit (.slice 7 stateShp) xs) : ∃ (n : Nat) (f : Nat → Sta), n ≤ maxLen ∧ leL xs [.lst none 7 n fun i => (f i).cs] := by
  obtain ⟨n, f, rfl, hn, hf⟩ := h
  refine ⟨n, staAt f, hn, ⟨.inl rfl, rfl, rfl, fun i hi => staAt_eq ?_⟩, trivial⟩
  obtain ⟨_, hf⟩ := hf i hi
  obtain ⟨s, hs, _⟩ := cells_state hf
  exact ⟨s, hs⟩

theorem fit_acts {v : IV} (h : FitV (.slice 5 actShp) v) : ∃ (n : Nat) (f : Nat → Ac), n ≤ maxLen ∧ leV v (.lst none 5 n fun i => (f i).cs) := by
  obtain ⟨n, f, h, hn, hf⟩ := h
  obtain rfl := (List.cons.inj h).1
  refine ⟨n, acAt f, hn, .inl rfl, rfl, rfl, fun i hi => acAt_eq ?_⟩
  obtain ⟨_, hf⟩ := hf i hi
  obtain ⟨s, hs, _⟩ := cells_act hf
  exact ⟨s, hs⟩

theorem fit_claim {v : IV} (h : FitV (.agg [(1, intS), (1, .slice 7 stateShp)]) v) : ∃ (a : Int) (n : Nat) (f : Nat → Sta), n ≤ maxLen ∧ leV v (.agg [.int .i64 a, .lst none 7 n fun i => (f i).cs]) := by
  obtain ⟨xs, rfl, h⟩ := h
  simp only [FitL] at h
  obtain ⟨y1, z1, rfl, _, h1, y2, z2, rfl, _, h2, rfl⟩ := h
  obtain ⟨a, rfl⟩ := cells1 h1
  obtain ⟨n, f, hn, hl⟩ := cells_states h2
  refine ⟨a, n, f, hn, ?_⟩
  have := leL_append (show leL [IV.int .i64 a] [.int .i64 a] from ⟨leV_refl _, trivial⟩) hl
  simpa [leV] using this

theorem fit_ints1 {v : IV} (h : FitV (.slice 1 intS) v) : ∃ (n : Nat) (f : Nat → Int), n ≤ maxLen ∧ leV v (.lst none 1 n fun i => [.int .i64 (f i)]) := by
  obtain ⟨n, f, h, hn, hf⟩ := h
  obtain rfl := (List.cons.inj h).1
  refine ⟨n, fun i => intAt (f i) 0, hn, .inl rfl, rfl, rfl, fun i hi => ?_⟩
  obtain ⟨_, m, hm, _⟩ := hf i hi
  show f i = [.int .i64 (intAt (f i) 0)]
  rw [hm]; rfl

theorem fit_u8pair {v : IV} (h : FitV (.agg [(1, .int .u8), (1, .int .u8)]) v) : ∃ a b, v = .agg [.int .u8 a, .int .u8 b] ∧ (0 ≤ a ∧ a < 256) ∧ (0 ≤ b ∧ b < 256) := by
  obtain ⟨xs, rfl, h⟩ := h
  obtain ⟨e, hb⟩ := fit_u8s 2 xs h
  exact ⟨intAt xs 0, intAt xs 1, by rw [e]; simp [intAt, List.range, List.range.loop], hb 0 (by decide), hb 1 (by decide)⟩
end Go.Proofs.YtkdlegfakefjgaaGreatDoor.Ix

/-
  Ix33: the tables that a row lists as laid, as what is told of the variables.
-/
namespace Go.Proofs.YtkdlegfakefjgaaGreatDoor.Ix
open Go.RowKit
set_option linter.unusedVariables false

theorem laid_in {P : Program} {w : World} {n : String} {d : DataW Unit} : ∀ {l : List (String × DataW Unit)} {ps : List MemPlace}, DataW.LaidVars P w l ps → (n, d) ∈ l →
    ∃ g t cs fuel p, P.globalNamed n = some g ∧ (P.globals[g]?).map (·.type) = some t ∧ w.var? P n = some cs ∧ DataW.trod (fun _ => ()) P w 0 (fun _ => true) false fuel t cs.toList = some (d, p)
  | [], ps, _, hm => by cases hm
  | (m, e) :: r, ps, h, hm => by
    simp only [DataW.LaidVars] at h
    obtain ⟨g, t, cs, fuel, p, q, h1, h2, h3, h4, h5, _⟩ := h
    cases hm with
    | head => exact ⟨g, t, cs, fuel, p, h1, h2, h3, h4⟩
    | tail _ hm => exact laid_in h5 hm

theorem laid_tab {P : Program} {w : World} {laid : List (String × DataW Unit)} (h : laidMetH P laid w) (hp : (laid.all fun x => x.2.handleName?.isNone) = true) {n : String} {d : DataW Unit} {g t : Nat} (hm : (n, d) ∈ laid)
    (hg : P.globalNamed n = some g) (ht : (P.globals[g]?).map (·.type) = some t) {s : Shp} (hs : shpB P s t = true) (hf : flatS s = true) {vs : List Value} (hv : flatD d = vs) :
    (∀ j, w.cell? ⟨g, j, none⟩ = vs[j]?) ∧ ∃ arr el m, w.heap[g]? = some (.cells arr el m) ∧ arr.size = vs.length := by
  rw [MakeChecks.laidMetH_plain _ _ _ hp] at h
  obtain ⟨ps, h, _, _⟩ := h
  obtain ⟨g0, t0, cs0, f0, p0, hg0, ht0, hv0, hd0⟩ := laid_in h hm
  obtain rfl := Option.some.inj (hg.symm.trans hg0)
  obtain rfl := Option.some.inj (ht.symm.trans ht0)
  have hfl := flat_of_trod s _ (shp_ok _ _ hs) hf _ _ _ hd0
  have hcs : cs0.toList = vs := by rw [← hfl]; exact hv
  refine ⟨fun j => ?_, ?_⟩
  · have := World.var?_cell hg0 hv0 j
    rw [← hcs]
    simpa using this
  · unfold World.var? at hv0
    rw [hg0] at hv0
    simp only [Option.bind_some] at hv0
    split at hv0
    · rename_i arr el m he
      cases hv0
      exact ⟨_, _, _, he, by rw [← hcs]; simp⟩
    · cases hv0

/-- A row of integers at a variable's head. -/
theorem D_tab {I : Imm} {g : Nat} (xs : List IV) (vs : List Value) (hl : xs.length = vs.length) (hI : ∀ j v, vs[j]? = some v → I ⟨g, j, none⟩ = some v)
    (hx : ∀ (j : Nat) x, xs[j]? = some x → ∃ k z, x = .int k z ∧ vs[j]? = some (.int k z)) : D I (.vptr xs.length 1 (fun _ => xs) 0 0) (.pointer (some ⟨g, 0, none⟩)) := by
  have hat : ∀ j, j < xs.length → vs[j]? = some (vs.getD j undef) := fun j hj => by
    rw [List.getD_eq_getElem?_getD, List.getElem?_eq_getElem (by omega)]; rfl
  have := D.vptr (I := I) xs.length 1 (fun _ => xs) 0 0 g 0 (fun _ j => vs.getD j undef) (by decide) (fun _ _ => rfl)
    (fun i j hi hj => by
      have : i = 0 := by omega
      subst this
      simp only [Nat.zero_mul, Nat.zero_add]
      exact hI j _ (hat j hj))
    (fun i j hi hj => by
      obtain ⟨k, z, _, e⟩ := hx j _ (List.getElem?_eq_getElem hj)
      show (vs.getD j undef).oneCell' = true
      rw [List.getD_eq_getElem?_getD, e]; rfl)
    (fun i j x hi hxj => by
      obtain ⟨k, z, rfl, e⟩ := hx j x hxj
      show D I _ (vs.getD j undef)
      rw [List.getD_eq_getElem?_getD, e]; exact .int k z)
  simpa using this

/-- A row of values at a variable's head. -/
theorem D_tabG {I : Imm} {g : Nat} (xs : List IV) (vs : List Value) (hl : xs.length = vs.length) (hI : ∀ j v, vs[j]? = some v → I ⟨g, j, none⟩ = some v)
    (hx : ∀ (j : Nat) x, xs[j]? = some x → ∃ v, vs[j]? = some v ∧ v.oneCell' = true ∧ D I x v) : D I (.vptr xs.length 1 (fun _ => xs) 0 0) (.pointer (some ⟨g, 0, none⟩)) := by
  have hat : ∀ j, j < xs.length → vs[j]? = some (vs.getD j undef) := fun j hj => by
    rw [List.getD_eq_getElem?_getD, List.getElem?_eq_getElem (by omega)]; rfl
  have := D.vptr (I := I) xs.length 1 (fun _ => xs) 0 0 g 0 (fun _ j => vs.getD j undef) (by decide) (fun _ _ => rfl)
    (fun i j hi hj => by
      have : i = 0 := by omega
      subst this
      simp only [Nat.zero_mul, Nat.zero_add]
      exact hI j _ (hat j hj))
    (fun i j hi hj => by
      obtain ⟨v, e, h1, _⟩ := hx j _ (List.getElem?_eq_getElem hj)
      show (vs.getD j undef).oneCell' = true
      rw [List.getD_eq_getElem?_getD, e]; exact h1)
    (fun i j x hi hxj => by
      obtain ⟨v, e, _, h2⟩ := hx j x hxj
      show D I _ (vs.getD j undef)
      rw [List.getD_eq_getElem?_getD, e]; exact h2)
  simpa using this
end Go.Proofs.YtkdlegfakefjgaaGreatDoor.Ix

/-
  RowC: what all rows of the seat of chapter 5 share: the tables that are laid, the start that meets them.
-/
namespace Go.Proofs.YtkdlegfakefjgaaGreatDoor
open Go Go.ChangeShapes Go.WideShapes Go.ChangeAt Go.RowKit Go.Proofs.YtkdlegfakefjgaaGreatDoor.Ix
set_option linter.unusedVariables false

theorem own : ownKnob Tryz.prog.godebug = none := by kernel_rfl
theorem laidOut : laidOutB Tryz.prog = true := by kernel_rfl
theorem gKinds : Tryz.prog.globalNamed "nacelle/control.kinds" = some 0 := by kernel_rfl
theorem tKinds : (Tryz.prog.globals[0]?).map (·.type) = some 155 := by kernel_rfl
noncomputable abbrev laid4 : List (String × DataW Unit) := [("math/bits.deBruijn32tab", Rows.laid_math_bits_deBruijn32tab), ("math/bits.deBruijn64tab", Rows.laid_math_bits_deBruijn64tab), ("internal/strconv.uint64pow10", Rows.laid_internal_strconv_uint64pow10), ("nacelle/control.kinds", Rows.laid_nacelle_control_kinds)]
theorem plain4 : (laid4.all fun x => x.2.handleName?.isNone) = true := by kernel_rfl
abbrev kindsShp : Shp := .agg (List.replicate 6 (1, .str))
abbrev powShp : Shp := .agg (List.replicate 20 (1, .int .u64))
theorem shapeKinds : shpB Tryz.prog kindsShp 155 = true := by kernel_rfl

theorem door_met (os : Os) (args : Array Value) : laidMetH Tryz.prog laid4 ((World.doorLaid Tryz.prog 400 os).forCall (fun _ _ => 0) ⟨#[], args, []⟩).memory :=
  laidMetH_of_parts3 (fuel := 8) (laidMet_of_run' 8 (by kernel_rfl) (by kernel_rfl)) (by kernel_rfl) (by kernel_rfl)

/-- What is told of the package's variables. -/
noncomputable def gl4 : Nat → IV := fun g => match g with
  | 0 => kindsI
  | 1 => powI
  | _ => .dead

abbrev kindsV : List Value := [.string sBrake, .string sRepair, .string sRest, .string sStart, .string sStop, .string sTick]

theorem kinds_in {W : World} (h : laidMetH Tryz.prog laid4 W) : (∀ j, W.cell? ⟨0, j, none⟩ = kindsV[j]?) ∧ ∃ arr el m, W.heap[0]? = some (.cells arr el m) ∧ arr.size = kindsV.length :=
  laid_tab h plain4 (d := Rows.laid_nacelle_control_kinds) (by simp) gKinds tKinds shapeKinds rfl rfl
theorem tPow : (Tryz.prog.globals[1]?).map (·.type) = some 233 := by kernel_rfl
theorem shapePow : shpB Tryz.prog powShp 233 = true := by kernel_rfl
noncomputable abbrev powV : List Value := Go.Lib.pow10Tab.map fun z => .int .u64 z
theorem pow_in {W : World} (h : laidMetH Tryz.prog laid4 W) : (∀ j, W.cell? ⟨1, j, none⟩ = powV[j]?) ∧ ∃ arr el m, W.heap[1]? = some (.cells arr el m) ∧ arr.size = powV.length :=
  laid_tab h plain4 (d := Rows.laid_internal_strconv_uint64pow10) (by simp) gPow tPow shapePow (by decide) (by kernel_rfl)

theorem glo4 {W : World} (h : laidMetH Tryz.prog laid4 W) : ∀ g, D (fun a => W.cell? a) (gl4 g) (.pointer (some ⟨g, 0, none⟩)) := by
  intro g
  match g with
  | 0 =>
    refine D_tabG [.str sBrake, .str sRepair, .str sRest, .str sStart, .str sStop, .str sTick] kindsV rfl (fun j v hv => by rw [(kinds_in h).1]; exact hv) fun j x hx => ?_
    match j, hx with
    | 0, hx | 1, hx | 2, hx | 3, hx | 4, hx | 5, hx => cases hx; exact ⟨_, rfl, rfl, .str _⟩
    | _ + 6, hx => cases hx
  | 1 =>
    have := D_tab (I := fun a => W.cell? a) (g := 1) (Go.Lib.pow10Tab.map fun z => IV.int .u64 z) powV (by simp) (fun j v hv => by rw [(pow_in h).1]; exact hv) fun j x hx => by
      rw [List.getElem?_map, Option.map_eq_some_iff] at hx
      obtain ⟨z, hz, rfl⟩ := hx
      exact ⟨_, _, rfl, by rw [List.getElem?_map, hz]; rfl⟩
    rw [List.length_map] at this
    exact this
  | _ + 2 => exact .dead _

theorem gsz4 {W : World} (h : laidMetH Tryz.prog laid4 W) : Gsz gl4 W := by
  intro g e n f i j hg hn he
  match g, hg with
  | 0, hg =>
    have hg : kindsI = .vptr e n f i j := hg
    injection hg with h1 h2
    subst h1; subst h2
    obtain ⟨arr, el, m, k1, k2⟩ := (kinds_in h).2
    exact ⟨arr, el, m, k1, by rw [k2]; rfl⟩
  | 1, hg =>
    have hg : powI = .vptr e n f i j := hg
    injection hg with h1 h2
    subst h1; subst h2
    obtain ⟨arr, el, m, k1, k2⟩ := (pow_in h).2
    exact ⟨arr, el, m, k1, by rw [k2]; simp⟩
  | _ + 2, hg => cases hg
end Go.Proofs.YtkdlegfakefjgaaGreatDoor

/-
  Cr5: contracts of the reference's functions for acts: what is behind them, the rules, Next, Propose.
-/
namespace Go.Proofs.YtkdlegfakefjgaaGreatDoor.Ix
open Go.Proofs
set_option maxRecDepth 100000
set_option linter.unusedVariables false
set_option linter.unusedSimpArgs false
variable {gl : Nat → IV}

set_option maxHeartbeats 8000000 in
theorem c_rafter (up : List Ces) (m : Mc) (s : Sta) (a : Ac) (hm : m.ok) (hs : s.rng m) (ha : a.ok m) : Cs gl n_nacelleref05_after up [m.iv, s.iv, a.iv] (s.behindW m a).iv up := by
  have hw := hm.wind
  have ht := hm.tor
  have a1 := ha.wind
  have a2 := ha.pitch
  have a3 := ha.tor
  refine mk h_nacelleref05_after rfl rfl ?_
  unfold Sta.behindW
  cases q1 : eqS a.kind sStart with
  | true =>
    conv => whnf
    split
    rotate_left
    · rename_i h
      exact Bool.noConfusion ((q1).symm.trans h)
    rename_i hN
    clear hN
    conv => whnf
    exact ⟨rfl, rfl⟩
  | false =>
  cases q2 : eqS a.kind sTick with
  | true =>
    have h := fun up => c_rstepped (gl := gl) up m s a.wind a.pitch a.tor a.stuck
    rw [stepR_eq hm hs (by omega) a2 (by omega)] at h
    conv => whnf
    split
    · rename_i h
      exact Bool.noConfusion ((q1).symm.trans h)
    rename_i hN
    clear hN
    conv => whnf
    split
    rotate_left
    · rename_i h
      exact Bool.noConfusion ((q2).symm.trans h)
    rename_i hN
    clear hN
    conv => whnf
    repeat first
      | (refine DRAW.seek ?_; repeat (first | refine TRYD.take ?_ | refine TRYD.next ?_); conv => whnf)
      | (refine HOLD.mk (by first | exact trivial | exact ⟨⟨rfl, rfl⟩, trivial⟩ | exact ⟨⟨rfl, rfl⟩, ⟨rfl, rfl⟩, trivial⟩) ?_; (conv => whnf))
      | (refine CALL0.by (h ..) rfl ?_; conv => whnf)
      | (refine CALLQ.mk _ _ _ (leL_refl _) (h ..) rfl ?_; conv => whnf)
    exact ⟨rfl, rfl⟩
  | false =>
  cases q3 : eqS a.kind sStop with
  | true =>
    conv => whnf
    split
    · rename_i h
      exact Bool.noConfusion ((q1).symm.trans h)
    rename_i hN
    clear hN
    conv => whnf
    split
    · rename_i h
      exact Bool.noConfusion ((q2).symm.trans h)
    rename_i hN
    clear hN
    conv => whnf
    split
    rotate_left
    · rename_i h
      exact Bool.noConfusion ((q3).symm.trans h)
    rename_i hN
    clear hN
    conv => whnf
    exact ⟨rfl, rfl⟩
  | false =>
  cases q4 : eqS a.kind sBrake with
  | true =>
    have h := fun up => c_rBraked (gl := gl) up m s a.wind a.stuck hm hs (by omega)
    conv => whnf
    split
    · rename_i h
      exact Bool.noConfusion ((q1).symm.trans h)
    rename_i hN
    clear hN
    conv => whnf
    split
    · rename_i h
      exact Bool.noConfusion ((q2).symm.trans h)
    rename_i hN
    clear hN
    conv => whnf
    split
    · rename_i h
      exact Bool.noConfusion ((q3).symm.trans h)
    rename_i hN
    clear hN
    conv => whnf
    split
    rotate_left
    · rename_i h
      exact Bool.noConfusion ((q4).symm.trans h)
    rename_i hN
    clear hN
    conv => whnf
    repeat first
      | (refine DRAW.seek ?_; repeat (first | refine TRYD.take ?_ | refine TRYD.next ?_); conv => whnf)
      | (refine HOLD.mk (by first | exact trivial | exact ⟨⟨rfl, rfl⟩, trivial⟩ | exact ⟨⟨rfl, rfl⟩, ⟨rfl, rfl⟩, trivial⟩) ?_; (conv => whnf))
      | (refine CALL0.by (h ..) rfl ?_; conv => whnf)
      | (refine CALLQ.mk _ _ _ (leL_refl _) (h ..) rfl ?_; conv => whnf)
    exact ⟨rfl, rfl⟩
  | false =>
  cases q5 : eqS a.kind sRest with
  | true =>
    conv => whnf
    split
    · rename_i h
      exact Bool.noConfusion ((q1).symm.trans h)
    rename_i hN
    clear hN
    conv => whnf
    split
    · rename_i h
      exact Bool.noConfusion ((q2).symm.trans h)
    rename_i hN
    clear hN
    conv => whnf
    split
    · rename_i h
      exact Bool.noConfusion ((q3).symm.trans h)
    rename_i hN
    clear hN
    conv => whnf
    split
    · rename_i h
      exact Bool.noConfusion ((q4).symm.trans h)
    rename_i hN
    clear hN
    conv => whnf
    split
    rotate_left
    · rename_i h
      exact Bool.noConfusion ((q5).symm.trans h)
    rename_i hN
    clear hN
    conv => whnf
    exact ⟨rfl, rfl⟩
  | false =>
  cases q6 : eqS a.kind sRepair with
  | true =>
    conv => whnf
    split
    · rename_i h
      exact Bool.noConfusion ((q1).symm.trans h)
    rename_i hN
    clear hN
    conv => whnf
    split
    · rename_i h
      exact Bool.noConfusion ((q2).symm.trans h)
    rename_i hN
    clear hN
    conv => whnf
    split
    · rename_i h
      exact Bool.noConfusion ((q3).symm.trans h)
    rename_i hN
    clear hN
    conv => whnf
    split
    · rename_i h
      exact Bool.noConfusion ((q4).symm.trans h)
    rename_i hN
    clear hN
    conv => whnf
    split
    · rename_i h
      exact Bool.noConfusion ((q5).symm.trans h)
    rename_i hN
    clear hN
    conv => whnf
    split
    rotate_left
    · rename_i h
      exact Bool.noConfusion ((q6).symm.trans h)
    rename_i hN
    clear hN
    conv => whnf
    exact ⟨rfl, rfl⟩
  | false =>
    conv => whnf
    split
    · rename_i h
      exact Bool.noConfusion ((q1).symm.trans h)
    rename_i hN
    clear hN
    conv => whnf
    split
    · rename_i h
      exact Bool.noConfusion ((q2).symm.trans h)
    rename_i hN
    clear hN
    conv => whnf
    split
    · rename_i h
      exact Bool.noConfusion ((q3).symm.trans h)
    rename_i hN
    clear hN
    conv => whnf
    split
    · rename_i h
      exact Bool.noConfusion ((q4).symm.trans h)
    rename_i hN
    clear hN
    conv => whnf
    split
    · rename_i h
      exact Bool.noConfusion ((q5).symm.trans h)
    rename_i hN
    clear hN
    conv => whnf
    split
    · rename_i h
      exact Bool.noConfusion ((q6).symm.trans h)
    rename_i hN
    clear hN
    conv => whnf
    exact ⟨rfl, rfl⟩

theorem kind_nonempty {a : Ac} {m : Mc} (h : a.err m = 0) : eqS a.kind ByteArray.empty = false := by
  have h1 := (Ac.err_ok h).2.2.1
  have := idxS_mem (by decide) h1
  unfold kindsL at this
  simp only [List.mem_cons, List.not_mem_nil, or_false] at this
  cases q : eqS a.kind ByteArray.empty with
  | false => rfl
  | true =>
    have e := eqS_iff.1 q
    rw [e] at this
    exact absurd this (by decide)

theorem in_two (x k l : ByteArray) (h : eqS x l = false) : inK x k l = eqS x k := by rw [inK_eq, h, Bool.or_false]

theorem rule4_eq (s : Sta) (m : Mc) : s.rule4 m = (decide (atA m.fea [s.p0, s.p1, s.p2] < 3) || s.stuck != -1) := by
  unfold Sta.rule4
  congr 1
  simp only [atA]
  by_cases h0 : s.p0 = m.fea <;> by_cases h1 : s.p1 = m.fea <;> by_cases h2 : s.p2 = m.fea <;> simp [h0, h1, h2]

/-- The rules, told by the kinds' tests. -/
noncomputable abbrev Sta.ruleN (s : Sta) (m : Mc) (a : Ac) : Nat → Bool := s.ruleB m a fun k => (s.behindW m a).num m k

set_option maxHeartbeats 8000000 in
theorem c_rF1 (up : List Ces) (m : Mc) (s : Sta) (a : Ac) (hk : eqS a.kind ByteArray.empty = false) : Cs gl n_nacelleref05_Forbids up [m.iv, s.iv, a.iv, .int .i64 1] (.bool (s.ruleN m a 0)) up := by
  have e : s.ruleN m a 0 = ((eqS a.kind sStart || eqS a.kind sRepair) && (!eqS s.mode sIdle)) := by
    show (inK a.kind sStart sRepair && _) = _
    rw [inK_eq]
  rw [e]
  refine mk h_nacelleref05_Forbids rfl rfl ?_
  cases q1 : eqS a.kind sTick with
  | true =>
    have n1 : eqS a.kind sStart = false := kinds_ne q1 (by decide)
    have n2 : eqS a.kind sRepair = false := kinds_ne q1 (by decide)
    rw [n1, n2]
    conv => whnf
    split
    rotate_left
    · rename_i h
      exact Bool.noConfusion ((q1).symm.trans h)
    rename_i hN
    clear hN
    conv => whnf
    split
    · rename_i h
      exact Bool.noConfusion ((n1).symm.trans h)
    rename_i hN
    clear hN
    conv => whnf
    split
    · rename_i h
      exact Bool.noConfusion ((n2).symm.trans h)
    rename_i hN
    clear hN
    conv => whnf
    exact ⟨rfl, rfl⟩
  | false =>
  cases qb : eqS a.kind sBrake with
  | true =>
    have n1 : eqS a.kind sStart = false := kinds_ne qb (by decide)
    have n2 : eqS a.kind sRepair = false := kinds_ne qb (by decide)
    rw [n1, n2]
    conv => whnf
    split
    · rename_i h
      exact Bool.noConfusion ((q1).symm.trans h)
    rename_i hN
    clear hN
    conv => whnf
    split
    · rename_i h
      exact Bool.noConfusion ((n1).symm.trans h)
    rename_i hN
    clear hN
    conv => whnf
    split
    · rename_i h
      exact Bool.noConfusion ((n2).symm.trans h)
    rename_i hN
    clear hN
    conv => whnf
    exact ⟨rfl, rfl⟩
  | false =>
    cases n1 : eqS a.kind sStart with
    | true =>
      conv => whnf
      split
      · rename_i h
        exact Bool.noConfusion ((q1).symm.trans h)
      rename_i hN
      clear hN
      conv => whnf
      split
      rotate_left
      · rename_i h
        exact Bool.noConfusion ((n1).symm.trans h)
      rename_i hN
      clear hN
      conv => whnf
      exact ⟨rfl, rfl⟩
    | false =>
    cases n2 : eqS a.kind sRepair with
    | true =>
      conv => whnf
      split
      · rename_i h
        exact Bool.noConfusion ((q1).symm.trans h)
      rename_i hN
      clear hN
      conv => whnf
      split
      · rename_i h
        exact Bool.noConfusion ((n1).symm.trans h)
      rename_i hN
      clear hN
      conv => whnf
      split
      rotate_left
      · rename_i h
        exact Bool.noConfusion ((n2).symm.trans h)
      rename_i hN
      clear hN
      conv => whnf
      exact ⟨rfl, rfl⟩
    | false =>
      conv => whnf
      split
      · rename_i h
        exact Bool.noConfusion ((q1).symm.trans h)
      rename_i hN
      clear hN
      conv => whnf
      split
      · rename_i h
        exact Bool.noConfusion ((n1).symm.trans h)
      rename_i hN
      clear hN
      conv => whnf
      split
      · rename_i h
        exact Bool.noConfusion ((n2).symm.trans h)
      rename_i hN
      clear hN
      conv => whnf
      exact ⟨rfl, rfl⟩

set_option maxHeartbeats 8000000 in
theorem c_rF2 (up : List Ces) (m : Mc) (s : Sta) (a : Ac) (hk : eqS a.kind ByteArray.empty = false) : Cs gl n_nacelleref05_Forbids up [m.iv, s.iv, a.iv, .int .i64 2] (.bool (s.ruleN m a 1)) up := by
  have e : s.ruleN m a 1 = ((eqS a.kind sTick || eqS a.kind sStop) && (!eqS s.mode sRun)) := by
    show (inK a.kind sTick sStop && _) = _
    rw [inK_eq]
  rw [e]
  refine mk h_nacelleref05_Forbids rfl rfl ?_
  cases q1 : eqS a.kind sTick with
  | true =>
    conv => whnf
    split
    rotate_left
    · rename_i h
      exact Bool.noConfusion ((q1).symm.trans h)
    rename_i hN
    clear hN
    conv => whnf
    split
    rotate_left
    · rename_i h
      exact Bool.noConfusion ((q1).symm.trans h)
    rename_i hN
    clear hN
    conv => whnf
    exact ⟨rfl, rfl⟩
  | false =>
  cases qb : eqS a.kind sBrake with
  | true =>
    have n2 : eqS a.kind sStop = false := kinds_ne qb (by decide)
    rw [n2]
    conv => whnf
    split
    · rename_i h
      exact Bool.noConfusion ((q1).symm.trans h)
    rename_i hN
    clear hN
    conv => whnf
    split
    · rename_i h
      exact Bool.noConfusion ((q1).symm.trans h)
    rename_i hN
    clear hN
    conv => whnf
    split
    · rename_i h
      exact Bool.noConfusion ((n2).symm.trans h)
    rename_i hN
    clear hN
    conv => whnf
    exact ⟨rfl, rfl⟩
  | false =>
    cases n2 : eqS a.kind sStop with
    | true =>
      conv => whnf
      split
      · rename_i h
        exact Bool.noConfusion ((q1).symm.trans h)
      rename_i hN
      clear hN
      conv => whnf
      split
      · rename_i h
        exact Bool.noConfusion ((q1).symm.trans h)
      rename_i hN
      clear hN
      conv => whnf
      split
      rotate_left
      · rename_i h
        exact Bool.noConfusion ((n2).symm.trans h)
      rename_i hN
      clear hN
      conv => whnf
      exact ⟨rfl, rfl⟩
    | false =>
      conv => whnf
      split
      · rename_i h
        exact Bool.noConfusion ((q1).symm.trans h)
      rename_i hN
      clear hN
      conv => whnf
      split
      · rename_i h
        exact Bool.noConfusion ((q1).symm.trans h)
      rename_i hN
      clear hN
      conv => whnf
      split
      · rename_i h
        exact Bool.noConfusion ((n2).symm.trans h)
      rename_i hN
      clear hN
      conv => whnf
      exact ⟨rfl, rfl⟩

set_option maxHeartbeats 8000000 in
theorem c_rF3 (up : List Ces) (m : Mc) (s : Sta) (a : Ac) (hk : eqS a.kind ByteArray.empty = false) : Cs gl n_nacelleref05_Forbids up [m.iv, s.iv, a.iv, .int .i64 3] (.bool (s.ruleN m a 2)) up := by
  have e : s.ruleN m a 2 = ((eqS a.kind sBrake || eqS a.kind sRest) && (!eqS s.mode sStop)) := by
    show (inK a.kind sBrake sRest && _) = _
    rw [inK_eq]
  rw [e]
  refine mk h_nacelleref05_Forbids rfl rfl ?_
  cases q1 : eqS a.kind sTick with
  | true =>
    have n1 : eqS a.kind sBrake = false := kinds_ne q1 (by decide)
    have n2 : eqS a.kind sRest = false := kinds_ne q1 (by decide)
    rw [n1, n2]
    conv => whnf
    split
    rotate_left
    · rename_i h
      exact Bool.noConfusion ((q1).symm.trans h)
    rename_i hN
    clear hN
    conv => whnf
    split
    · rename_i h
      exact Bool.noConfusion ((n1).symm.trans h)
    rename_i hN
    clear hN
    conv => whnf
    split
    · rename_i h
      exact Bool.noConfusion ((n2).symm.trans h)
    rename_i hN
    clear hN
    conv => whnf
    exact ⟨rfl, rfl⟩
  | false =>
  cases qb : eqS a.kind sBrake with
  | true =>
    conv => whnf
    split
    · rename_i h
      exact Bool.noConfusion ((q1).symm.trans h)
    rename_i hN
    clear hN
    conv => whnf
    split
    rotate_left
    · rename_i h
      exact Bool.noConfusion ((qb).symm.trans h)
    rename_i hN
    clear hN
    conv => whnf
    exact ⟨rfl, rfl⟩
  | false =>
    cases n2 : eqS a.kind sRest with
    | true =>
      conv => whnf
      split
      · rename_i h
        exact Bool.noConfusion ((q1).symm.trans h)
      rename_i hN
      clear hN
      conv => whnf
      split
      · rename_i h
        exact Bool.noConfusion ((qb).symm.trans h)
      rename_i hN
      clear hN
      conv => whnf
      split
      rotate_left
      · rename_i h
        exact Bool.noConfusion ((n2).symm.trans h)
      rename_i hN
      clear hN
      conv => whnf
      exact ⟨rfl, rfl⟩
    | false =>
      conv => whnf
      split
      · rename_i h
        exact Bool.noConfusion ((q1).symm.trans h)
      rename_i hN
      clear hN
      conv => whnf
      split
      · rename_i h
        exact Bool.noConfusion ((qb).symm.trans h)
      rename_i hN
      clear hN
      conv => whnf
      split
      · rename_i h
        exact Bool.noConfusion ((n2).symm.trans h)
      rename_i hN
      clear hN
      conv => whnf
      exact ⟨rfl, rfl⟩

set_option maxHeartbeats 8000000 in
theorem c_rF4 (up : List Ces) (m : Mc) (s : Sta) (a : Ac) (hk : eqS a.kind ByteArray.empty = false) : Cs gl n_nacelleref05_Forbids up [m.iv, s.iv, a.iv, .int .i64 4] (.bool (s.ruleN m a 3)) up := by
  have e : s.ruleN m a 3 = (eqS a.kind sStart && s.rule4 m) := by
    show (inK a.kind sStart ByteArray.empty && _) = _
    rw [in_two _ _ _ hk]
  rw [e]
  refine mk h_nacelleref05_Forbids rfl rfl ?_
  cases q1 : eqS a.kind sTick with
  | true =>
    have n1 : eqS a.kind sStart = false := kinds_ne q1 (by decide)
    rw [n1]
    conv => whnf
    split
    rotate_left
    · rename_i h
      exact Bool.noConfusion ((q1).symm.trans h)
    rename_i hN
    clear hN
    conv => whnf
    split
    · rename_i h
      exact Bool.noConfusion ((n1).symm.trans h)
    rename_i hN
    clear hN
    conv => whnf
    exact ⟨rfl, rfl⟩
  | false =>
  cases qb : eqS a.kind sBrake with
  | true =>
    have n1 : eqS a.kind sStart = false := kinds_ne qb (by decide)
    rw [n1]
    conv => whnf
    split
    · rename_i h
      exact Bool.noConfusion ((q1).symm.trans h)
    rename_i hN
    clear hN
    conv => whnf
    split
    · rename_i h
      exact Bool.noConfusion ((n1).symm.trans h)
    rename_i hN
    clear hN
    conv => whnf
    exact ⟨rfl, rfl⟩
  | false =>
    cases n1 : eqS a.kind sStart with
    | true =>
      rw [rule4_eq]
      cases qf : decide (atA m.fea [s.p0, s.p1, s.p2] < 3) with
      | true =>
        conv => whnf
        split
        · rename_i h
          exact Bool.noConfusion ((q1).symm.trans h)
        rename_i hN
        clear hN
        conv => whnf
        split
        rotate_left
        · rename_i h
          exact Bool.noConfusion ((n1).symm.trans h)
        rename_i hN
        clear hN
        conv => whnf
        repeat first
          | (refine DRAW.seek ?_; repeat (first | refine TRYD.take ?_ | refine TRYD.next ?_); conv => whnf)
          | (refine HOLD.mk (by first | exact trivial | exact ⟨⟨rfl, rfl⟩, trivial⟩ | exact ⟨⟨rfl, rfl⟩, ⟨rfl, rfl⟩, trivial⟩) ?_; (conv => whnf))
          | (refine CALL0.by (c_rfeathered ..) rfl ?_; conv => whnf)
          | (refine CALLQ.mk _ _ _ (leL_refl _) (c_rfeathered ..) rfl ?_; conv => whnf)
        split
        rotate_left
        · rename_i h
          exact Bool.noConfusion ((qf).symm.trans h)
        rename_i hN
        clear hN
        conv => whnf
        exact ⟨rfl, rfl⟩
      | false =>
        conv => whnf
        split
        · rename_i h
          exact Bool.noConfusion ((q1).symm.trans h)
        rename_i hN
        clear hN
        conv => whnf
        split
        rotate_left
        · rename_i h
          exact Bool.noConfusion ((n1).symm.trans h)
        rename_i hN
        clear hN
        conv => whnf
        repeat first
          | (refine DRAW.seek ?_; repeat (first | refine TRYD.take ?_ | refine TRYD.next ?_); conv => whnf)
          | (refine HOLD.mk (by first | exact trivial | exact ⟨⟨rfl, rfl⟩, trivial⟩ | exact ⟨⟨rfl, rfl⟩, ⟨rfl, rfl⟩, trivial⟩) ?_; (conv => whnf))
          | (refine CALL0.by (c_rfeathered ..) rfl ?_; conv => whnf)
          | (refine CALLQ.mk _ _ _ (leL_refl _) (c_rfeathered ..) rfl ?_; conv => whnf)
        split
        · rename_i h
          exact Bool.noConfusion ((qf).symm.trans h)
        rename_i hN
        clear hN
        conv => whnf
        exact ⟨rfl, rfl⟩
    | false =>
      conv => whnf
      split
      · rename_i h
        exact Bool.noConfusion ((q1).symm.trans h)
      rename_i hN
      clear hN
      conv => whnf
      split
      · rename_i h
        exact Bool.noConfusion ((n1).symm.trans h)
      rename_i hN
      clear hN
      conv => whnf
      exact ⟨rfl, rfl⟩

set_option maxHeartbeats 8000000 in
theorem c_rF5 (up : List Ces) (m : Mc) (s : Sta) (a : Ac) (hk : eqS a.kind ByteArray.empty = false) : Cs gl n_nacelleref05_Forbids up [m.iv, s.iv, a.iv, .int .i64 5] (.bool (s.ruleN m a 4)) up := by
  have e : s.ruleN m a 4 = (eqS a.kind sRest && s.rule5 m) := by
    show (inK a.kind sRest ByteArray.empty && _) = _
    rw [in_two _ _ _ hk]
  rw [e]
  refine mk h_nacelleref05_Forbids rfl rfl ?_
  cases q1 : eqS a.kind sTick with
  | true =>
    have n1 : eqS a.kind sRest = false := kinds_ne q1 (by decide)
    rw [n1]
    conv => whnf
    split
    rotate_left
    · rename_i h
      exact Bool.noConfusion ((q1).symm.trans h)
    rename_i hN
    clear hN
    conv => whnf
    split
    · rename_i h
      exact Bool.noConfusion ((n1).symm.trans h)
    rename_i hN
    clear hN
    conv => whnf
    exact ⟨rfl, rfl⟩
  | false =>
  cases qb : eqS a.kind sBrake with
  | true =>
    have n1 : eqS a.kind sRest = false := kinds_ne qb (by decide)
    rw [n1]
    conv => whnf
    split
    · rename_i h
      exact Bool.noConfusion ((q1).symm.trans h)
    rename_i hN
    clear hN
    conv => whnf
    split
    · rename_i h
      exact Bool.noConfusion ((n1).symm.trans h)
    rename_i hN
    clear hN
    conv => whnf
    exact ⟨rfl, rfl⟩
  | false =>
    cases n1 : eqS a.kind sRest with
    | true =>
      unfold Sta.rule5
      cases qf : (s.speed != 0) with
      | true =>
        conv => whnf
        split
        · rename_i h
          exact Bool.noConfusion ((q1).symm.trans h)
        rename_i hN
        clear hN
        conv => whnf
        split
        rotate_left
        · rename_i h
          exact Bool.noConfusion ((n1).symm.trans h)
        rename_i hN
        clear hN
        conv => whnf
        split
        rotate_left
        · rename_i h
          exact Bool.noConfusion ((qf).symm.trans h)
        rename_i hN
        clear hN
        conv => whnf
        exact ⟨rfl, rfl⟩
      | false =>
        conv => whnf
        split
        · rename_i h
          exact Bool.noConfusion ((q1).symm.trans h)
        rename_i hN
        clear hN
        conv => whnf
        split
        rotate_left
        · rename_i h
          exact Bool.noConfusion ((n1).symm.trans h)
        rename_i hN
        clear hN
        conv => whnf
        split
        · rename_i h
          exact Bool.noConfusion ((qf).symm.trans h)
        rename_i hN
        clear hN
        conv => whnf
        repeat first
          | (refine DRAW.seek ?_; repeat (first | refine TRYD.take ?_ | refine TRYD.next ?_); conv => whnf)
          | (refine HOLD.mk (by first | exact trivial | exact ⟨⟨rfl, rfl⟩, trivial⟩ | exact ⟨⟨rfl, rfl⟩, ⟨rfl, rfl⟩, trivial⟩) ?_; (conv => whnf))
          | (refine CALL0.by (c_rfeathered ..) rfl ?_; conv => whnf)
          | (refine CALLQ.mk _ _ _ (leL_refl _) (c_rfeathered ..) rfl ?_; conv => whnf)
        exact ⟨rfl, rfl⟩
    | false =>
      conv => whnf
      split
      · rename_i h
        exact Bool.noConfusion ((q1).symm.trans h)
      rename_i hN
      clear hN
      conv => whnf
      split
      · rename_i h
        exact Bool.noConfusion ((n1).symm.trans h)
      rename_i hN
      clear hN
      conv => whnf
      exact ⟨rfl, rfl⟩

set_option maxHeartbeats 8000000 in
theorem c_rF6 (up : List Ces) (m : Mc) (s : Sta) (a : Ac) (hk : eqS a.kind ByteArray.empty = false) : Cs gl n_nacelleref05_Forbids up [m.iv, s.iv, a.iv, .int .i64 6] (.bool (s.ruleN m a 5)) up := by
  have e : s.ruleN m a 5 = ((eqS a.kind sTick || eqS a.kind sBrake) && s.rule6 a) := by
    show (inK a.kind sTick sBrake && _) = _
    rw [inK_eq]
  rw [e]
  refine mk h_nacelleref05_Forbids rfl rfl ?_
  cases q1 : eqS a.kind sTick with
  | true =>
    unfold Sta.rule6
    cases qa : (a.stuck != -1) with
    | false =>
      conv => whnf
      split
      rotate_left
      · rename_i h
        exact Bool.noConfusion ((q1).symm.trans h)
      rename_i hN
      clear hN
      conv => whnf
      split
      · rename_i h
        exact Bool.noConfusion ((qa).symm.trans h)
      rename_i hN
      clear hN
      conv => whnf
      exact ⟨rfl, rfl⟩
    | true =>
    cases qs : (s.stuck != -1) with
    | false =>
      conv => whnf
      split
      rotate_left
      · rename_i h
        exact Bool.noConfusion ((q1).symm.trans h)
      rename_i hN
      clear hN
      conv => whnf
      split
      rotate_left
      · rename_i h
        exact Bool.noConfusion ((qa).symm.trans h)
      rename_i hN
      clear hN
      conv => whnf
      split
      · rename_i h
        exact Bool.noConfusion ((qs).symm.trans h)
      rename_i hN
      clear hN
      conv => whnf
      exact ⟨rfl, rfl⟩
    | true =>
      conv => whnf
      split
      rotate_left
      · rename_i h
        exact Bool.noConfusion ((q1).symm.trans h)
      rename_i hN
      clear hN
      conv => whnf
      split
      rotate_left
      · rename_i h
        exact Bool.noConfusion ((qa).symm.trans h)
      rename_i hN
      clear hN
      conv => whnf
      split
      rotate_left
      · rename_i h
        exact Bool.noConfusion ((qs).symm.trans h)
      rename_i hN
      clear hN
      conv => whnf
      exact ⟨rfl, rfl⟩
  | false =>
  cases qb : eqS a.kind sBrake with
  | true =>
    unfold Sta.rule6
    cases qa : (a.stuck != -1) with
    | false =>
      conv => whnf
      split
      · rename_i h
        exact Bool.noConfusion ((q1).symm.trans h)
      rename_i hN
      clear hN
      conv => whnf
      split
      rotate_left
      · rename_i h
        exact Bool.noConfusion ((qb).symm.trans h)
      rename_i hN
      clear hN
      conv => whnf
      split
      · rename_i h
        exact Bool.noConfusion ((qa).symm.trans h)
      rename_i hN
      clear hN
      conv => whnf
      exact ⟨rfl, rfl⟩
    | true =>
    cases qs : (s.stuck != -1) with
    | false =>
      conv => whnf
      split
      · rename_i h
        exact Bool.noConfusion ((q1).symm.trans h)
      rename_i hN
      clear hN
      conv => whnf
      split
      rotate_left
      · rename_i h
        exact Bool.noConfusion ((qb).symm.trans h)
      rename_i hN
      clear hN
      conv => whnf
      split
      rotate_left
      · rename_i h
        exact Bool.noConfusion ((qa).symm.trans h)
      rename_i hN
      clear hN
      conv => whnf
      split
      · rename_i h
        exact Bool.noConfusion ((qs).symm.trans h)
      rename_i hN
      clear hN
      conv => whnf
      exact ⟨rfl, rfl⟩
    | true =>
      conv => whnf
      split
      · rename_i h
        exact Bool.noConfusion ((q1).symm.trans h)
      rename_i hN
      clear hN
      conv => whnf
      split
      rotate_left
      · rename_i h
        exact Bool.noConfusion ((qb).symm.trans h)
      rename_i hN
      clear hN
      conv => whnf
      split
      rotate_left
      · rename_i h
        exact Bool.noConfusion ((qa).symm.trans h)
      rename_i hN
      clear hN
      conv => whnf
      split
      rotate_left
      · rename_i h
        exact Bool.noConfusion ((qs).symm.trans h)
      rename_i hN
      clear hN
      conv => whnf
      exact ⟨rfl, rfl⟩
  | false =>
    conv => whnf
    split
    · rename_i h
      exact Bool.noConfusion ((q1).symm.trans h)
    rename_i hN
    clear hN
    conv => whnf
    split
    · rename_i h
      exact Bool.noConfusion ((qb).symm.trans h)
    rename_i hN
    clear hN
    conv => whnf
    exact ⟨rfl, rfl⟩

set_option maxHeartbeats 8000000 in
theorem c_rF7 (up : List Ces) (m : Mc) (s : Sta) (a : Ac) (hk : eqS a.kind ByteArray.empty = false) (hm : m.ok) (hs : s.rng m) (ha : a.ok m) : Cs gl n_nacelleref05_Forbids up [m.iv, s.iv, a.iv, .int .i64 7] (.bool (s.ruleN m a 6)) up := by
  have e : s.ruleN m a 6 = ((eqS a.kind sTick || eqS a.kind sBrake) && s.rule7 m a fun k => (s.behindW m a).num m k) := by
    show (inK a.kind sTick sBrake && _) = _
    rw [inK_eq]
  rw [e]
  refine mk h_nacelleref05_Forbids rfl rfl ?_
  cases q1 : eqS a.kind sTick with
  | true =>
    unfold Sta.rule7
    rw [q1]
    have ha7 := fun up => c_rafter (gl := gl) up m s a hm hs ha
    cases qf : decide ((s.behindW m a).speed > m.lim) with
    | true =>
      conv => whnf
      split
      rotate_left
      · rename_i h
        exact Bool.noConfusion ((q1).symm.trans h)
      rename_i hN
      clear hN
      conv => whnf
      repeat first
        | (refine DRAW.seek ?_; repeat (first | refine TRYD.take ?_ | refine TRYD.next ?_); conv => whnf)
        | (refine HOLD.mk (by first | exact trivial | exact ⟨⟨rfl, rfl⟩, trivial⟩ | exact ⟨⟨rfl, rfl⟩, ⟨rfl, rfl⟩, trivial⟩) ?_; (conv => whnf))
        | (refine CALL0.by (ha7 ..) rfl ?_; conv => whnf)
        | (refine CALLQ.mk _ _ _ (leL_refl _) (ha7 ..) rfl ?_; conv => whnf)
      split
      rotate_left
      · rename_i h
        exact Bool.noConfusion ((qf).symm.trans h)
      rename_i hN
      clear hN
      conv => whnf
      exact ⟨rfl, rfl⟩
    | false =>
      have hsp : (s.behindW m a).speed ≤ m.lim := by have := of_decide_eq_false qf; omega
      have hlim := hm.lim
      have hS := fun up => c_rSafe (gl := gl) up m (s.behindW m a) hm (tick_rng hm hs ha q1 hsp) (by omega)
      conv => whnf
      split
      rotate_left
      · rename_i h
        exact Bool.noConfusion ((q1).symm.trans h)
      rename_i hN
      clear hN
      conv => whnf
      repeat first
        | (refine DRAW.seek ?_; repeat (first | refine TRYD.take ?_ | refine TRYD.next ?_); conv => whnf)
        | (refine HOLD.mk (by first | exact trivial | exact ⟨⟨rfl, rfl⟩, trivial⟩ | exact ⟨⟨rfl, rfl⟩, ⟨rfl, rfl⟩, trivial⟩) ?_; (conv => whnf))
        | (refine CALL0.by (ha7 ..) rfl ?_; conv => whnf)
        | (refine CALLQ.mk _ _ _ (leL_refl _) (ha7 ..) rfl ?_; conv => whnf)
      split
      · rename_i h
        exact Bool.noConfusion ((qf).symm.trans h)
      rename_i hN
      clear hN
      conv => whnf
      split
      rotate_left
      · rename_i h
        exact Bool.noConfusion ((q1).symm.trans h)
      rename_i hN
      clear hN
      conv => whnf
      repeat first
        | (refine DRAW.seek ?_; repeat (first | refine TRYD.take ?_ | refine TRYD.next ?_); conv => whnf)
        | (refine HOLD.mk (by first | exact trivial | exact ⟨⟨rfl, rfl⟩, trivial⟩ | exact ⟨⟨rfl, rfl⟩, ⟨rfl, rfl⟩, trivial⟩) ?_; (conv => whnf))
        | (refine CALL0.by (hS ..) rfl ?_; conv => whnf)
        | (refine CALLQ.mk _ _ _ (leL_refl _) (hS ..) rfl ?_; conv => whnf)
      exact ⟨rfl, rfl⟩
  | false =>
  cases qb : eqS a.kind sBrake with
  | true =>
    unfold Sta.rule7
    rw [q1]
    have ha7 := fun up => c_rafter (gl := gl) up m s a hm hs ha
    cases qf : decide ((s.behindW m a).speed > m.lim) with
    | true =>
      conv => whnf
      split
      · rename_i h
        exact Bool.noConfusion ((q1).symm.trans h)
      rename_i hN
      clear hN
      conv => whnf
      repeat first
        | (refine DRAW.seek ?_; repeat (first | refine TRYD.take ?_ | refine TRYD.next ?_); conv => whnf)
        | (refine HOLD.mk (by first | exact trivial | exact ⟨⟨rfl, rfl⟩, trivial⟩ | exact ⟨⟨rfl, rfl⟩, ⟨rfl, rfl⟩, trivial⟩) ?_; (conv => whnf))
        | (refine CALL0.by (ha7 ..) rfl ?_; conv => whnf)
        | (refine CALLQ.mk _ _ _ (leL_refl _) (ha7 ..) rfl ?_; conv => whnf)
      split
      rotate_left
      · rename_i h
        exact Bool.noConfusion ((qb).symm.trans h)
      rename_i hN
      clear hN
      conv => whnf
      split
      rotate_left
      · rename_i h
        exact Bool.noConfusion ((qf).symm.trans h)
      rename_i hN
      clear hN
      conv => whnf
      exact ⟨rfl, rfl⟩
    | false =>
      conv => whnf
      split
      · rename_i h
        exact Bool.noConfusion ((q1).symm.trans h)
      rename_i hN
      clear hN
      conv => whnf
      repeat first
        | (refine DRAW.seek ?_; repeat (first | refine TRYD.take ?_ | refine TRYD.next ?_); conv => whnf)
        | (refine HOLD.mk (by first | exact trivial | exact ⟨⟨rfl, rfl⟩, trivial⟩ | exact ⟨⟨rfl, rfl⟩, ⟨rfl, rfl⟩, trivial⟩) ?_; (conv => whnf))
        | (refine CALL0.by (ha7 ..) rfl ?_; conv => whnf)
        | (refine CALLQ.mk _ _ _ (leL_refl _) (ha7 ..) rfl ?_; conv => whnf)
      split
      rotate_left
      · rename_i h
        exact Bool.noConfusion ((qb).symm.trans h)
      rename_i hN
      clear hN
      conv => whnf
      split
      · rename_i h
        exact Bool.noConfusion ((qf).symm.trans h)
      rename_i hN
      clear hN
      conv => whnf
      split
      · rename_i h
        exact Bool.noConfusion ((q1).symm.trans h)
      rename_i hN
      clear hN
      conv => whnf
      exact ⟨rfl, rfl⟩
  | false =>
    have ha7 := fun up => c_rafter (gl := gl) up m s a hm hs ha
    conv => whnf
    split
    · rename_i h
      exact Bool.noConfusion ((q1).symm.trans h)
    rename_i hN
    clear hN
    conv => whnf
    repeat first
      | (refine DRAW.seek ?_; repeat (first | refine TRYD.take ?_ | refine TRYD.next ?_); conv => whnf)
      | (refine HOLD.mk (by first | exact trivial | exact ⟨⟨rfl, rfl⟩, trivial⟩ | exact ⟨⟨rfl, rfl⟩, ⟨rfl, rfl⟩, trivial⟩) ?_; (conv => whnf))
      | (refine CALL0.by (ha7 ..) rfl ?_; conv => whnf)
      | (refine CALLQ.mk _ _ _ (leL_refl _) (ha7 ..) rfl ?_; conv => whnf)
    split
    · rename_i h
      exact Bool.noConfusion ((qb).symm.trans h)
    rename_i hN
    clear hN
    conv => whnf
    split
    · rename_i h
      exact Bool.noConfusion ((q1).symm.trans h)
    rename_i hN
    clear hN
    conv => whnf
    exact ⟨rfl, rfl⟩


theorem c_rForbids (up : List Ces) (m : Mc) (s : Sta) (a : Ac) (hm : m.ok) (hs : s.rng m) (ha : a.ok m) (hk : eqS a.kind ByteArray.empty = false) (k : Nat) (h : k < 7) :
    Cs gl n_nacelleref05_Forbids up [m.iv, s.iv, a.iv, .int .i64 ((k : Int) + 1)] (.bool (s.ruleN m a k)) up := by
  obtain rfl | rfl | rfl | rfl | rfl | rfl | rfl : k = 0 ∨ k = 1 ∨ k = 2 ∨ k = 3 ∨ k = 4 ∨ k = 5 ∨ k = 6 := by omega
  · exact c_rF1 up m s a hk
  · exact c_rF2 up m s a hk
  · exact c_rF3 up m s a hk
  · exact c_rF4 up m s a hk
  · exact c_rF5 up m s a hk
  · exact c_rF6 up m s a hk
  · exact c_rF7 up m s a hk hm hs ha

theorem c_rAllowed (up : List Ces) (m : Mc) (s : Sta) (a : Ac) (hm : m.ok) (hs : s.rng m) (ha : a.ok m) (hk : eqS a.kind ByteArray.empty = false) : Cs gl n_nacelleref05_Allowed up [m.iv, s.iv, a.iv] (.int .i64 (s.allowedN m a)) up := by
  refine mk h_nacelleref05_Allowed rfl rfl ?_
  have hF := fun up k h => c_rForbids (gl := gl) up m s a hm hs ha hk k h
  have e : s.allowedN m a = firstT (s.ruleN m a) 7 0 := rfl
  rw [e]
  clear e
  generalize s.ruleN m a = f at hF
  conv => whnf
  refine .mk (α := {k : Nat // k ≤ 7 ∧ firstT f 7 0 = firstT f (7 - k) k}) (fun k => ⟨[(7, .int .i64 ((k.1 : Int) + 1)), (5, .ptr 0 5 0), (4, .ptr 0 4 0), (3, .ptr 0 3 0)], [(5, [.str a.kind, .int .i64 a.wind, .int .i64 a.pitch, .int .i64 a.tor, .int .i64 a.stuck]), (4, s.cs), (3, m.cs)], up⟩) (fun k => 7 - k.1) ⟨0, Nat.zero_le _, rfl⟩ ⟨?_, ?_, rfl, rfl⟩ ?_
  · exact ⟨leV_refl _, leV_refl _, leV_refl _, leV_refl _, trivial⟩
  · exact ⟨leL_refl _, leL_refl _, leL_refl _, trivial⟩
  rintro ⟨k, hk7, he⟩
  have hw : w64 ((k : Int) + 1 + 1) = ((k + 1 : Nat) : Int) + 1 := by rw [w64, wrap_in] <;> omega
  by_cases hlt : k < 7
  · have q : decide ((k : Int) + 1 ≤ 7) = true := decide_eq_true (by omega)
    have hf := fun up => hF up k hlt
    rw [show 7 - k = (7 - (k + 1)) + 1 by omega] at he
    cases qf : f k with
    | true =>
      rw [qf] at hf
      rw [firstT_yes qf] at he
      conv => whnf
      split
      rotate_left
      · rename_i h
        exact Bool.noConfusion ((q).symm.trans h)
      rename_i hN
      clear hN
      conv => whnf
      repeat first
        | (refine DRAW.seek ?_; repeat (first | refine TRYD.take ?_ | refine TRYD.next ?_); conv => whnf)
        | (refine HOLD.mk (by first | exact trivial | exact ⟨⟨rfl, rfl⟩, trivial⟩ | exact ⟨⟨rfl, rfl⟩, ⟨rfl, rfl⟩, trivial⟩) ?_; (conv => whnf))
        | (refine CALL0.by (hf ..) rfl ?_; conv => whnf)
        | (refine CALLQ.mk _ _ _ (leL_refl _) (hf ..) rfl ?_; conv => whnf)
      refine ⟨?_, rfl⟩
      show IV.int .i64 ((k : Int) + 1) = _
      rw [he]
      rfl
    | false =>
      rw [qf] at hf
      rw [firstT_no qf] at he
      conv => whnf
      split
      rotate_left
      · rename_i h
        exact Bool.noConfusion ((q).symm.trans h)
      rename_i hN
      clear hN
      conv => whnf
      repeat first
        | (refine DRAW.seek ?_; repeat (first | refine TRYD.take ?_ | refine TRYD.next ?_); conv => whnf)
        | (refine HOLD.mk (by first | exact trivial | exact ⟨⟨rfl, rfl⟩, trivial⟩ | exact ⟨⟨rfl, rfl⟩, ⟨rfl, rfl⟩, trivial⟩) ?_; (conv => whnf))
        | (refine CALL0.by (hf ..) rfl ?_; conv => whnf)
        | (refine CALLQ.mk _ _ _ (leL_refl _) (hf ..) rfl ?_; conv => whnf)
      exact ⟨⟨k + 1, hlt, he⟩, ⟨⟨leV_int hw, leV_refl _, leV_refl _, leV_refl _, trivial⟩, ⟨leL_refl _, leL_refl _, leL_refl _, trivial⟩, rfl, rfl⟩, (by show 7 - (k + 1) < 7 - k; omega)⟩
  · have q : decide ((k : Int) + 1 ≤ 7) = false := decide_eq_false (by omega)
    have : k = 7 := by omega
    subst this
    conv => whnf
    exact ⟨congrArg (IV.int .i64) he.symm, rfl⟩

theorem c_rNext (up : List Ces) (m : Mc) (s : Sta) (a : Ac) (hm : m.ok) (hs : s.rng m) (ha : a.ok m) (hk : eqS a.kind ByteArray.empty = false) :
    Cs gl n_nacelleref05_Next up [m.iv, s.iv, a.iv] (bif s.allowedN m a != 0 then .tup [Sta.zero.iv, .int .i64 19] else .tup [(s.behindW m a).iv, .int .i64 0]) up := by
  have hA := fun up => c_rAllowed (gl := gl) up m s a hm hs ha hk
  have hB := fun up => c_rafter (gl := gl) up m s a hm hs ha
  refine mk h_nacelleref05_Next rfl rfl ?_
  cases q : (s.allowedN m a != 0) with
  | true =>
    conv => whnf
    repeat first
      | (refine DRAW.seek ?_; repeat (first | refine TRYD.take ?_ | refine TRYD.next ?_); conv => whnf)
      | (refine HOLD.mk (by first | exact trivial | exact ⟨⟨rfl, rfl⟩, trivial⟩ | exact ⟨⟨rfl, rfl⟩, ⟨rfl, rfl⟩, trivial⟩) ?_; (conv => whnf))
      | (refine CALL0.by (hA ..) rfl ?_; conv => whnf)
      | (refine CALLQ.mk _ _ _ (leL_refl _) (hA ..) rfl ?_; conv => whnf)
    split
    rotate_left
    · rename_i h
      exact Bool.noConfusion ((q).symm.trans h)
    rename_i hN
    clear hN
    conv => whnf
    exact ⟨rfl, rfl⟩
  | false =>
    conv => whnf
    repeat first
      | (refine DRAW.seek ?_; repeat (first | refine TRYD.take ?_ | refine TRYD.next ?_); conv => whnf)
      | (refine HOLD.mk (by first | exact trivial | exact ⟨⟨rfl, rfl⟩, trivial⟩ | exact ⟨⟨rfl, rfl⟩, ⟨rfl, rfl⟩, trivial⟩) ?_; (conv => whnf))
      | (refine CALL0.by (hA ..) rfl ?_; conv => whnf)
      | (refine CALLQ.mk _ _ _ (leL_refl _) (hA ..) rfl ?_; conv => whnf)
    split
    · rename_i h
      exact Bool.noConfusion ((q).symm.trans h)
    rename_i hN
    clear hN
    conv => whnf
    repeat first
      | (refine DRAW.seek ?_; repeat (first | refine TRYD.take ?_ | refine TRYD.next ?_); conv => whnf)
      | (refine HOLD.mk (by first | exact trivial | exact ⟨⟨rfl, rfl⟩, trivial⟩ | exact ⟨⟨rfl, rfl⟩, ⟨rfl, rfl⟩, trivial⟩) ?_; (conv => whnf))
      | (refine CALL0.by (hB ..) rfl ?_; conv => whnf)
      | (refine CALLQ.mk _ _ _ (leL_refl _) (hB ..) rfl ?_; conv => whnf)
    exact ⟨rfl, rfl⟩

/-- A start in the mode idle is forbidden by the rule 4 alone. -/
theorem start_rule {s : Sta} {m : Mc} (h : eqS s.mode sIdle = true) : (s.allowedN m (plainA sStart) == 4) = s.ruleN m (plainA sStart) 3 := by
  have e : s.allowedN m (plainA sStart) = firstT (s.ruleN m (plainA sStart)) 7 0 := rfl
  have k0 : eqS sStart sTick = false := kinds_ne (eqS_iff.2 rfl) (by decide)
  have k1 : eqS sStart sBrake = false := kinds_ne (eqS_iff.2 rfl) (by decide)
  have k2 : eqS sStart sStop = false := kinds_ne (eqS_iff.2 rfl) (by decide)
  have k3 : eqS sStart sRest = false := kinds_ne (eqS_iff.2 rfl) (by decide)
  have k4 : eqS sStart ByteArray.empty = false := kinds_ne (eqS_iff.2 rfl) (by decide)
  have r0 : s.ruleN m (plainA sStart) 0 = false := by
    show (inK sStart sStart sRepair && (!eqS s.mode sIdle)) = false
    rw [h]; simp
  have r1 : s.ruleN m (plainA sStart) 1 = false := by
    show (inK sStart sTick sStop && _) = false
    rw [inK_eq, k0, k2]; rfl
  have r2 : s.ruleN m (plainA sStart) 2 = false := by
    show (inK sStart sBrake sRest && _) = false
    rw [inK_eq, k1, k3]; rfl
  have r4 : s.ruleN m (plainA sStart) 4 = false := by
    show (inK sStart sRest ByteArray.empty && _) = false
    rw [inK_eq, k3, k4]; rfl
  have r5 : s.ruleN m (plainA sStart) 5 = false := by
    show (inK sStart sTick sBrake && _) = false
    rw [inK_eq, k0, k1]; rfl
  have r6 : s.ruleN m (plainA sStart) 6 = false := by
    show (inK sStart sTick sBrake && _) = false
    rw [inK_eq, k0, k1]; rfl
  rw [e]
  simp only [firstT]
  rw [r0, r1, r2, r4, r5, r6]
  cases s.ruleN m (plainA sStart) 3 <;> rfl

theorem pitch_eq (s : Sta) (m : Mc) : minW m.fea (maxW 0 (w64 (m.gain * w64 (s.speed - m.rated)))) = s.pitchW m := by
  unfold Sta.pitchW minW maxW
  (repeat' split) <;> omega
theorem tor_eq (s : Sta) (m : Mc) : minW m.tor (w64 (Int.tdiv (w64 (m.tor * s.speed)) m.rated)) = s.torW m := by
  unfold Sta.torW minW
  (repeat' split) <;> omega

set_option maxHeartbeats 16000000 in
theorem c_rPropose (up : List Ces) (m : Mc) (s : Sta) (wind : Int) (hm : m.ok) (hs : s.rng m) (hsp : s.speed ≤ 10000) (hst : -1 ≤ s.stuck ∧ s.stuck ≤ 2) (hw : 0 ≤ wind ∧ wind ≤ m.wind) :
    Cs gl n_nacelleref05_Propose up [m.iv, s.iv, .int .i64 wind] (s.proposeW m wind).iv up := by
  have hra := hm.rated
  have hfe := hm.fea
  have z : (m.rated != 0) = true := by
    have : m.rated ≠ 0 := by omega
    simpa using this
  have e1 : eqS sStart ByteArray.empty = false := kinds_ne (eqS_iff.2 rfl) (by decide)
  have e2 : eqS sRest ByteArray.empty = false := kinds_ne (eqS_iff.2 rfl) (by decide)
  have e3 : eqS sTick ByteArray.empty = false := kinds_ne (eqS_iff.2 rfl) (by decide)
  have hF := fun up => c_rForbids (gl := gl) up m s (plainA sStart) hm hs (plain_ok hm _) e1 3 (by decide)
  have hR := fun up => c_rAllowed (gl := gl) up m s (plainA sRest) hm hs (plain_ok hm _) e2
  have hT := fun up => c_rAllowed (gl := gl) up m s (s.tickA wind (s.pitchW m) (s.torW m)) hm hs (tick_ok hm ⟨hs.speed.1, hsp⟩ hst hw (pitch_rng hm s)) e3
  have hU := fun up => c_rAllowed (gl := gl) up m s (s.tickA wind m.fea (s.torW m)) hm hs (tick_ok hm ⟨hs.speed.1, hsp⟩ hst hw ⟨by omega, Int.le_refl _⟩) e3
  rw [← pitch_eq, ← tor_eq] at hT
  rw [← tor_eq] at hU
  refine mk h_nacelleref05_Propose rfl rfl ?_
  unfold Sta.proposeW
  rw [← pitch_eq, ← tor_eq]
  cases q1 : eqS s.mode sIdle with
  | true =>
    rw [start_rule q1, cond_true]
    cases qf : s.ruleN m (plainA sStart) 3 with
    | true =>
      rw [qf] at hF
      conv => whnf
      split
      rotate_left
      · rename_i h
        exact Bool.noConfusion ((q1).symm.trans h)
      rename_i hN
      clear hN
      conv => whnf
      repeat first
        | (refine DRAW.seek ?_; repeat (first | refine TRYD.take ?_ | refine TRYD.next ?_); conv => whnf)
        | (refine HOLD.mk (by first | exact trivial | exact ⟨⟨rfl, rfl⟩, trivial⟩ | exact ⟨⟨rfl, rfl⟩, ⟨rfl, rfl⟩, trivial⟩) ?_; (conv => whnf))
        | (refine CALL0.by (hF ..) rfl ?_; conv => whnf)
        | (refine CALLQ.mk _ _ _ (leL_refl _) (hF ..) rfl ?_; conv => whnf)
      exact ⟨rfl, rfl⟩
    | false =>
      rw [qf] at hF
      conv => whnf
      split
      rotate_left
      · rename_i h
        exact Bool.noConfusion ((q1).symm.trans h)
      rename_i hN
      clear hN
      conv => whnf
      repeat first
        | (refine DRAW.seek ?_; repeat (first | refine TRYD.take ?_ | refine TRYD.next ?_); conv => whnf)
        | (refine HOLD.mk (by first | exact trivial | exact ⟨⟨rfl, rfl⟩, trivial⟩ | exact ⟨⟨rfl, rfl⟩, ⟨rfl, rfl⟩, trivial⟩) ?_; (conv => whnf))
        | (refine CALL0.by (hF ..) rfl ?_; conv => whnf)
        | (refine CALLQ.mk _ _ _ (leL_refl _) (hF ..) rfl ?_; conv => whnf)
      exact ⟨rfl, rfl⟩
  | false =>
  rw [cond_false]
  cases q2 : eqS s.mode sStop with
  | true =>
    rw [cond_true]
    cases q3 : (s.allowedN m (plainA sRest) == 0) with
    | true =>
      conv => whnf
      split
      · rename_i h
        exact Bool.noConfusion ((q1).symm.trans h)
      rename_i hN
      clear hN
      conv => whnf
      split
      rotate_left
      · rename_i h
        exact Bool.noConfusion ((q2).symm.trans h)
      rename_i hN
      clear hN
      conv => whnf
      repeat first
        | (refine DRAW.seek ?_; repeat (first | refine TRYD.take ?_ | refine TRYD.next ?_); conv => whnf)
        | (refine HOLD.mk (by first | exact trivial | exact ⟨⟨rfl, rfl⟩, trivial⟩ | exact ⟨⟨rfl, rfl⟩, ⟨rfl, rfl⟩, trivial⟩) ?_; (conv => whnf))
        | (refine CALL0.by (hR ..) rfl ?_; conv => whnf)
        | (refine CALLQ.mk _ _ _ (leL_refl _) (hR ..) rfl ?_; conv => whnf)
      split
      rotate_left
      · rename_i h
        exact Bool.noConfusion ((q3).symm.trans h)
      rename_i hN
      clear hN
      conv => whnf
      exact ⟨rfl, rfl⟩
    | false =>
      conv => whnf
      split
      · rename_i h
        exact Bool.noConfusion ((q1).symm.trans h)
      rename_i hN
      clear hN
      conv => whnf
      split
      rotate_left
      · rename_i h
        exact Bool.noConfusion ((q2).symm.trans h)
      rename_i hN
      clear hN
      conv => whnf
      repeat first
        | (refine DRAW.seek ?_; repeat (first | refine TRYD.take ?_ | refine TRYD.next ?_); conv => whnf)
        | (refine HOLD.mk (by first | exact trivial | exact ⟨⟨rfl, rfl⟩, trivial⟩ | exact ⟨⟨rfl, rfl⟩, ⟨rfl, rfl⟩, trivial⟩) ?_; (conv => whnf))
        | (refine CALL0.by (hR ..) rfl ?_; conv => whnf)
        | (refine CALLQ.mk _ _ _ (leL_refl _) (hR ..) rfl ?_; conv => whnf)
      split
      · rename_i h
        exact Bool.noConfusion ((q3).symm.trans h)
      rename_i hN
      clear hN
      conv => whnf
      exact ⟨rfl, rfl⟩
  | false =>
  rw [cond_false]
  cases q3 : (s.allowedN m (s.tickA wind (minW m.fea (maxW 0 (w64 (m.gain * w64 (s.speed - m.rated))))) (minW m.tor (w64 (Int.tdiv (w64 (m.tor * s.speed)) m.rated)))) == 0) with
  | true =>
    conv => whnf
    split
    · rename_i h
      exact Bool.noConfusion ((q1).symm.trans h)
    rename_i hN
    clear hN
    conv => whnf
    split
    · rename_i h
      exact Bool.noConfusion ((q2).symm.trans h)
    rename_i hN
    clear hN
    conv => whnf
    refine DRAW.seek ?_
    repeat (first | refine TRYD.take ?_ | refine TRYD.next ?_)
    conv => whnf
    split
    rotate_left
    · rename_i h
      exact Bool.noConfusion ((z).symm.trans h)
    rename_i hN
    clear hN
    conv => whnf
    repeat first
      | (refine DRAW.seek ?_; repeat (first | refine TRYD.take ?_ | refine TRYD.next ?_); conv => whnf)
      | (refine HOLD.mk (by first | exact trivial | exact ⟨⟨rfl, rfl⟩, trivial⟩ | exact ⟨⟨rfl, rfl⟩, ⟨rfl, rfl⟩, trivial⟩) ?_; (conv => whnf))
      | (refine CALL0.by (hT ..) rfl ?_; conv => whnf)
      | (refine CALLQ.mk _ _ _ (leL_refl _) (hT ..) rfl ?_; conv => whnf)
    split
    rotate_left
    · rename_i h
      exact Bool.noConfusion ((q3).symm.trans h)
    rename_i hN
    clear hN
    conv => whnf
    exact ⟨rfl, rfl⟩
  | false =>
  rw [cond_false]
  cases q4 : (s.allowedN m (s.tickA wind m.fea (minW m.tor (w64 (Int.tdiv (w64 (m.tor * s.speed)) m.rated)))) == 0) with
  | true =>
    conv => whnf
    split
    · rename_i h
      exact Bool.noConfusion ((q1).symm.trans h)
    rename_i hN
    clear hN
    conv => whnf
    split
    · rename_i h
      exact Bool.noConfusion ((q2).symm.trans h)
    rename_i hN
    clear hN
    conv => whnf
    refine DRAW.seek ?_
    repeat (first | refine TRYD.take ?_ | refine TRYD.next ?_)
    conv => whnf
    split
    rotate_left
    · rename_i h
      exact Bool.noConfusion ((z).symm.trans h)
    rename_i hN
    clear hN
    conv => whnf
    repeat first
      | (refine DRAW.seek ?_; repeat (first | refine TRYD.take ?_ | refine TRYD.next ?_); conv => whnf)
      | (refine HOLD.mk (by first | exact trivial | exact ⟨⟨rfl, rfl⟩, trivial⟩ | exact ⟨⟨rfl, rfl⟩, ⟨rfl, rfl⟩, trivial⟩) ?_; (conv => whnf))
      | (refine CALL0.by (hT ..) rfl ?_; conv => whnf)
      | (refine CALLQ.mk _ _ _ (leL_refl _) (hT ..) rfl ?_; conv => whnf)
    split
    · rename_i h
      exact Bool.noConfusion ((q3).symm.trans h)
    rename_i hN
    clear hN
    conv => whnf
    repeat first
      | (refine DRAW.seek ?_; repeat (first | refine TRYD.take ?_ | refine TRYD.next ?_); conv => whnf)
      | (refine HOLD.mk (by first | exact trivial | exact ⟨⟨rfl, rfl⟩, trivial⟩ | exact ⟨⟨rfl, rfl⟩, ⟨rfl, rfl⟩, trivial⟩) ?_; (conv => whnf))
      | (refine CALL0.by (hU ..) rfl ?_; conv => whnf)
      | (refine CALLQ.mk _ _ _ (leL_refl _) (hU ..) rfl ?_; conv => whnf)
    split
    rotate_left
    · rename_i h
      exact Bool.noConfusion ((q4).symm.trans h)
    rename_i hN
    clear hN
    conv => whnf
    exact ⟨rfl, rfl⟩
  | false =>
    conv => whnf
    split
    · rename_i h
      exact Bool.noConfusion ((q1).symm.trans h)
    rename_i hN
    clear hN
    conv => whnf
    split
    · rename_i h
      exact Bool.noConfusion ((q2).symm.trans h)
    rename_i hN
    clear hN
    conv => whnf
    refine DRAW.seek ?_
    repeat (first | refine TRYD.take ?_ | refine TRYD.next ?_)
    conv => whnf
    split
    rotate_left
    · rename_i h
      exact Bool.noConfusion ((z).symm.trans h)
    rename_i hN
    clear hN
    conv => whnf
    repeat first
      | (refine DRAW.seek ?_; repeat (first | refine TRYD.take ?_ | refine TRYD.next ?_); conv => whnf)
      | (refine HOLD.mk (by first | exact trivial | exact ⟨⟨rfl, rfl⟩, trivial⟩ | exact ⟨⟨rfl, rfl⟩, ⟨rfl, rfl⟩, trivial⟩) ?_; (conv => whnf))
      | (refine CALL0.by (hT ..) rfl ?_; conv => whnf)
      | (refine CALLQ.mk _ _ _ (leL_refl _) (hT ..) rfl ?_; conv => whnf)
    split
    · rename_i h
      exact Bool.noConfusion ((q3).symm.trans h)
    rename_i hN
    clear hN
    conv => whnf
    repeat first
      | (refine DRAW.seek ?_; repeat (first | refine TRYD.take ?_ | refine TRYD.next ?_); conv => whnf)
      | (refine HOLD.mk (by first | exact trivial | exact ⟨⟨rfl, rfl⟩, trivial⟩ | exact ⟨⟨rfl, rfl⟩, ⟨rfl, rfl⟩, trivial⟩) ?_; (conv => whnf))
      | (refine CALL0.by (hU ..) rfl ?_; conv => whnf)
      | (refine CALLQ.mk _ _ _ (leL_refl _) (hU ..) rfl ?_; conv => whnf)
    split
    · rename_i h
      exact Bool.noConfusion ((q4).symm.trans h)
    rename_i hN
    clear hN
    conv => whnf
    exact ⟨rfl, rfl⟩
end Go.Proofs.YtkdlegfakefjgaaGreatDoor.Ix
