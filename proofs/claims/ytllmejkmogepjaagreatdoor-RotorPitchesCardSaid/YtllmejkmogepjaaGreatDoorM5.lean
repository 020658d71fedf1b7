/-
  Ix31: from a contract to a claim's own words: the arguments as data of given shapes, the call, the arguments as they were.
-/
import Derived.Test.YtllmejkmogepjaaGreatDoorM4
import Derived.SizedLaws
import Derived.Carry
import Derived.Lib.LaidTab
import Derived.Shelf.LaysM
import Derived.Shelf.Strings.OnBuilder
import Derived.Shelf.Strconv.Itoa3
import Derived.Test.YtllmejkmogepjaaGreatDoorProg
import Derived.MakeChecks
import Derived.Test.YtllmejkmogepjaaGreatDoorRows
import Derived.Test.YtllmejkmogepjaaGreatDoorTie
import Derived.Test.YtllmejkmogepjaaGreatDoorCards
import Derived.ProofKit
import Derived.OpenShut
import Derived.LaidMore
import Derived.Stop.Joined
import Derived.SevenTiedAt
namespace Go.Proofs.YtllmejkmogepjaaGreatDoor.Ix
set_option linter.unusedVariables false

mutual
/-- Has the type 't' this shape? -/
def shpB (P : Program) : Shp → TypeId → Bool
  | .int k, t => match P.underlying t with
    | some (.int k') => decide (k' = k)
    | _ => false
  | .bool, t => match P.underlying t with
    | some .bool => true
    | _ => false
  | .str, t => match P.underlying t with
    | some .string => true
    | _ => false
  | .slice e s, t => match P.underlying t with
    | some (.slice u) => Nat.beq (P.cellsOf u) e && Nat.blt 0 e && shpB P s u
    | _ => false
  | .agg l, t => Nat.beq (P.cellsOf t) (total l) && match P.underlying t with
    | some (.struct fs) => shpsB P l 0 (fs.toList.map fun f => (f.offset, f.type))
    | some (.array n e) => shpsB P l 0 ((List.range n).map fun i => (i * P.cellsOf e, e))
    | _ => false
def shpsB (P : Program) : List (Nat × Shp) → Nat → List (Nat × TypeId) → Bool
  | [], _, [] => true
  | (sz, s) :: l, off, (o, u) :: r => Nat.beq o off && Nat.beq (P.cellsOf u) sz && shpB P s u && shpsB P l (off + sz) r
  | _, _, _ => false
end

mutual
theorem shp_ok {P : Program} : ∀ (s : Shp) (t : TypeId), shpB P s t = true → ShpOK P s t
  | .int k, t, h => by
    simp only [shpB] at h
    split at h
    · rename_i k' hk; simp at h; subst h; exact hk
    · cases h
  | .bool, t, h => by
    simp only [shpB] at h
    split at h
    · assumption
    · cases h
  | .str, t, h => by
    simp only [shpB] at h
    split at h
    · assumption
    · cases h
  | .slice e s, t, h => by
    simp only [shpB] at h
    split at h
    · rename_i u hu
      simp only [Bool.and_eq_true, beq_iff] at h
      exact ⟨u, hu, h.1.1, blt_lt h.1.2, shp_ok s u h.2⟩
    · cases h
  | .agg l, t, h => by
    simp only [shpB, Bool.and_eq_true, beq_iff] at h
    obtain ⟨h1, h2⟩ := h
    refine ⟨h1, ?_⟩
    split at h2
    · rename_i fs hf; exact .inl ⟨fs, hf, shps_ok l _ _ h2⟩
    · rename_i n e hf; exact .inr ⟨n, e, hf, shps_ok l _ _ h2⟩
    · cases h2
theorem shps_ok {P : Program} : ∀ (l : List (Nat × Shp)) (off : Nat) (ts : List (Nat × TypeId)), shpsB P l off ts = true → ShpOKs P l off ts
  | [], _, [], _ => trivial
  | [], _, _ :: _, h => by simp [shpsB] at h
  | (sz, s) :: l, off, [], h => by simp [shpsB] at h
  | (sz, s) :: l, off, (o, u) :: r, h => by
    simp only [shpsB, Bool.and_eq_true, beq_iff] at h
    exact ⟨h.1.1.1, h.1.1.2, shp_ok s u h.1.2, shps_ok l _ r h.2⟩
end

/-- A value of this shape. -/
def FitV : Shp → IV → Prop
  | .agg l, v => ∃ xs, v = .agg xs ∧ FitL l xs
  | s, v => Fit s [v]

section
variable {H : Type} {enc : TypeId × Value → H} {P : Program} {w : World} {held : Bool} {base : Nat}

theorem open_shp {r : Reach} {b0 : Nat} (s : Shp) (t : TypeId) (hs : ShpOK P s t) {v : Value} {d : DataW H} {p : List MemPlace} (hval : Value.okWide P w r b0 t v) (h : DataW.Trod enc P w 0 (fun _ => true) held t v d p) :
    ∃ x, FitV s x ∧ D (fun a => w.cell? a) x v := by
  obtain ⟨fuel, h⟩ := h
  obtain ⟨xs, h1, h2, h3⟩ := fit_of_trod s t hs fuel _ _ h
  have plain : v.cells = #[v] → (∃ x, xs = [x]) → ∃ x, xs = [x] ∧ D (fun a => w.cell? a) x v := fun e hx => by
    obtain ⟨x, rfl⟩ := hx
    refine ⟨x, rfl, ?_⟩
    have := (h3 0 x rfl).1
    rw [e] at this; exact this
  cases s with
  | agg l =>
    simp only [ShpOK] at hs
    have : ∃ cs, v = .agg cs := by
      unfold Value.okWide at hval
      obtain ⟨_, ⟨fs, hu, _⟩ | ⟨n, e, hu, _⟩⟩ := hs
      · rw [hu] at hval; exact ⟨_, hval.choose_spec.1⟩
      · rw [hu] at hval; exact ⟨_, hval.choose_spec.1⟩
    obtain ⟨cs, rfl⟩ := this
    refine ⟨.agg xs, ⟨xs, rfl, h1⟩, .agg xs cs (by simpa [Value.cells] using h2) (fun j u hu => ?_) (fun j x hx => ?_)⟩
    · have hlt : j < xs.length := by rw [h2]; simpa [Value.cells] using (Array.getElem?_eq_some_iff.1 hu).1
      have := (h3 j _ (List.getElem?_eq_getElem hlt)).2
      simp only [Value.cells, List.getD_eq_getElem?_getD, Array.getElem?_toList, hu] at this
      exact this
    · have := (h3 j x hx).1
      simp only [Value.cells, List.getD_eq_getElem?_getD, Array.getElem?_toList] at this
      rw [Array.getD_eq_getD_getElem?]; exact this
  | int k =>
    simp only [ShpOK] at hs
    obtain ⟨n, rfl, hw⟩ := h1
    obtain ⟨m, hm, _, _⟩ := DataW.trod_int hs h
    have e : v.cells = #[v] := by cases v <;> simp_all [Value.cells, Value.okWide, Cell.okWide, Cell.ok]
    obtain ⟨x, hx, hD⟩ := plain e ⟨_, rfl⟩
    cases hx
    exact ⟨_, ⟨n, rfl, hw⟩, hD⟩
  | bool =>
    simp only [ShpOK] at hs
    obtain ⟨n, rfl⟩ := h1
    have e : v.cells = #[v] := by cases v <;> simp_all [Value.cells, Value.okWide, Cell.okWide, Cell.ok]
    obtain ⟨x, hx, hD⟩ := plain e ⟨_, rfl⟩
    cases hx
    exact ⟨_, ⟨n, rfl⟩, hD⟩
  | str =>
    simp only [ShpOK] at hs
    obtain ⟨n, rfl, hn⟩ := h1
    have e : v.cells = #[v] := by cases v <;> simp_all [Value.cells, Value.okWide, Cell.okWide, Cell.ok]
    obtain ⟨x, hx, hD⟩ := plain e ⟨_, rfl⟩
    cases hx
    exact ⟨_, ⟨n, rfl, hn⟩, hD⟩
  | slice e s =>
    simp only [ShpOK] at hs
    obtain ⟨u, hu, _⟩ := hs
    obtain ⟨n, f, rfl, hn⟩ := h1
    have e : v.cells = #[v] := by cases v <;> simp_all [Value.cells, Value.okWide, Cell.okWide, Cell.ok]
    obtain ⟨x, hx, hD⟩ := plain e ⟨_, rfl⟩
    cases hx
    exact ⟨_, ⟨n, f, rfl, hn⟩, hD⟩

/-- All arguments. -/
theorem open_shps {r : Reach} {b0 : Nat} : ∀ (ss : List Shp) (ts : List TypeId) (vs : List Value) (ds : List (DataW H)) (p : List MemPlace), ss.length = ts.length → (∀ (j : Nat) s t, ss[j]? = some s → ts[j]? = some t → ShpOK P s t) →
    (∀ (j : Nat) t v, ts[j]? = some t → vs[j]? = some v → Value.okWide P w r b0 t v) → DataW.TrodAll enc P w 0 (fun _ => true) held ts vs ds p →
    ∃ xs : List IV, xs.length = vs.length ∧ vs.length = ss.length ∧ (∀ (j : Nat) s x, ss[j]? = some s → xs[j]? = some x → FitV s x) ∧ ∀ (j : Nat) x, xs[j]? = some x → D (fun a => w.cell? a) x (vs.getD j undef)
  | [], [], vs, ds, p, _, _, _, h => by
    cases vs <;> cases ds <;> simp [DataW.TrodAll] at h
    exact ⟨[], rfl, rfl, fun j s x h => by simp at h, fun j x h => by simp at h⟩
  | [], _ :: _, _, _, _, hl, _, _, _ => by simp at hl
  | _ :: _, [], _, _, _, hl, _, _, _ => by simp at hl
  | s :: ss, t :: ts, vs, ds, p, hl, hs, hv, h => by
    obtain ⟨v, vs', d, ds', p1, p2, rfl, rfl, rfl, h1, h2⟩ := Go.ChangeShapes.trodAll_cons h
    obtain ⟨x, g1, g2⟩ := open_shp s t (hs 0 s t rfl rfl) (hv 0 t v rfl rfl) h1
    obtain ⟨xs, k0, k1, k2, k3⟩ := open_shps ss ts vs' ds' p2 (by simpa using hl) (fun j s t a b => hs (j + 1) s t (by simpa using a) (by simpa using b)) (fun j t v a b => hv (j + 1) t v (by simpa using a) (by simpa using b)) h2
    refine ⟨x :: xs, by simp [k0], by simp [k1], fun j s' x' a b => ?_, fun j x' b => ?_⟩
    · cases j with
      | zero => simp at a b; subst a b; exact g1
      | succ j => exact k2 j s' x' (by simpa using a) (by simpa using b)
    · cases j with
      | zero => simp at b; subst b; simpa using g2
      | succ j => simpa using k3 j x' (by simpa using b)

theorem trodAll_len : ∀ (ts : List TypeId) (vs : List Value) (ds : List (DataW H)) (p : List MemPlace) {spare : Nat → Bool}, DataW.TrodAll enc P w base spare held ts vs ds p → ds.length = ts.length
  | [], vs, ds, p, _, h => by
    cases vs <;> cases ds <;> simp [DataW.TrodAll] at h
    rfl
  | t :: ts, vs, ds, p, _, h => by
    obtain ⟨v, vs', d, ds', p1, p2, rfl, rfl, rfl, h1, h2⟩ := Go.ChangeShapes.trodAll_cons h
    simp [trodAll_len ts vs' ds' p2 h2]

/-- What the call did not touch reads as it did. -/
theorem shut_all (hl : laidOutB P = true) {W W' : World} (hb : Go.RowKit.Below W.heap.size W W') : ∀ (ts : List TypeId) (vs : List Value) (ds : List (DataW H)) (p : List MemPlace), ts.all (fun t => P.readableRec t && Nat.blt t P.types.size) = true →
    DataW.TrodAll enc P W 0 (fun _ => true) true ts vs ds p → DataW.TrodAll enc P W' 0 (fun b => decide (b < W.heap.size)) true ts vs ds p
  | [], vs, ds, p, _, h => by
    cases vs <;> cases ds <;> simp [DataW.TrodAll] at h ⊢
    exact h
  | t :: ts, vs, ds, p, ht, h => by
    obtain ⟨v, vs', d, ds', p1, p2, rfl, rfl, rfl, h1, h2⟩ := Go.ChangeShapes.trodAll_cons h
    simp only [List.all_cons, Bool.and_eq_true] at ht
    have lt : ∀ x ∈ p1, x.block < W.heap.size := by
      obtain ⟨m, hm⟩ := h1; exact DataW.trod_lt m _ _ _ hm
    exact ⟨_, _, (Go.RowKit.Below.trod hl ht.1.1 (blt_lt ht.1.2) h1 hb lt), shut_all hl hb ts vs' ds' p2 ht.2 h2, rfl⟩
end

/-- A contract, in the words of a claim. -/
theorem Comp.runG {P : Program} {gl : Nat → IV} {g : Nat} {args : List IV} {r : IV} {up' : List Ces} (h : Comp P gl g [] args r up') {vals : Array Value} {W : World} (hg : ∀ g, D (fun a => W.cell? a) (gl g) (.pointer (some ⟨g, 0, none⟩))) (hz : Gsz gl W) (hl : args.length = vals.size)
    (ha : ∀ (j : Nat) x, args[j]? = some x → D (fun a => W.cell? a) x (vals.getD j undef)) :
    Calls P g vals W fun e W' => ∃ v, e = .returned v ∧ (∃ I s, V I (under fun _ _ => none) s r v) ∧ Go.RowKit.Below W.heap.size W W' := by
  have hm : MemR gl [] W (fun a => W.cell? a) (fun b => b < W.heap.size) (fun _ _ => none) (fun _ => noSig) := by
    refine ⟨fun l d c hc => ?_, fun l d l' d' b h1 => (by cases h1), fun l d b h1 => (by cases h1), fun a v h => h, hg, fun b h => h, hz⟩
    simp [upC, lookC] at hc
  refine (h.2 vals W (fun a => W.cell? a) (fun b => b < W.heap.size) (fun _ _ => none) (fun _ => noSig) hm hl (fun j x hx => .data (ha j x hx))).mono fun e W' hh => ?_
  obtain ⟨v, I', s, e1, e2, _, _, e5⟩ := hh
  exact ⟨v, e1, ⟨I', s, e2⟩, ⟨e5.os, e5.tape, e5.output, e5.size, fun k hk => e5.keep k hk⟩⟩

theorem Comp.run {P : Program} {g : Nat} {args : List IV} {r : IV} {up' : List Ces} (h : Comp P (fun _ => .dead) g [] args r up') {vals : Array Value} {W : World} (hl : args.length = vals.size)
    (ha : ∀ (j : Nat) x, args[j]? = some x → D (fun a => W.cell? a) x (vals.getD j undef)) :
    Calls P g vals W fun e W' => ∃ v, e = .returned v ∧ (∃ I s, V I (under fun _ _ => none) s r v) ∧ Go.RowKit.Below W.heap.size W W' := h.runG (fun _ => .dead _) (fun _ _ _ _ _ _ h => by cases h) hl ha

/-! ### Tables of numbers: what a datum says of the cells -/
mutual
def flatD {H : Type} : DataW H → List Value
  | .lit (.int k n) => [.int k n]
  | .agg parts => flatDs parts
  | _ => []
def flatDs {H : Type} : List (DataW H) → List Value
  | [] => []
  | d :: r => flatD d ++ flatDs r
end
mutual
def flatS : Shp → Bool
  | .int _ => true
  | .agg l => flatSs l
  | _ => false
def flatSs : List (Nat × Shp) → Bool
  | [] => true
  | (_, s) :: r => flatS s && flatSs r
end

section
variable {H : Type} {enc : TypeId × Value → H} {P : Program} {w : World} {held : Bool} {spare : Nat → Bool}

theorem shps_len : ∀ (l : List (Nat × Shp)) (off : Nat) (ts : List (Nat × TypeId)), ShpOKs P l off ts → ts.length = l.length
  | [], off, [], h => rfl
  | [], off, _ :: _, h => by simp [ShpOKs] at h
  | (sz, s) :: l, off, [], h => by simp [ShpOKs] at h
  | (sz, s) :: l, off, (o, u) :: r, h => by
    simp only [ShpOKs] at h
    simp [shps_len l _ r h.2.2.2]

mutual
theorem flat_of_trod : ∀ (s : Shp) (t : TypeId), ShpOK P s t → flatS s = true → ∀ (fuel : Nat) (cs : List Value) (x : DataW H × List MemPlace), DataW.trod enc P w 0 spare held fuel t cs = some x → flatD x.1 = cs
  | .int k, t, ht, _, fuel, cs, x, h => by
    simp only [ShpOK] at ht
    obtain ⟨n, rfl, rfl, hw⟩ := DataW.trod_int ht h
    rfl
  | .bool, t, ht, hf, fuel, cs, x, h => by simp [flatS] at hf
  | .str, t, ht, hf, fuel, cs, x, h => by simp [flatS] at hf
  | .slice e s, t, ht, hf, fuel, cs, x, h => by simp [flatS] at hf
  | .agg l, t, ht, hf, fuel, cs, x, h => by
    simp only [ShpOK] at ht
    simp only [flatS] at hf
    obtain ⟨hsz, ⟨fs, hu, hfs⟩ | ⟨n, e, hu, hfs⟩⟩ := ht
    · obtain ⟨ys, n, _, rfl, hcl, hyl, hy⟩ := DataW.trod_struct hu h
      have hlen := shps_len l 0 _ hfs
      simp only [List.length_map, Array.length_toList] at hlen
      have := flats_of_trod l 0 _ hfs hf n cs ys (fun i o u hi => by
        simp only [List.getElem?_map, Option.map_eq_some_iff] at hi
        obtain ⟨f, hf, e⟩ := hi
        simp only [Prod.mk.injEq] at e
        obtain ⟨rfl, rfl⟩ := e
        exact hy i f (by simpa using hf)) (by simp [hyl]) (by omega)
      simpa [flatD] using this
    · obtain ⟨ys, m, _, rfl, hcl, hyl, hy⟩ := DataW.trod_array hu h
      have := flats_of_trod l 0 _ hfs hf m cs ys (fun i o u hi => by
        simp only [List.getElem?_map, Option.map_eq_some_iff] at hi
        obtain ⟨f, hf, e⟩ := hi
        simp only [Prod.mk.injEq] at e
        obtain ⟨rfl, rfl⟩ := e
        obtain ⟨hlt, rfl⟩ := List.getElem?_eq_some_iff.1 hf
        simp at hlt ⊢
        exact hy i hlt) (by simp [hyl]) (by omega)
      simpa [flatD] using this
theorem flats_of_trod : ∀ (l : List (Nat × Shp)) (off : Nat) (ts : List (Nat × TypeId)), ShpOKs P l off ts → flatSs l = true → ∀ (fuel : Nat) (cs : List Value) (xs : List (DataW H × List MemPlace)),
    (∀ (i : Nat) o u, ts[i]? = some (o, u) → DataW.trod enc P w 0 spare held fuel u ((cs.drop o).take (P.cellsOf u)) = xs[i]?) → xs.length = ts.length → cs.length = off + total l → flatDs (xs.map (·.1)) = cs.drop off
  | [], off, ts, h, _, fuel, cs, xs, hx, hxl, hl => by
    have h0 := shps_len [] off ts h
    have : xs = [] := by simpa using hxl.trans h0
    subst this
    simp [total] at hl
    simp [flatDs, hl]
  | (sz, s) :: l, off, [], h, _, fuel, cs, xs, hx, hxl, hl => by simp [ShpOKs] at h
  | (sz, s) :: l, off, (o, u) :: r, h, hf, fuel, cs, xs, hx, hxl, hl => by
    simp only [ShpOKs] at h
    obtain ⟨rfl, rfl, h3, h4⟩ := h
    simp only [total] at hl
    simp only [flatSs, Bool.and_eq_true] at hf
    cases xs with
    | nil => simp at hxl
    | cons y ys =>
      have hy := hx 0 o u rfl
      have k1 := flat_of_trod s u h3 hf.1 fuel _ y hy
      have k2 := flats_of_trod l (o + P.cellsOf u) r h4 hf.2 fuel cs ys (fun i o' u' hi => by have := hx (i + 1) o' u' (by simpa using hi); simpa using this) (by simpa using hxl) (by omega)
      simp only [List.map_cons, flatDs, k1, k2]
      rw [← List.drop_drop, List.take_append_drop]
end
end

end Go.Proofs.YtllmejkmogepjaaGreatDoor.Ix

/-
  Ix32: a contract of the library, told of the memory below the heap's end, as a contract here; a table among the variables.
-/
namespace Go.Proofs.YtllmejkmogepjaaGreatDoor.Ix
set_option linter.unusedVariables false

theorem Below_cells {w w' : World} (h : Go.RowKit.Below w.heap.size w w') {k : Nat} {o : Obj} (hk : w.heap[k]? = some o) : w'.heap[k]? = some o := by
  rw [h.block k (heap_lt hk)]; exact hk

theorem MemR.below {gl : Nat → IV} {cs : List Ces} {w w' : World} {I : Imm} {X : Nat → Prop} {β : Beta} {σ : Nat → Sig} (m : MemR gl cs w I X β σ) (h : Go.RowKit.Below w.heap.size w w') : MemR gl cs w' I X β σ := by
  refine ⟨fun l d c hc => ?_, m.inj, m.keys, fun x v hx => ?_, m.glo, fun b hb => Nat.lt_of_lt_of_le (m.xb b hb) h.size, m.gz.of fun g arr el mm hg => ⟨arr, el, mm, Below_cells h hg, rfl⟩⟩
  · obtain ⟨b, arr, el, h1, h2, h3⟩ := m.cell l d c hc
    exact ⟨b, arr, el, h1, Below_cells h h2, h3⟩
  · have h1 := m.im x v hx
    rw [World.cell?_of_block (h.block x.block (World.block_lt_of_cell? w _ h1))]; exact h1

theorem comp_of_below {P : Program} {gl : Nat → IV} {g : Nat} {up : List Ces} {args : List IV} {r : IV} {fn : Func} {c : Code} (hf : P.funcs[g]? = some fn) (hb : fn.body = some c) (hn : (fn.name == "runtime.NumGoroutine") = false)
    (h : ∀ (vals : Array Value) (w : World) (I : Imm) (X : Nat → Prop) (β : Beta) (σ : Nat → Sig), MemR gl up w I X β σ → args.length = vals.size →
      (∀ (j : Nat) x, args[j]? = some x → V I (under β) noSig x (vals.getD j undef)) → Calls P g vals w fun e w' => ∃ v, e = .returned v ∧ D I r v ∧ Go.RowKit.Below w.heap.size w w') : Comp P gl g up args r up := by
  refine ⟨⟨fn, c, hf, hb, hn⟩, fun vals w I X β σ m hl ha => (h vals w I X β σ m hl ha).mono ?_⟩
  rintro e w' ⟨v, he, hd, bel⟩
  exact ⟨v, I, noSig, he, .data hd, ⟨fun t g h => (by cases h), fun t t' g g' h => (by cases h)⟩, m.below bel,
    ⟨bel.os, bel.tape, bel.output, bel.size, fun b hb => bel.block b (m.xb b hb), fun _ _ h => h, fun _ _ => rfl, fun k o hk _ => Below_cells bel hk⟩⟩

theorem noSig_str {I : Imm} {β : Beta} {s : ByteArray} {v : Value} (h : V I β noSig (.str s) v) : v = .string s := by
  cases h with
  | data h => cases h; rfl

theorem noSig_int {I : Imm} {β : Beta} {k : IntKind} {n : Int} {v : Value} (h : V I β noSig (.int k n) v) : v = .int k n := by
  cases h with
  | data h => cases h; rfl

/-- A list of strings that came in. -/
theorem noSig_strs {I : Imm} {β : Beta} {n : Nat} {f : Nat → List IV} (s : Nat → ByteArray) (hf : ∀ i, i < n → f i = [.str (s i)]) {v : Value} (h : V I β noSig (.lst none 1 n f) v) :
    (n = 0 ∧ ∃ p, v = .slice p 0 0) ∨ ∃ b o c, v = .slice (some ⟨b, o, none⟩) n c ∧ n ≤ c ∧ ∀ i, i < n → I ⟨b, o + i, none⟩ = some (.string (s i)) := by
  cases h with
  | data h =>
    cases h with
    | lstN e f => exact .inl ⟨rfl, _, rfl⟩
    | lst e n f b off c g hc hl hI h1 h =>
      refine .inr ⟨b, off, c, rfl, hc, fun i hi => ?_⟩
      have hd := h i 0 _ hi (by rw [hf i hi]; rfl)
      have hs : g i 0 = .string (s i) := by generalize g i 0 = u at hd; cases hd; rfl
      have := hI i 0 hi (by decide)
      rw [hs] at this
      simpa using this

/-- A variable that is told as a row of integers is that table. -/
theorem tab_of {P : Program} {gl : Nat → IV} {cs : List Ces} {w : World} {I : Imm} {X : Nat → Prop} {β : Beta} {σ : Nat → Sig} (m : MemR gl cs w I X β σ) {name : String} {g : Nat} {k : IntKind} {zs : List Int} (hg : P.globalNamed name = some g)
    (h : gl g = .vptr zs.length 1 (fun _ => zs.map fun z => .int k z) 0 0) (hz : 0 < zs.length) : Go.Lib.TabIs P w name k zs := by
  obtain ⟨arr, el, mm, h1, h2⟩ := m.gz g _ _ _ _ _ h (by decide) hz
  have hd := m.glo g
  rw [h] at hd
  generalize hv : Value.pointer (some ⟨g, 0, none⟩) = v at hd
  cases hd with
  | vptr e n f i j b off gg hi hl hI h1' hD =>
    simp at hv
    obtain ⟨rfl, hoff⟩ := hv
    subst hoff
    unfold Go.Lib.TabIs World.var?
    rw [hg]
    simp only [Option.bind_some, h1]
    congr 1
    apply Array.ext
    · simp [h2]
    · intro j hj hj'
      have hj2 : j < zs.length := by simpa using hj'
      have hx := m.im _ _ (hI 0 j (by decide) hj2)
      have hd := hD 0 j (.int k zs[j]) (by decide) (by simp [hj2])
      have hs : gg 0 j = .int k zs[j] := by generalize gg 0 j = u at hd; cases hd; rfl
      rw [hs] at hx
      simp [World.cell?, h1] at hx
      rw [Array.getElem?_eq_getElem hj] at hx
      simpa using hx
end Go.Proofs.YtllmejkmogepjaaGreatDoor.Ix

/- The shelf's contracts at this seat, laid in plain words. Written by shelf.py. -/
namespace Go.Proofs.YtllmejkmogepjaaGreatDoor.Ix
open Go.Proofs Go.Shelf
def laysItoa_ren : Go.Shelf.Ren := ⟨fun | 171 => 98 | 243 => 104 | 246 => 107 | 283 => 110 | 284 => 111 | 285 => 112 | 286 => 113 | 129 => 115 | 317 => 114 | 318 => 116 | 319 => 117 | 320 => 118 | 337 => 119 | 338 => 120 | n => n, fun | 3 => 3 | 9 => 9 | 2 => 2 | 4 => 4 | 171 => 172 | 0 => 0 | 53 => 173 | 37 => 158 | 5 => 5 | 173 => 176 | 212 => 179 | 51 => 180 | 20 => 20 | 213 => 181 | 46 => 183 | 232 => 186 | 233 => 187 | n => n, fun | 17 => 2 | 18 => 3 | 19 => 4 | n => n⟩
theorem laysItoa : Go.Proofs.LaysM.n171 Tryz.prog laysItoa_ren := {
  mixed := by kernel_rfl
  f129 := Tryz.func115.trans (congrArg some (by kernel_rfl))
  f171 := Tryz.func98.trans (congrArg some (by kernel_rfl))
  f243 := Tryz.func104.trans (congrArg some (by kernel_rfl))
  f246 := Tryz.func107.trans (congrArg some (by kernel_rfl))
  f283 := Tryz.func110.trans (congrArg some (by kernel_rfl))
  f284 := Tryz.func111.trans (congrArg some (by kernel_rfl))
  f285 := Tryz.func112.trans (congrArg some (by kernel_rfl))
  f286 := Tryz.func113.trans (congrArg some (by kernel_rfl))
  f317 := Tryz.func114.trans (congrArg some (by kernel_rfl))
  f318 := Tryz.func116.trans (congrArg some (by kernel_rfl))
  f319 := Tryz.func117.trans (congrArg some (by kernel_rfl))
  f320 := Tryz.func118.trans (congrArg some (by kernel_rfl))
  f337 := Tryz.func119.trans (congrArg some (by kernel_rfl))
  f338 := Tryz.func120.trans (congrArg some (by kernel_rfl))
  t0 := Tryz.underlying0
  a0 := Tryz.isAgg0
  z0 := Tryz.sizeOf0
  v0 := Tryz.zeroValue0
  t2 := Tryz.underlying2
  a2 := Tryz.isAgg2
  z2 := Tryz.sizeOf2
  v2 := Tryz.zeroValue2
  t3 := Tryz.underlying3
  a3 := Tryz.isAgg3
  z3 := Tryz.sizeOf3
  v3 := Tryz.zeroValue3
  t4 := Tryz.underlying4
  a4 := Tryz.isAgg4
  z4 := Tryz.sizeOf4
  v4 := Tryz.zeroValue4
  t5 := Tryz.underlying5
  a5 := Tryz.isAgg5
  z5 := Tryz.sizeOf5
  v5 := Tryz.zeroValue5
  t9 := Tryz.underlying9
  a9 := Tryz.isAgg9
  z9 := Tryz.sizeOf9
  v9 := Tryz.zeroValue9
  t20 := Tryz.underlying20
  a20 := Tryz.isAgg20
  z20 := Tryz.sizeOf20
  v20 := Tryz.zeroValue20
  t37 := Tryz.underlying158
  a37 := Tryz.isAgg158
  z37 := Tryz.sizeOf158
  v37 := Tryz.zeroValue158
  t46 := Tryz.underlying183
  a46 := Tryz.isAgg183
  z46 := Tryz.sizeOf183
  v46 := Tryz.zeroValue183
  t51 := Tryz.underlying180
  a51 := Tryz.isAgg180
  z51 := Tryz.sizeOf180
  v51 := Tryz.zeroValue180
  t53 := Tryz.underlying173
  a53 := Tryz.isAgg173
  z53 := Tryz.sizeOf173
  v53 := Tryz.zeroValue173
  t171 := Tryz.underlying172
  a171 := Tryz.isAgg172
  z171 := Tryz.sizeOf172
  v171 := Tryz.zeroValue172
  t173 := Tryz.underlying176
  a173 := Tryz.isAgg176
  z173 := Tryz.sizeOf176
  v173 := Tryz.zeroValue176
  t212 := Tryz.underlying179
  a212 := Tryz.isAgg179
  z212 := Tryz.sizeOf179
  v212 := Tryz.zeroValue179
  t213 := Tryz.underlying181
  a213 := Tryz.isAgg181
  z213 := Tryz.sizeOf181
  t232 := Tryz.underlying186
  a232 := Tryz.isAgg186
  z232 := Tryz.sizeOf186
  v232 := Tryz.zeroValue186
  t233 := Tryz.underlying187
  a233 := Tryz.isAgg187
  z233 := Tryz.sizeOf187
  v233 := Tryz.zeroValue187
  g17 := by kernel_rfl
  g18 := by kernel_rfl
  g19 := by kernel_rfl
  i0 := by kernel_rfl
  i2 := by kernel_rfl
  i3 := by kernel_rfl
  i4 := by kernel_rfl
  i5 := by kernel_rfl
  i9 := by kernel_rfl
  i20 := by kernel_rfl
  i37 := by kernel_rfl
  i46 := by kernel_rfl
  i51 := by kernel_rfl
  i53 := by kernel_rfl
  i171 := by kernel_rfl
  i173 := by kernel_rfl
  i212 := by kernel_rfl
  i232 := by kernel_rfl
  i233 := by kernel_rfl
  m17 := by kernel_rfl
  m18 := by kernel_rfl
  m19 := by kernel_rfl }

def laysJoin_ren : Go.Shelf.Ren := ⟨fun | 156 => 96 | 165 => 101 | 166 => 102 | 169 => 103 | 240 => 105 | 241 => 106 | 276 => 108 | 277 => 109 | n => n, fun | 31 => 153 | 9 => 9 | 3 => 3 | 4 => 4 | 0 => 0 | 20 => 20 | 72 => 160 | 76 => 164 | 70 => 157 | 37 => 158 | 75 => 163 | 127 => 167 | 164 => 169 | 5 => 5 | 80 => 166 | n => n, fun | n => n⟩
theorem laysJoin : Go.Proofs.Lays.n156 Tryz.prog laysJoin_ren := {
  mixed := by kernel_rfl
  f156 := Tryz.func96.trans (congrArg some (by kernel_rfl))
  f165 := Tryz.func101.trans (congrArg some (by kernel_rfl))
  f166 := Tryz.func102.trans (congrArg some (by kernel_rfl))
  f169 := Tryz.func103.trans (congrArg some (by kernel_rfl))
  f240 := Tryz.func105.trans (congrArg some (by kernel_rfl))
  f241 := Tryz.func106.trans (congrArg some (by kernel_rfl))
  f276 := Tryz.func108.trans (congrArg some (by kernel_rfl))
  f277 := Tryz.func109.trans (congrArg some (by kernel_rfl))
  t0 := Tryz.underlying0
  a0 := Tryz.isAgg0
  z0 := Tryz.sizeOf0
  v0 := Tryz.zeroValue0
  t3 := Tryz.underlying3
  a3 := Tryz.isAgg3
  z3 := Tryz.sizeOf3
  v3 := Tryz.zeroValue3
  t4 := Tryz.underlying4
  a4 := Tryz.isAgg4
  z4 := Tryz.sizeOf4
  v4 := Tryz.zeroValue4
  t9 := Tryz.underlying9
  a9 := Tryz.isAgg9
  z9 := Tryz.sizeOf9
  v9 := Tryz.zeroValue9
  t20 := Tryz.underlying20
  a20 := Tryz.isAgg20
  z20 := Tryz.sizeOf20
  v20 := Tryz.zeroValue20
  t31 := Tryz.underlying153
  a31 := Tryz.isAgg153
  z31 := Tryz.sizeOf153
  v31 := Tryz.zeroValue153
  t37 := Tryz.underlying158
  a37 := Tryz.isAgg158
  z37 := Tryz.sizeOf158
  v37 := Tryz.zeroValue158
  t70 := Tryz.underlying157
  a70 := Tryz.isAgg157
  z70 := Tryz.sizeOf157
  v70 := Tryz.zeroValue157
  t72 := Tryz.underlying160
  a72 := Tryz.isAgg160
  z72 := Tryz.sizeOf160
  v72 := Tryz.zeroValue160
  t75 := Tryz.underlying163
  a75 := Tryz.isAgg163
  z75 := Tryz.sizeOf163
  v75 := Tryz.zeroValue163
  t76 := Tryz.underlying164
  a76 := Tryz.isAgg164
  z76 := Tryz.sizeOf164
  v76 := Tryz.zeroValue164
  t127 := Tryz.underlying167
  a127 := Tryz.isAgg167
  z127 := Tryz.sizeOf167
  v127 := Tryz.zeroValue167
  t164 := Tryz.underlying169
  a164 := Tryz.isAgg169
  z164 := Tryz.sizeOf169
  v164 := Tryz.zeroValue169 }

theorem extraJoin : Builder.Extra Tryz.prog laysJoin_ren := {
  sizeBuilder := by kernel_rfl
  liesBuilder := by kernel_rfl
  t5 := Tryz.underlying5
  a5 := Tryz.isAgg5
  z5 := Tryz.sizeOf5
  v5 := Tryz.zeroValue5
  infoByte := by kernel_rfl
  cellsByte := by kernel_rfl
  sizeByte := by kernel_rfl
  neB5 := by decide }
end Go.Proofs.YtllmejkmogepjaaGreatDoor.Ix

/-
  St1: contracts about texts: numerals and joined strings out of the library, a line, the text of a blade.
-/
namespace Go.Proofs.YtllmejkmogepjaaGreatDoor.Ix
open Go.Proofs
set_option maxRecDepth 100000
set_option linter.unusedVariables false
set_option linter.unusedSimpArgs false
variable {gl : Nat → IV}

/-- The table of the powers of ten, as it lies. -/
noncomputable abbrev powI : IV := .vptr Go.Lib.pow10Tab.length 1 (fun _ => Go.Lib.pow10Tab.map fun z => .int .u64 z) 0 0
theorem gPow : prog.globalNamed "internal/strconv.uint64pow10" = some g_internal_strconv_uint64pow10 := by kernel_rfl

theorem one_arg {vals : Array Value} (h : 1 = vals.size) : ∃ v, vals = #[v] := by
  rcases vals with ⟨l⟩
  match l, h with
  | [v], _ => exact ⟨v, rfl⟩
theorem two_args {vals : Array Value} (h : 2 = vals.size) : ∃ v u, vals = #[v, u] := by
  rcases vals with ⟨l⟩
  match l, h with
  | [v, u], _ => exact ⟨v, u, rfl⟩

theorem c_Itoa (up : List Ces) (hg : gl g_internal_strconv_uint64pow10 = powI) (n : Int) (hn : i64 n) : Cs gl n_strconv_Itoa up [.int .i64 n] (.str (bytesS (Go.Lib.itoa n))) up := by
  refine comp_of_below h_strconv_Itoa rfl rfl fun vals w I X β σ m hl ha => ?_
  obtain ⟨v, rfl⟩ := one_arg hl
  have hv := noSig_int (ha 0 _ rfl)
  have hv : v = .int .i64 n := hv
  subst hv
  refine (Any.strconv_Itoa laysItoa n hn.1 hn.2 w (tab_of m gPow hg (by rw [Go.Lib.pow10Tab_length]; decide))).mono ?_
  rintro e w' ⟨rfl, k, os, rfl⟩
  refine ⟨_, rfl, .str _, rfl, rfl, rfl, by simp [Go.Sort.grow, World.drewN], fun k hk => ?_⟩
  simp only [Go.Sort.grow, World.drewN]
  rw [Array.getElem?_append_left hk]

theorem c_Join (up : List Ces) (n : Nat) (f : Nat → List IV) (s : Nat → List UInt8) (sep : List UInt8) (hf : ∀ i, i < n → f i = [.str (bytesS (s i))]) (hn : n ≤ 1000000) (hl : (Go.Lib.join ((List.range n).map s) sep).length ≤ 140737488355328) :
    Cs gl n_strings_Join up [.lst none 1 n f, .str (bytesS sep)] (.str (bytesS (Go.Lib.join ((List.range n).map s) sep))) up := by
  refine comp_of_below h_strings_Join rfl rfl fun vals w I X β σ m hlen ha => ?_
  obtain ⟨v, u, rfl⟩ := two_args hlen
  have hu : u = .string (bytesS sep) := noSig_str (ha 1 _ rfl)
  subst hu
  rcases noSig_strs (fun i => bytesS (s i)) hf (ha 0 _ rfl) with ⟨rfl, p, hv⟩ | ⟨b, o, c, hv, hc, hI⟩
  · have hv : v = .slice p 0 0 := hv
    subst hv
    refine (Any.strings_Join_none laysJoin extraJoin p 0 (bytesS sep) w).mono ?_
    rintro e w' ⟨rfl, rfl⟩
    exact ⟨_, rfl, .str _, Go.RowKit.Below.refl _ _⟩
  · have hv : v = .slice (some ⟨b, o, none⟩) n c := hv
    subst hv
    by_cases h0 : n = 0
    · subst h0
      refine (Any.strings_Join_none laysJoin extraJoin (some ⟨b, o, none⟩) c (bytesS sep) w).mono ?_
      rintro e w' ⟨rfl, rfl⟩
      exact ⟨_, rfl, .str _, Go.RowKit.Below.refl _ _⟩
    · have hcell : ∀ (j : Nat) x, ((List.range n).map fun i => bytesS (s i))[j]? = some x → w.cell? ⟨b, o + j, none⟩ = some (.string x) := fun j x hx => by
        rw [List.getElem?_map] at hx
        by_cases hj : j < n
        · rw [List.getElem?_range hj] at hx
          cases hx
          exact m.im _ _ (hI j hj)
        · rw [List.getElem?_eq_none (by simp; omega)] at hx; cases hx
      have e : ((List.range n).map fun i => bytesS (s i)).map (fun x => x.data.toList) = (List.range n).map s := by
        rw [List.map_map]
        exact List.map_congr_left fun i _ => bytesS_data (s i)
      have hb : b < w.heap.size := World.block_lt_of_cell? w _ (m.im _ _ (hI 0 (by omega)))
      have hJ := Any.strings_Join laysJoin extraJoin b o c ((List.range n).map fun i => bytesS (s i)) (bytesS sep) w hcell hb (by simp; omega) (by simpa using hc) (by rw [e, bytesS_data]; exact hl)
      rw [e, bytesS_data] at hJ
      have hsz : ((List.range n).map fun i => bytesS (s i)).length = n := by simp
      rw [hsz] at hJ
      refine hJ.mono ?_
      rintro e w' ⟨rfl, bel⟩
      exact ⟨_, rfl, .str _, bel⟩

theorem c_mappedS (up : List Ces) (n : Nat) (hn : n ≤ 1000000) (f : Nat → Int) (φ : Nat → ByteArray) (k : Nat) (hk : ∀ up i, i < n → Cs gl k up [.int .i64 (f i)] (.str (φ i)) up) :
    Cs gl n_rotor_mapped_int_string up [.lst none 1 n fun i => [.int .i64 (f i)], .fn k [] []] (.lst (some 19) 1 n fun i => [.str (φ i)]) up := by
  refine mk h_rotor_mapped_int_string rfl rfl ?_
  conv => whnf
  refine .mk (α := {i : Nat // i ≤ n}) (fun i => ⟨[(10, .int .i64 i.1), (9, .int .i64 n), (8, .lst none 1 n fun i => [.int .i64 (f i)]), (5, .lst (some 19) 1 i.1 fun i => [.str (φ i)]), (1, .fn k [] [])], [], up⟩) (fun i => n - i.1) ⟨0, Nat.zero_le _⟩ ⟨?_, trivial, rfl, rfl⟩ ?_
  · exact ⟨leV_refl _, leV_refl _, leV_refl _, rfl, leV_refl _, trivial⟩
  · rintro ⟨i, hi⟩
    conv => whnf
    split
    · rename_i hb
      have hlt : i < n := by simpa using hb
      conv => whnf
      split
      · conv => whnf
        refine .mk _ _ _ _ _ (leL_refl _) (hk _ i hlt) rfl ?_
        conv => whnf
        split
        · conv => whnf
          refine ⟨⟨i + 1, hlt⟩, ⟨?_, trivial, rfl, rfl⟩, ?_⟩
          · have hw : IntKind.i64.wrap ((i : Int) + 1) = ((i + 1 : Nat) : Int) := by
              rw [wrap_in] <;> omega
            refine ⟨leV_int hw, leV_refl _, leV_refl _, ⟨.inr rfl, rfl, rfl, fun j hj => ?_⟩, leV_refl _, trivial⟩
            show (if j < i then [IV.str (φ j)] else litF 1 [.str (φ i)] (j - i)) = [IV.str (φ j)]
            split
            · rfl
            · have : j = i := by have : j < i + 1 := hj; omega
              subst this; rw [Nat.sub_self]; rfl
          · show n - (i + 1) < n - i
            omega
        · rename_i h2
          have h2' : decide (i + 1 ≤ 1073741824) = false := h2
          simp at h2'; omega
      · rename_i h2; rw [hb] at h2; cases h2
    · rename_i hb
      have : i = n := by simp at hb; omega
      subst this
      conv => whnf
      exact ⟨rfl, rfl⟩

theorem c_line (up : List Ces) (hg : gl g_internal_strconv_uint64pow10 = powI) (w : List UInt8) (n : Nat) (f : Nat → Int) (hn : n ≤ 64) (hw : w.length ≤ 64) (hf : ∀ i, i < n → i64 (f i)) :
    Cs gl n_rotor_line up [.str (bytesS w), .lst none 1 n fun i => [.int .i64 (f i)]] (.str (bytesS (lineS w n f))) up := by
  refine mk h_rotor_line rfl rfl ?_
  have hlen := numsS_len n hf
  let s : Nat → List UInt8 := fun i => if i < 1 then w else Go.Lib.itoa (f (i - 1))
  have hs : (List.range (1 + n)).map s = w :: (List.range n).map fun i => Go.Lib.itoa (f i) := by
    rw [Nat.add_comm 1 n, List.range_succ_eq_map, List.map_cons, List.map_map]
    rfl
  have hj : Go.Lib.join ((List.range (1 + n)).map s) [32] = w ++ numsS f n := by
    rw [hs, Go.Lib.join_cons, numsS_eq]
  have hjl : (Go.Lib.join ((List.range (1 + n)).map s) [32]).length ≤ 10000 := by
    rw [hj, List.length_append]; omega
  have hJ : ∀ up, Cs gl n_strings_Join up [.lst none 1 (1 + n) (appF 1 (litF 1 [.str (bytesS w)]) fun i => [.str (bytesS (Go.Lib.itoa (f i)))]), .str (bytesS [32])] (.str (bytesS (w ++ numsS f n))) up := fun up => by
    rw [← hj]
    refine c_Join up (1 + n) _ s [32] (fun i hi => ?_) (by omega) (by omega)
    show (if i < 1 then litF 1 [.str (bytesS w)] i else [.str (bytesS (Go.Lib.itoa (f (i - 1))))]) = [.str (bytesS (if i < 1 then w else Go.Lib.itoa (f (i - 1))))]
    split
    · rename_i h
      have : i = 0 := by omega
      subst this
      rfl
    · rfl
  conv => whnf
  refine .mk _ _ _ _ _ (leL_refl _) (c_mappedS _ n (by omega) f (fun i => bytesS (Go.Lib.itoa (f i))) n_strconv_Itoa (fun up i hi => c_Itoa up hg (f i) (hf i hi))) rfl ?_
  conv => whnf
  split
  rotate_left
  · rename_i h
    have h' : decide (1 + n ≤ 1073741824) = false := h
    simp at h' <;> omega
  conv => whnf
  refine .mk _ _ _ _ _ (leL_refl _) (hJ _) rfl ?_
  conv => whnf
  split
  · conv => whnf
    refine ⟨?_, rfl⟩
    show IV.str (bytesS (w ++ numsS f n) ++ bytesS [10]) = _
    rw [bytesS_append]; rfl
  · rename_i h
    have h : decide ((bytesS (w ++ numsS f n)).size + (bytesS [10]).size ≤ 1099511627776) = false := h
    rw [bytesS_size, bytesS_size, List.length_append] at h
    simp at h; omega

/-- The text of a blade, or the error. -/
def printR (b : Bl) : IV := bif b.err != 0 then .tup [.str (bytesS []), .int .i64 b.err] else .tup [.str (bytesS b.text), .int .i64 0]

theorem c_Print (up : List Ces) (hg : gl g_internal_strconv_uint64pow10 = powI) (b : Bl) : Cs gl n_rotor_Print up [b.iv] (printR b) up := by
  refine mk h_rotor_Print rfl rfl ?_
  unfold printR
  conv => whnf
  refine .mk _ _ _ _ _ (leL_refl _) (c_CheckBlade _ _ _ _ _ _ _ _ _ _) rfl ?_
  conv => whnf
  split
  · rename_i h
    have h : (b.err != 0) = true := h
    conv => whnf
    refine ⟨?_, rfl⟩
    rw [h]; rfl
  · rename_i h
    have h : (b.err != 0) = false := h
    rw [h, cond_false]
    obtain ⟨hnd, hn1, hn2, ok⟩ := Bl.good (b := b) (f := ⟨1, 1, 0⟩) (by simpa using h) (by decide)
    have ok0 := ok 0 (by omega)
    have hl1 := ok0.n1
    clear h
    let F : Nat → List IV := fun j => [.int .i64 (b.pol j)]
    conv => whnf
    refine .mk (α := {k : Nat // k ≤ b.nl}) (fun k => ⟨[(20, .int .i64 k.1), (19, .int .i64 b.nl), (18, .lst none 1 b.nl fun i => [.int .i64 (b.lf i)]), (5, .lst (some 34) 1 (2 * k.1) F), (1, .ptr 0 1 0)],
      [(1, [.lst none 1 b.nl fun i => [.int .i64 (b.lf i)], .lst none 1 b.nd fun i => [.int .i64 (b.df i)], .lst none 4 b.nr fun i => [.int .i64 (b.r1 i), .int .i64 (b.r2 i), .int .i64 (b.r3 i), .int .i64 (b.r4 i)]])], up⟩) (fun k => b.nl - k.1) ⟨0, Nat.zero_le _⟩ ⟨?_, ?_, rfl, rfl⟩ ?_
    · exact ⟨leV_refl _, leV_refl _, leV_refl _, rfl, leV_refl _, trivial⟩
    · exact ⟨leL_refl _, trivial⟩
    rintro ⟨k, hk⟩
    have hw : w64 ((k : Int) + 1) = ((k + 1 : Nat) : Int) := by rw [w64, wrap_in] <;> omega
    conv => whnf
    split
    · rename_i h
      have h : decide ((k : Int) < b.nl) = true := h
      have hlt : k < b.nl := by simpa using h
      conv => whnf
      split
      rotate_left
      · rename_i h
        have h' : decide ((k : Int) < b.nl) = false := h
        simp at h' <;> omega
      conv => whnf
      split
      rotate_left
      · rename_i h
        have h' : decide ((k : Int) < b.nd) = false := h
        simp at h' <;> omega
      conv => whnf
      split
      rotate_left
      · rename_i h
        have h' : decide (2 * k + 2 ≤ 1073741824) = false := h
        simp at h' <;> omega
      conv => whnf
      refine ⟨⟨k + 1, hlt⟩, ⟨⟨leV_int hw, leV_refl _, leV_refl _, ⟨.inr rfl, rfl, rfl, fun j hj => ?_⟩, leV_refl _, trivial⟩, ⟨leL_refl _, trivial⟩, rfl, rfl⟩, (by show b.nl - (k + 1) < b.nl - k; omega)⟩
      have hj : j < 2 * k + 2 := hj
      show (if j < 2 * k then F j else litF 1 [.int .i64 (b.lf k), .int .i64 (b.df k)] (j - 2 * k)) = F j
      split
      · rfl
      · rcases (show j = 2 * k ∨ j = 2 * k + 1 by omega) with e | e
        · subst e
          rw [Nat.sub_self]
          show [IV.int .i64 (b.lf k)] = [.int .i64 (b.pol (2 * k))]
          unfold Bl.pol
          rw [if_pos (by omega), show 2 * k / 2 = k by omega]
        · subst e
          rw [show 2 * k + 1 - 2 * k = 1 by omega]
          show [IV.int .i64 (b.df k)] = [.int .i64 (b.pol (2 * k + 1))]
          unfold Bl.pol
          rw [if_neg (by omega), show (2 * k + 1) / 2 = k by omega]
    · rename_i h
      have h : decide ((k : Int) < b.nl) = false := h
      have : k = b.nl := by simp at h; omega
      subst this
      have hpol : ∀ i, i < 2 * b.nl → i64 (b.pol i) := fun i hi => by
        have h1 := ok0.lf0 (i / 2) (by omega)
        have h2 := ok0.df0 (i / 2) (by omega)
        unfold Bl.pol i64
        split <;> omega
      have hpl := numsS_len (2 * b.nl) hpol
      conv => whnf
      refine .mk _ _ _ _ _ (leL_refl _) (c_line _ hg polarW (2 * b.nl) b.pol (by omega) (by decide) hpol) rfl ?_
      conv => whnf
      let R : Nat → List IV := fun i => [.int .i64 (b.r1 i), .int .i64 (b.r2 i), .int .i64 (b.r3 i), .int .i64 (b.r4 i)]
      refine .mk (α := {k : Nat // k ≤ b.nr}) (fun k => ⟨[(41, .int .i64 k.1), (40, .int .i64 b.nr), (39, .lst none 4 b.nr R), (8, .str (bytesS (lineS polarW (2 * b.nl) b.pol ++ ringsS b k.1)))], [], up⟩) (fun k => b.nr - k.1) ⟨0, Nat.zero_le _⟩ ⟨?_, trivial, rfl, rfl⟩ ?_
      · refine ⟨leV_refl _, leV_refl _, leV_refl _, ?_, trivial⟩
        show leV _ (.str (bytesS (lineS polarW (2 * b.nl) b.pol ++ [])))
        rw [List.append_nil]
        exact leV_refl _
      rintro ⟨k, hk⟩
      have hw : w64 ((k : Int) + 1) = ((k + 1 : Nat) : Int) := by rw [w64, wrap_in] <;> omega
      have hrl := ringsS_len k fun i hi j => ring_i64 (ok i (by omega)) j
      have hT : (lineS polarW (2 * b.nl) b.pol ++ ringsS b k).length ≤ 4096 := by
        simp only [List.length_append, lineS, List.length_cons, List.length_nil]
        omega
      conv => whnf
      split
      · rename_i h
        have h : decide ((k : Int) < b.nr) = true := h
        have hlt : k < b.nr := by simpa using h
        have hrk := numsS_len (f := b.ring k) 4 fun i hi => ring_i64 (ok k hlt) i
        have hline : ∀ up, Cs gl n_rotor_line up [.str (bytesS ringW), .lst none 1 4 (litF 1 [.int .i64 (b.r1 k), .int .i64 (b.r2 k), .int .i64 (b.r3 k), .int .i64 (b.r4 k)])] (.str (bytesS (lineS ringW 4 (b.ring k)))) up := fun up => by
          refine Comp.le ?_ (c_line up hg ringW 4 (b.ring k) (by decide) (by decide) fun i hi => ring_i64 (ok k hlt) i)
          refine ⟨leV_refl _, ⟨.inl rfl, rfl, rfl, fun i hi => ?_⟩, trivial⟩
          match i, hi with
          | 0, _ => rfl
          | 1, _ => rfl
          | 2, _ => rfl
          | 3, _ => rfl
        conv => whnf
        split
        rotate_left
        · rename_i h
          have h' : decide ((k : Int) < b.nr) = false := h
          simp at h' <;> omega
        conv => whnf
        refine .mk _ _ _ _ _ (leL_refl _) (hline _) rfl ?_
        conv => whnf
        split
        · conv => whnf
          refine ⟨⟨k + 1, hlt⟩, ⟨⟨leV_int hw, leV_refl _, leV_refl _, ?_, trivial⟩, trivial, rfl, rfl⟩, (by show b.nr - (k + 1) < b.nr - k; omega)⟩
          show leV (.str (bytesS (lineS polarW (2 * b.nl) b.pol ++ ringsS b k) ++ bytesS (lineS ringW 4 (b.ring k)))) _
          rw [bytesS_append, List.append_assoc]
          exact leV_refl _
        · rename_i h
          have h : decide ((bytesS (lineS polarW (2 * b.nl) b.pol ++ ringsS b k)).size + (bytesS (lineS ringW 4 (b.ring k))).size ≤ 1099511627776) = false := h
          rw [bytesS_size, bytesS_size] at h
          have h := of_decide_eq_false h
          simp only [lineS, List.length_append, List.length_cons, List.length_nil] at h hT
          omega
      · rename_i h
        have h : decide ((k : Int) < b.nr) = false := h
        have : k = b.nr := by simp at h; omega
        subst this
        conv => whnf
        split
        · rename_i h
          have h : decide (((bytesS (lineS polarW (2 * b.nl) b.pol ++ ringsS b b.nr)).size : Int) > 4096) = true := h
          rw [bytesS_size] at h
          simp only [decide_eq_true_eq] at h
          omega
        · conv => whnf
          exact ⟨rfl, rfl⟩
end Go.Proofs.YtllmejkmogepjaaGreatDoor.Ix

/-
  Ro6: contracts of the functions of the package rotor, the sixth part: loads and pairs.
-/
namespace Go.Proofs.YtllmejkmogepjaaGreatDoor.Ix
open Go.Proofs
set_option maxRecDepth 100000
set_option linter.unusedVariables false
set_option linter.unusedSimpArgs false
variable {gl : Nat → IV}

def loadS (a b c : Int) : Int := orE (withinS a (-1000000) 1000000) (orE (withinS b (-1000000) 1000000) (withinS c (-1000000) 1000000))

theorem c_checkLoads (up : List Ces) (a b c : Int) : Cs gl n_rotor_checkLoads up [.agg [.int .i64 a, .int .i64 b, .int .i64 c]] (.int .i64 (loadS a b c)) up := by
  refine mk h_rotor_checkLoads rfl rfl ?_
  conv => whnf
  refine .mk _ _ _ _ _ ?_ (c_mapped _ 3 (by decide) (fun i => [a, b, c].getD i 0) (fun i => withinS ([a, b, c].getD i 0) (-1000000) 1000000) n_rotor_checkLoads_1 (fun up i _ => c_checkLoads1 up _)) rfl ?_
  · refine ⟨⟨.inl rfl, rfl, rfl, fun i hi => ?_⟩, rfl, trivial⟩
    match i, hi with
    | 0, _ => rfl
    | 1, _ => rfl
    | 2, _ => rfl
  conv => whnf
  refine .mk _ _ _ _ _ (leL_refl _) (c_f3 _ _ _ _ _ rfl rfl rfl) rfl ?_
  conv => whnf
  exact ⟨rfl, rfl⟩

theorem loadS_ok {a b c : Int} (h : loadS a b c = 0) : (-1000000 ≤ a ∧ a ≤ 1000000) ∧ (-1000000 ≤ b ∧ b ≤ 1000000) ∧ (-1000000 ≤ c ∧ c ≤ 1000000) := by
  unfold loadS at h
  simpa only [orE_zero, withinS_zero] using h

/-- The sum and the component, or the error. -/
def splitR (a b c : Int) : IV :=
  bif loadS a b c != 0 then .tup [.int .i64 0, .agg [.int .i64 0, .int .i64 0], .int .i64 (loadS a b c)]
  else .tup [.int .i64 (a + b + c), .agg [.int .i64 (a - c), .int .i64 (b - c)], .int .i64 0]

theorem c_Split (up : List Ces) (a b c : Int) : Cs gl n_rotor_Split up [.agg [.int .i64 a, .int .i64 b, .int .i64 c]] (splitR a b c) up := by
  refine mk h_rotor_Split rfl rfl ?_
  unfold splitR
  conv => whnf
  refine .mk _ _ _ _ _ (leL_refl _) (c_checkLoads _ _ _ _) rfl ?_
  conv => whnf
  split
  · rename_i h
    have h : (loadS a b c != 0) = true := h
    conv => whnf
    refine ⟨?_, rfl⟩
    rw [h]; rfl
  · rename_i h
    have h : (loadS a b c != 0) = false := h
    rw [h, cond_false]
    obtain ⟨h1, h2, h3⟩ := loadS_ok (show loadS a b c = 0 by simpa using h)
    have e1 : w64 (w64 (a + b) + c) = a + b + c := by
      have : w64 (a + b) = a + b := by rw [w64, wrap_in] <;> omega
      rw [this, w64, wrap_in] <;> omega
    have e2 : w64 (a - c) = a - c := by rw [w64, wrap_in] <;> omega
    have e3 : w64 (b - c) = b - c := by rw [w64, wrap_in] <;> omega
    conv => whnf
    split
    · rename_i g
      have g : (a == 0 && (b == 0 && (c == 0 && true))) = true := g
      simp at g
      obtain ⟨rfl, rfl, rfl⟩ := g
      conv => whnf
      exact ⟨rfl, rfl⟩
    · conv => whnf
      refine .mk 10 (by kernel_rfl) ?_
      conv => whnf
      first | refine CALLQ.mk _ _ _ (leL_refl _) (c_component _ _ _ _) rfl ?_ | refine CALL0.mk _ _ _ _ _ (leL_refl _) (c_component _ _ _ _) rfl ?_
      conv => whnf
      refine ⟨?_, rfl⟩
      show IV.tup [.int .i64 (w64 (w64 (a + b) + c)), .agg [.int .i64 (w64 (a - c)), .int .i64 (w64 (b - c))], .int .i64 0] = _
      rw [e1, e2, e3]

def pairS (a b : Int) : Int := orE (withinS a (-999999999) 999999999) (withinS b (-999999999) 999999999)

theorem c_PairCheck (up : List Ces) (a b : Int) : Cs gl n_rotor_Pair_check up [.agg [.int .i64 a, .int .i64 b]] (.int .i64 (pairS a b)) up := by
  refine mk h_rotor_Pair_check rfl rfl ?_
  conv => whnf
  refine .mk 8 (by kernel_rfl) ?_
  conv => whnf
  first | refine CALLQ.mk _ _ _ (leL_refl _) (c_within _ _ _ _) rfl ?_ | refine CALL0.mk _ _ _ _ _ (leL_refl _) (c_within _ _ _ _) rfl ?_
  conv => whnf
  first | refine CALLQ.mk _ _ _ (leL_refl _) (c_within _ _ _ _) rfl ?_ | refine CALL0.mk _ _ _ _ _ (leL_refl _) (c_within _ _ _ _) rfl ?_
  conv => whnf
  first | refine CALLQ.mk _ _ _ (leL_refl _) (c_f2 _ _ _ _ rfl rfl) rfl ?_ | refine CALL0.mk _ _ _ _ _ (leL_refl _) (c_f2 _ _ _ _ rfl rfl) rfl ?_
  conv => whnf
  exact ⟨rfl, rfl⟩

theorem pairS_ok {a b : Int} (h : pairS a b = 0) : (-999999999 ≤ a ∧ a ≤ 999999999) ∧ (-999999999 ≤ b ∧ b ≤ 999999999) := by
  unfold pairS at h
  simpa only [orE_zero, withinS_zero] using h

theorem mulA {x y A B : Int} (h1 : -A ≤ x ∧ x ≤ A) (h3 : -B ≤ y ∧ y ≤ B) : -(A * B) ≤ x * y ∧ x * y ≤ A * B := by
  by_cases hx : 0 ≤ x
  · by_cases hy : 0 ≤ y
    · have := mulB hx h1.2 hy h3.2; omega
    · have := mulB (y := -y) hx h1.2 (by omega) (show -y ≤ B by omega)
      rw [Int.mul_neg] at this; omega
  · by_cases hy : 0 ≤ y
    · have := mulB (x := -x) (by omega) (show -x ≤ A by omega) hy h3.2
      rw [Int.neg_mul] at this; omega
    · have := mulB (x := -x) (y := -y) (by omega) (show -x ≤ A by omega) (by omega) (show -y ≤ B by omega)
      rw [Int.neg_mul_neg] at this; omega

/-- The norm, or the error. -/
def normR (a b : Int) : IV :=
  bif pairS a b != 0 then .tup [.int .i64 0, .int .i64 (pairS a b)] else .tup [.int .i64 (a * a - a * b + b * b), .int .i64 0]

theorem c_Norm (up : List Ces) (a b : Int) : Cs gl n_rotor_Norm up [.agg [.int .i64 a, .int .i64 b]] (normR a b) up := by
  refine mk h_rotor_Norm rfl rfl ?_
  unfold normR
  conv => whnf
  refine .mk _ _ _ _ _ (leL_refl _) (c_PairCheck _ _ _) rfl ?_
  conv => whnf
  split
  · rename_i h
    have h : (pairS a b != 0) = true := h
    conv => whnf
    refine ⟨?_, rfl⟩
    rw [h]; rfl
  · rename_i h
    have h : (pairS a b != 0) = false := h
    rw [h, cond_false]
    obtain ⟨h1, h2⟩ := pairS_ok (show pairS a b = 0 by simpa using h)
    have b1 := mulA (A := 999999999) (B := 999999999) h1 h1
    have b2 := mulA (A := 999999999) (B := 999999999) h1 h2
    have b3 := mulA (A := 999999999) (B := 999999999) h2 h2
    have e1 : w64 (a * a) = a * a := by rw [w64, wrap_in] <;> omega
    have e2 : w64 (a * b) = a * b := by rw [w64, wrap_in] <;> omega
    have e3 : w64 (b * b) = b * b := by rw [w64, wrap_in] <;> omega
    have e4 : w64 (a * a - a * b) = a * a - a * b := by rw [w64, wrap_in] <;> omega
    have e5 : w64 (a * a - a * b + b * b) = a * a - a * b + b * b := by rw [w64, wrap_in] <;> omega
    conv => whnf
    refine ⟨?_, rfl⟩
    show IV.tup [.int .i64 (w64 (w64 (w64 (a * a) - w64 (a * b)) + w64 (b * b))), .int .i64 0] = _
    rw [e1, e2, e3, e4, e5]
end Go.Proofs.YtllmejkmogepjaaGreatDoor.Ix

/-
  Ro7: contracts of the functions of the package rotor, the seventh part: products and turns of pairs, loads merged, records.
-/
namespace Go.Proofs.YtllmejkmogepjaaGreatDoor.Ix
open Go.Proofs
set_option maxRecDepth 100000
set_option linter.unusedVariables false
set_option linter.unusedSimpArgs false
variable {gl : Nat → IV}

/-- The table of the powers of w, as it lies. -/
abbrev rootsI : IV := .vptr 6 1 (fun _ => [.int .i64 1, .int .i64 0, .int .i64 0, .int .i64 1, .int .i64 (-1), .int .i64 (-1)]) 0 0

def timesP (a b c d : Int) : Int × Int := (a * c - b * d, a * d + b * c - b * d)

theorem c_times (up : List Ces) (a b c d : Int) (ha : -999999999 ≤ a ∧ a ≤ 999999999) (hb : -999999999 ≤ b ∧ b ≤ 999999999) (hc : -999999999 ≤ c ∧ c ≤ 999999999) (hd : -999999999 ≤ d ∧ d ≤ 999999999) :
    Cs gl n_rotor_Pair_times up [.agg [.int .i64 a, .int .i64 b], .agg [.int .i64 c, .int .i64 d]] (.agg [.int .i64 (timesP a b c d).1, .int .i64 (timesP a b c d).2]) up := by
  refine mk h_rotor_Pair_times rfl rfl ?_
  have b1 := mulA (A := 999999999) (B := 999999999) ha hc
  have b2 := mulA (A := 999999999) (B := 999999999) hb hd
  have b3 := mulA (A := 999999999) (B := 999999999) ha hd
  have b4 := mulA (A := 999999999) (B := 999999999) hb hc
  have e1 : w64 (a * c) = a * c := by rw [w64, wrap_in] <;> omega
  have e2 : w64 (b * d) = b * d := by rw [w64, wrap_in] <;> omega
  have e3 : w64 (a * d) = a * d := by rw [w64, wrap_in] <;> omega
  have e4 : w64 (b * c) = b * c := by rw [w64, wrap_in] <;> omega
  have e5 : w64 (a * c - b * d) = a * c - b * d := by rw [w64, wrap_in] <;> omega
  have e6 : w64 (a * d + b * c) = a * d + b * c := by rw [w64, wrap_in] <;> omega
  have e7 : w64 (a * d + b * c - b * d) = a * d + b * c - b * d := by rw [w64, wrap_in] <;> omega
  conv => whnf
  refine ⟨?_, rfl⟩
  show IV.agg [.int .i64 (w64 (w64 (a * c) - w64 (b * d))), .int .i64 (w64 (w64 (w64 (a * d) + w64 (b * c)) - w64 (b * d)))] = _
  rw [e1, e2, e3, e4, e5, e6, e7]; rfl

/-- How many thirds, from 0 to 2. -/
def thirdS (n : Int) : Int := (n.tmod 3 + 3).tmod 3
/-- A pair turned. -/
def turnP (a b n : Int) : Int × Int := if thirdS n = 0 then (a, b) else if thirdS n = 1 then (-b, a - b) else (b - a, -a)

theorem thirdS_cases (n : Int) : thirdS n = 0 ∨ thirdS n = 1 ∨ thirdS n = 2 := by
  unfold thirdS
  have h1 := Int.tmod_lt_of_pos n (show (0 : Int) < 3 by decide)
  have h2 : -3 < n.tmod 3 := by
    have := Int.neg_le_neg (Int.le_of_lt (Int.tmod_lt_of_pos (-n) (show (0 : Int) < 3 by decide)))
    have h3 := Int.tmod_lt_of_pos (-n) (show (0 : Int) < 3 by decide)
    rw [Int.neg_tmod] at h3
    omega
  rw [Int.tmod_eq_emod_of_nonneg (by omega)]
  omega

theorem evo_gl {P : Program} {T : Nat → Ty} {gl : Nat → IV} {nt : Nat} {vis : Nat → List IV → Nat → (Nat → List IV) → Prop} {yld : Option (Nat × Nat × (Nat → List IV))} {ds : Option (List Deferred)} {S : St} {n : Nat} {v : IV} (h : gl n = v) : evo ⟨P, T, gl, nt, vis, yld, ds⟩ S (.global n) = v := h

theorem c_turned (up : List Ces) (hg : gl g_rotor_roots = rootsI) (a b n : Int) (ha : -999999999 ≤ a ∧ a ≤ 999999999) (hb : -999999999 ≤ b ∧ b ≤ 999999999) :
    Cs gl n_rotor_Pair_turned up [.agg [.int .i64 a, .int .i64 b], .int .i64 n] (.agg [.int .i64 (turnP a b n).1, .int .i64 (turnP a b n).2]) up := by
  refine mk h_rotor_Pair_turned rfl rfl ?_
  have hw : w64 (n.tmod 3 + 3) = n.tmod 3 + 3 := by
    have h1 := Int.tmod_lt_of_pos n (show (0 : Int) < 3 by decide)
    have h3 := Int.tmod_lt_of_pos (-n) (show (0 : Int) < 3 by decide)
    rw [Int.neg_tmod] at h3
    rw [w64, wrap_in] <;> omega
  have ht : (IntKind.i64.wrap (n.tmod 3 + 3)).tmod 3 = thirdS n := by
    show (w64 (n.tmod 3 + 3)).tmod 3 = _
    rw [hw]; rfl
  conv => whnf
  refine .mk 8 (by kernel_rfl) ?_
  conv => whnf
  rw [ht]
  rcases thirdS_cases n with e | e | e
  · have r : turnP a b n = timesP a b 1 0 := by
      unfold turnP timesP
      rw [if_pos e]; simp
    rw [e, r]
    conv => whnf
    rw [evo_gl hg]
    conv => whnf
    first | refine CALLQ.mk _ _ _ (leL_refl _) (c_times _ _ _ _ _ ha hb (by decide) (by decide)) rfl ?_ | refine CALL0.mk _ _ _ _ _ (leL_refl _) (c_times _ _ _ _ _ ha hb (by decide) (by decide)) rfl ?_
    conv => whnf
    exact ⟨rfl, rfl⟩
  · have r : turnP a b n = timesP a b 0 1 := by
      unfold turnP timesP
      rw [if_neg (by omega), if_pos e]; simp
    rw [e, r]
    conv => whnf
    rw [evo_gl hg]
    conv => whnf
    first | refine CALLQ.mk _ _ _ (leL_refl _) (c_times _ _ _ _ _ ha hb (by decide) (by decide)) rfl ?_ | refine CALL0.mk _ _ _ _ _ (leL_refl _) (c_times _ _ _ _ _ ha hb (by decide) (by decide)) rfl ?_
    conv => whnf
    exact ⟨rfl, rfl⟩
  · have r : turnP a b n = timesP a b (-1) (-1) := by
      unfold turnP timesP
      rw [if_neg (by omega), if_neg (by omega)]; simp; omega
    rw [e, r]
    conv => whnf
    rw [evo_gl hg]
    conv => whnf
    first | refine CALLQ.mk _ _ _ (leL_refl _) (c_times _ _ _ _ _ ha hb (by decide) (by decide)) rfl ?_ | refine CALL0.mk _ _ _ _ _ (leL_refl _) (c_times _ _ _ _ _ ha hb (by decide) (by decide)) rfl ?_
    conv => whnf
    exact ⟨rfl, rfl⟩

/-- A pair turned, or the error. -/
def turnErr (a b n : Int) : Int := orE (pairS a b) (withinS n (-999999999) 999999999)
def turnR (a b n : Int) : IV :=
  bif turnErr a b n != 0 then .tup [.agg [.int .i64 0, .int .i64 0], .int .i64 (turnErr a b n)] else .tup [.agg [.int .i64 (turnP a b n).1, .int .i64 (turnP a b n).2], .int .i64 0]

theorem c_Turn (up : List Ces) (hg : gl g_rotor_roots = rootsI) (a b n : Int) : Cs gl n_rotor_Turn up [.agg [.int .i64 a, .int .i64 b], .int .i64 n] (turnR a b n) up := by
  refine mk h_rotor_Turn rfl rfl ?_
  unfold turnR
  conv => whnf
  refine .mk _ _ _ _ _ (leL_refl _) (c_PairCheck _ _ _) rfl ?_
  conv => whnf
  refine .mk _ _ _ _ _ (leL_refl _) (c_within _ _ _ _) rfl ?_
  conv => whnf
  refine .mk _ _ _ _ _ (leL_refl _) (c_f2 _ _ _ _ rfl rfl) rfl ?_
  conv => whnf
  split
  · rename_i h
    have h : (turnErr a b n != 0) = true := h
    conv => whnf
    refine ⟨?_, rfl⟩
    rw [h]; rfl
  · rename_i h
    have h : (turnErr a b n != 0) = false := h
    rw [h, cond_false]
    have h0 : turnErr a b n = 0 := by simpa using h
    unfold turnErr at h0
    rw [orE_zero] at h0
    obtain ⟨k1, k2⟩ := pairS_ok h0.1
    conv => whnf
    refine .mk _ _ _ _ _ (leL_refl _) (c_turned _ hg _ _ _ k1 k2) rfl ?_
    conv => whnf
    exact ⟨rfl, rfl⟩

/-- The loads with a sum and a component, or the error. -/
def mergeE (s a b : Int) : Int := orE (withinS s (-3000000) 3000000) (pairS a b)
def mergeR (s a b : Int) : IV :=
  bif mergeE s a b != 0 then .tup [.agg [.int .i64 0, .int .i64 0, .int .i64 0], .int .i64 (mergeE s a b)] else
    bif (s - a - b).tmod 3 != 0 then .tup [.agg [.int .i64 0, .int .i64 0, .int .i64 0], .int .i64 30] else
      let t := (s - a - b).tdiv 3
      bif loadS (a + t) (b + t) t != 0 then .tup [.agg [.int .i64 0, .int .i64 0, .int .i64 0], .int .i64 (loadS (a + t) (b + t) t)] else .tup [.agg [.int .i64 (a + t), .int .i64 (b + t), .int .i64 t], .int .i64 0]

theorem c_Merge (up : List Ces) (s a b : Int) : Cs gl n_rotor_Merge up [.int .i64 s, .agg [.int .i64 a, .int .i64 b]] (mergeR s a b) up := by
  refine mk h_rotor_Merge rfl rfl ?_
  unfold mergeR
  conv => whnf
  refine .mk 6 (by kernel_rfl) ?_
  conv => whnf
  first | refine CALLQ.mk _ _ _ (leL_refl _) (c_within _ _ _ _) rfl ?_ | refine CALL0.mk _ _ _ _ _ (leL_refl _) (c_within _ _ _ _) rfl ?_
  conv => whnf
  first | refine CALLQ.mk _ _ _ (leL_refl _) (c_PairCheck _ _ _) rfl ?_ | refine CALL0.mk _ _ _ _ _ (leL_refl _) (c_PairCheck _ _ _) rfl ?_
  conv => whnf
  first | refine CALLQ.mk _ _ _ (leL_refl _) (c_f2 _ _ _ _ rfl rfl) rfl ?_ | refine CALL0.mk _ _ _ _ _ (leL_refl _) (c_f2 _ _ _ _ rfl rfl) rfl ?_
  conv => whnf
  split
  · rename_i h
    have h : (mergeE s a b != 0) = true := h
    conv => whnf
    refine ⟨?_, rfl⟩
    rw [h]; rfl
  · rename_i h
    have h : (mergeE s a b != 0) = false := h
    rw [h, cond_false]
    have h0 : mergeE s a b = 0 := by simpa using h
    unfold mergeE at h0
    rw [orE_zero, withinS_zero] at h0
    obtain ⟨k1, k2⟩ := pairS_ok h0.2
    have e1 : w64 (w64 (s - a) - b) = s - a - b := by
      have : w64 (s - a) = s - a := by rw [w64, wrap_in] <;> omega
      rw [this, w64, wrap_in] <;> omega
    have q1 : -3000000000 ≤ (s - a - b).tdiv 3 ∧ (s - a - b).tdiv 3 ≤ 3000000000 := by
      by_cases hp : 0 ≤ s - a - b
      · rw [Int.tdiv_eq_ediv_of_nonneg hp]; omega
      · have := Int.neg_tdiv (a := s - a - b) (b := 3)
        rw [Int.tdiv_eq_ediv_of_nonneg (show 0 ≤ -(s - a - b) by omega)] at this
        omega
    have e2 : w64 ((s - a - b).tdiv 3) = (s - a - b).tdiv 3 := by rw [w64, wrap_in] <;> omega
    have e3 : w64 (a + (s - a - b).tdiv 3) = a + (s - a - b).tdiv 3 := by rw [w64, wrap_in] <;> omega
    have e4 : w64 (b + (s - a - b).tdiv 3) = b + (s - a - b).tdiv 3 := by rw [w64, wrap_in] <;> omega
    conv => whnf
    split
    · rename_i h
      have h : ((w64 (w64 (s - a) - b)).tmod 3 != 0) = true := h
      rw [e1] at h
      conv => whnf
      refine ⟨?_, rfl⟩
      rw [h]; rfl
    · rename_i h
      have h : ((w64 (w64 (s - a) - b)).tmod 3 != 0) = false := h
      rw [e1] at h
      rw [h, cond_false]
      have hl : ∀ up, Cs gl n_rotor_checkLoads up [.agg [.int .i64 (w64 (a + w64 ((w64 (w64 (s - a) - b)).tdiv 3))), .int .i64 (w64 (b + w64 ((w64 (w64 (s - a) - b)).tdiv 3))), .int .i64 (w64 ((w64 (w64 (s - a) - b)).tdiv 3))]]
          (.int .i64 (loadS (a + (s - a - b).tdiv 3) (b + (s - a - b).tdiv 3) ((s - a - b).tdiv 3))) up := fun up => by
        rw [e1, e2, e3, e4]
        exact c_checkLoads up _ _ _
      conv => whnf
      refine .mk _ _ _ _ _ (leL_refl _) (hl _) rfl ?_
      conv => whnf
      split
      · rename_i h
        have h : (loadS (a + (s - a - b).tdiv 3) (b + (s - a - b).tdiv 3) ((s - a - b).tdiv 3) != 0) = true := h
        conv => whnf
        refine ⟨?_, rfl⟩
        simp only [h]; rfl
      · rename_i h
        have h : (loadS (a + (s - a - b).tdiv 3) (b + (s - a - b).tdiv 3) ((s - a - b).tdiv 3) != 0) = false := h
        conv => whnf
        refine ⟨?_, rfl⟩
        simp only [h, cond_false]
        show IV.tup [.agg [.int .i64 (w64 (a + w64 ((w64 (w64 (s - a) - b)).tdiv 3))), .int .i64 (w64 (b + w64 ((w64 (w64 (s - a) - b)).tdiv 3))), .int .i64 (w64 ((w64 (w64 (s - a) - b)).tdiv 3))], .int .i64 0] = _
        rw [e1, e2, e3, e4]
end Go.Proofs.YtllmejkmogepjaaGreatDoor.Ix

/-
  IxSh: the shapes of blades and flows, and the blades and flows that fit them.
-/
namespace Go.Proofs.YtllmejkmogepjaaGreatDoor.Ix

abbrev intS : Shp := .int .i64
abbrev intsS (n : Nat) : Shp := .agg (List.replicate n (1, intS))
abbrev bladeShp : Shp := .agg [(2, .agg [(1, .slice 1 intS), (1, .slice 1 intS)]), (1, .slice 4 (.agg [(1, intS), (1, intS), (1, intS), (1, intS)]))]
abbrev flowShp : Shp := .agg [(1, intS), (1, intS), (1, intS)]

def intAt (l : List IV) (j : Nat) : Int := match l[j]? with
  | some (.int _ n) => n
  | _ => 0

theorem fit_ints : ∀ (n : Nat) (xs : List IV), FitL (List.replicate n (1, intS)) xs → xs = (List.range n).map fun j => IV.int .i64 (intAt xs j)
  | 0, xs, h => by simpa [FitL] using h
  | n + 1, xs, h => by
    simp only [List.replicate_succ, FitL] at h
    obtain ⟨ys, zs, rfl, hl, ⟨m, rfl, _⟩, h2⟩ := h
    have ih := fit_ints n zs h2
    rw [List.range_succ_eq_map, List.map_cons, List.map_map]
    refine List.cons_eq_cons.2 ⟨rfl, ?_⟩
    show zs = _
    rw [show ((fun j => IV.int .i64 (intAt ([IV.int .i64 m] ++ zs) j)) ∘ Nat.succ) = fun j => IV.int .i64 (intAt zs j) from by funext j; simp [intAt]]
    exact ih

theorem fit_slice1 {xs : List IV} (h : Fit (.slice 1 intS) xs) : ∃ (n : Nat) (f : Nat → Int), n ≤ maxLen ∧ leL xs [.lst none 1 n fun i => [.int .i64 (f i)]] := by
  obtain ⟨n, f, rfl, hn, h⟩ := h
  refine ⟨n, fun i => intAt (f i) 0, hn, ⟨.inl rfl, rfl, rfl, fun i hi => ?_⟩, trivial⟩
  obtain ⟨_, m, hm, _⟩ := h i hi
  show f i = [.int .i64 (intAt (f i) 0)]
  rw [hm]; rfl

theorem fit_slice4 {xs : List IV} (h : Fit (.slice 4 (.agg [(1, intS), (1, intS), (1, intS), (1, intS)])) xs) : ∃ (n : Nat) (f1 f2 f3 f4 : Nat → Int), n ≤ maxLen ∧ leL xs [.lst none 4 n fun i => [.int .i64 (f1 i), .int .i64 (f2 i), .int .i64 (f3 i), .int .i64 (f4 i)]] := by
  obtain ⟨n, f, rfl, hn, h⟩ := h
  refine ⟨n, fun i => intAt (f i) 0, fun i => intAt (f i) 1, fun i => intAt (f i) 2, fun i => intAt (f i) 3, hn, ⟨.inl rfl, rfl, rfl, fun i hi => ?_⟩, trivial⟩
  obtain ⟨_, hf⟩ := h i hi
  exact fit_ints 4 (f i) hf

theorem leL_append : ∀ {xs ys us vs : List IV}, leL xs us → leL ys vs → leL (xs ++ ys) (us ++ vs)
  | [], _, [], _, _, h => h
  | [], _, _ :: _, _, h, _ => h.elim
  | _ :: _, _, [], _, h, _ => h.elim
  | _ :: _, _, _ :: _, _, h, k => ⟨h.1, leL_append h.2 k⟩

theorem fit_blade {v : IV} (h : FitV bladeShp v) : ∃ b : Bl, leV v b.iv ∧ b.nl ≤ maxLen ∧ b.nd ≤ maxLen ∧ b.nr ≤ maxLen := by
  obtain ⟨xs, rfl, h⟩ := h
  simp only [FitL] at h
  obtain ⟨p, q, rfl, _, ⟨p1, q1, rfl, _, h1, q2, z, rfl, _, h2, rfl⟩, q3, z, rfl, _, h3, rfl⟩ := h
  obtain ⟨nl, lf, k1, m1⟩ := fit_slice1 h1
  obtain ⟨nd, df, k2, m2⟩ := fit_slice1 h2
  obtain ⟨nr, r1, r2, r3, r4, k3, m3⟩ := fit_slice4 h3
  refine ⟨⟨nl, nd, nr, lf, df, r1, r2, r3, r4⟩, ?_, k1, k2, k3⟩
  have := leL_append (leL_append m1 m2) m3
  simpa [leV] using this

theorem fit_flow {v : IV} (h : FitV flowShp v) : ∃ f : Fl, v = f.iv := by
  obtain ⟨xs, rfl, h⟩ := h
  have := fit_ints 3 xs h
  exact ⟨⟨intAt xs 0, intAt xs 1, intAt xs 2⟩, by rw [this]; simp [intAt, List.range, List.range.loop]⟩

theorem fit_u8s : ∀ (n : Nat) (xs : List IV), FitL (List.replicate n (1, .int .u8)) xs → xs = (List.range n).map (fun j => IV.int .u8 (intAt xs j)) ∧ ∀ j, j < n → 0 ≤ intAt xs j ∧ intAt xs j < 256
  | 0, xs, h => by
    simp only [List.replicate_zero, FitL] at h
    exact ⟨by simpa using h, fun j hj => by omega⟩
  | n + 1, xs, h => by
    simp only [List.replicate_succ, FitL] at h
    obtain ⟨ys, zs, rfl, hl, ⟨m, rfl, hw⟩, h2⟩ := h
    obtain ⟨ih, ih2⟩ := fit_u8s n zs h2
    refine ⟨?_, fun j hj => ?_⟩
    · rw [List.range_succ_eq_map, List.map_cons, List.map_map]
      refine List.cons_eq_cons.2 ⟨rfl, ?_⟩
      show zs = _
      rw [show ((fun j => IV.int .u8 (intAt ([IV.int .u8 m] ++ zs) j)) ∘ Nat.succ) = fun j => IV.int .u8 (intAt zs j) from by funext j; simp [intAt]]
      exact ih
    · cases j with
      | zero =>
        have e : intAt ([IV.int .u8 m] ++ zs) 0 = m := rfl
        rw [e]
        simp [Lit.wf, IntKind.min, IntKind.max, IntKind.signed, IntKind.bits] at hw
        omega
      | succ j =>
        have e : intAt ([IV.int .u8 m] ++ zs) (j + 1) = intAt zs j := by simp [intAt]
        rw [e]; exact ih2 j (by omega)

end Go.Proofs.YtllmejkmogepjaaGreatDoor.Ix

/-
  Ix33: the tables that a row lists as laid, as what is told of the variables.
-/
namespace Go.Proofs.YtllmejkmogepjaaGreatDoor.Ix
open Go.RowKit
set_option linter.unusedVariables false

theorem laid_in {P : Program} {w : World} {n : String} {d : DataW Unit} : ∀ {l : List (String × DataW Unit)} {ps : List MemPlace}, DataW.LaidVars P w l ps → (n, d) ∈ l →
    ∃ g t cs fuel p, P.globalNamed n = some g ∧ (P.globals[g]?).map (·.type) = some t ∧ w.var? P n = some cs ∧ DataW.trod (fun _ => ()) P w 0 (fun _ => true) false fuel t cs.toList = some (d, p)
  | [], ps, _, hm => by cases hm
  | (m, e) :: r, ps, h, hm => by
    simp only [DataW.LaidVars] at h
    obtain ⟨g, t, cs, fuel, p, q, h1, h2, h3, h4, h5, _⟩ := h
    cases hm with
    | head => exact ⟨g, t, cs, fuel, p, h1, h2, h3, h4⟩
    | tail _ hm => exact laid_in h5 hm

theorem laid_tab {P : Program} {w : World} {laid : List (String × DataW Unit)} (h : laidMetH P laid w) (hp : (laid.all fun x => x.2.handleName?.isNone) = true) {n : String} {d : DataW Unit} {g t : Nat} (hm : (n, d) ∈ laid)
    (hg : P.globalNamed n = some g) (ht : (P.globals[g]?).map (·.type) = some t) {s : Shp} (hs : shpB P s t = true) (hf : flatS s = true) {vs : List Value} (hv : flatD d = vs) :
    (∀ j, w.cell? ⟨g, j, none⟩ = vs[j]?) ∧ ∃ arr el m, w.heap[g]? = some (.cells arr el m) ∧ arr.size = vs.length := by
  rw [MakeChecks.laidMetH_plain _ _ _ hp] at h
  obtain ⟨ps, h, _, _⟩ := h
  obtain ⟨g0, t0, cs0, f0, p0, hg0, ht0, hv0, hd0⟩ := laid_in h hm
  obtain rfl := Option.some.inj (hg.symm.trans hg0)
  obtain rfl := Option.some.inj (ht.symm.trans ht0)
  have hfl := flat_of_trod s _ (shp_ok _ _ hs) hf _ _ _ hd0
  have hcs : cs0.toList = vs := by rw [← hfl]; exact hv
  refine ⟨fun j => ?_, ?_⟩
  · have := World.var?_cell hg0 hv0 j
    rw [← hcs]
    simpa using this
  · unfold World.var? at hv0
    rw [hg0] at hv0
    simp only [Option.bind_some] at hv0
    split at hv0
    · rename_i arr el m he
      cases hv0
      exact ⟨_, _, _, he, by rw [← hcs]; simp⟩
    · cases hv0

/-- A row of integers at a variable's head. -/
theorem D_tab {I : Imm} {g : Nat} (xs : List IV) (vs : List Value) (hl : xs.length = vs.length) (hI : ∀ j v, vs[j]? = some v → I ⟨g, j, none⟩ = some v)
    (hx : ∀ (j : Nat) x, xs[j]? = some x → ∃ k z, x = .int k z ∧ vs[j]? = some (.int k z)) : D I (.vptr xs.length 1 (fun _ => xs) 0 0) (.pointer (some ⟨g, 0, none⟩)) := by
  have hat : ∀ j, j < xs.length → vs[j]? = some (vs.getD j undef) := fun j hj => by
    rw [List.getD_eq_getElem?_getD, List.getElem?_eq_getElem (by omega)]; rfl
  have := D.vptr (I := I) xs.length 1 (fun _ => xs) 0 0 g 0 (fun _ j => vs.getD j undef) (by decide) (fun _ _ => rfl)
    (fun i j hi hj => by
      have : i = 0 := by omega
      subst this
      simp only [Nat.zero_mul, Nat.zero_add]
      exact hI j _ (hat j hj))
    (fun i j hi hj => by
      obtain ⟨k, z, _, e⟩ := hx j _ (List.getElem?_eq_getElem hj)
      show (vs.getD j undef).oneCell' = true
      rw [List.getD_eq_getElem?_getD, e]; rfl)
    (fun i j x hi hxj => by
      obtain ⟨k, z, rfl, e⟩ := hx j x hxj
      show D I _ (vs.getD j undef)
      rw [List.getD_eq_getElem?_getD, e]; exact .int k z)
  simpa using this
end Go.Proofs.YtllmejkmogepjaaGreatDoor.Ix

/-
  RowD: what all rows of the door seat share: the tables that are laid, the start that meets them.
-/
namespace Go.Proofs.YtllmejkmogepjaaGreatDoor
open Go Go.ChangeShapes Go.WideShapes Go.ChangeAt Go.RowKit Go.Proofs.YtllmejkmogepjaaGreatDoor.Ix
set_option linter.unusedVariables false

theorem own : ownKnob Tryz.prog.godebug = none := by kernel_rfl
theorem laidOut : laidOutB Tryz.prog = true := by kernel_rfl
theorem gRoots : Tryz.prog.globalNamed "nacelle/rotor.roots" = some 0 := by kernel_rfl
theorem tRoots : (Tryz.prog.globals[0]?).map (·.type) = some 149 := by kernel_rfl
noncomputable abbrev laid4 : List (String × DataW Unit) := [("math/bits.deBruijn32tab", Rows.laid_math_bits_deBruijn32tab), ("math/bits.deBruijn64tab", Rows.laid_math_bits_deBruijn64tab), ("internal/strconv.uint64pow10", Rows.laid_internal_strconv_uint64pow10), ("nacelle/rotor.roots", Rows.laid_nacelle_rotor_roots)]
theorem plain4 : (laid4.all fun x => x.2.handleName?.isNone) = true := by kernel_rfl
abbrev rootsShp : Shp := .agg [(2, .agg [(1, intS), (1, intS)]), (2, .agg [(1, intS), (1, intS)]), (2, .agg [(1, intS), (1, intS)])]
abbrev powShp : Shp := .agg (List.replicate 20 (1, .int .u64))
theorem shapeRoots : shpB Tryz.prog rootsShp 149 = true := by kernel_rfl

theorem door_met (os : Os) (args : Array Value) : laidMetH Tryz.prog laid4 ((World.doorLaid Tryz.prog 400 os).forCall (fun _ _ => 0) ⟨#[], args, []⟩).memory :=
  laidMetH_of_parts3 (fuel := 8) (laidMet_of_run' 8 (by kernel_rfl) (by kernel_rfl)) (by kernel_rfl) (by kernel_rfl)

/-- What is told of the package's variables. -/
noncomputable def gl4 : Nat → IV := fun g => match g with
  | 0 => rootsI
  | 2 => powI
  | _ => .dead

abbrev rootsV : List Value := [.int .i64 1, .int .i64 0, .int .i64 0, .int .i64 1, .int .i64 (-1), .int .i64 (-1)]

theorem roots_in {W : World} (h : laidMetH Tryz.prog laid4 W) : (∀ j, W.cell? ⟨0, j, none⟩ = rootsV[j]?) ∧ ∃ arr el m, W.heap[0]? = some (.cells arr el m) ∧ arr.size = rootsV.length :=
  laid_tab h plain4 (d := Rows.laid_nacelle_rotor_roots) (by simp) gRoots tRoots shapeRoots rfl rfl
theorem tPow : (Tryz.prog.globals[2]?).map (·.type) = some 179 := by kernel_rfl
theorem shapePow : shpB Tryz.prog powShp 179 = true := by kernel_rfl
noncomputable abbrev powV : List Value := Go.Lib.pow10Tab.map fun z => .int .u64 z
theorem pow_in {W : World} (h : laidMetH Tryz.prog laid4 W) : (∀ j, W.cell? ⟨2, j, none⟩ = powV[j]?) ∧ ∃ arr el m, W.heap[2]? = some (.cells arr el m) ∧ arr.size = powV.length :=
  laid_tab h plain4 (d := Rows.laid_internal_strconv_uint64pow10) (by simp) gPow tPow shapePow (by decide) (by kernel_rfl)

theorem glo4 {W : World} (h : laidMetH Tryz.prog laid4 W) : ∀ g, D (fun a => W.cell? a) (gl4 g) (.pointer (some ⟨g, 0, none⟩)) := by
  intro g
  match g with
  | 0 =>
    refine D_tab [.int .i64 1, .int .i64 0, .int .i64 0, .int .i64 1, .int .i64 (-1), .int .i64 (-1)] rootsV rfl (fun j v hv => by rw [(roots_in h).1]; exact hv) fun j x hx => ?_
    match j, hx with
    | 0, hx | 1, hx | 2, hx | 3, hx | 4, hx | 5, hx => cases hx; exact ⟨_, _, rfl, rfl⟩
    | _ + 6, hx => cases hx
  | 1 => exact .dead _
  | 2 =>
    have := D_tab (I := fun a => W.cell? a) (g := 2) (Go.Lib.pow10Tab.map fun z => IV.int .u64 z) powV (by simp) (fun j v hv => by rw [(pow_in h).1]; exact hv) fun j x hx => by
      rw [List.getElem?_map, Option.map_eq_some_iff] at hx
      obtain ⟨z, hz, rfl⟩ := hx
      exact ⟨_, _, rfl, by rw [List.getElem?_map, hz]; rfl⟩
    rw [List.length_map] at this
    exact this
  | _ + 3 => exact .dead _

theorem gsz4 {W : World} (h : laidMetH Tryz.prog laid4 W) : Gsz gl4 W := by
  intro g e n f i j hg hn he
  match g, hg with
  | 0, hg =>
    cases hg
    exact (roots_in h).2
  | 1, hg => cases hg
  | 2, hg =>
    have hg : powI = .vptr e n f i j := hg
    injection hg with h1 h2
    subst h1; subst h2
    obtain ⟨arr, el, m, k1, k2⟩ := (pow_in h).2
    exact ⟨arr, el, m, k1, by rw [k2]; simp⟩
  | _ + 3, hg => cases hg
end Go.Proofs.YtllmejkmogepjaaGreatDoor

/-
  Ro3: contracts of the functions of the package rotor, the third part: Balance, Find, CheckBracket, Refine.
-/
namespace Go.Proofs.YtllmejkmogepjaaGreatDoor.Ix
open Go.Proofs
set_option maxRecDepth 100000
set_option linter.unusedVariables false
set_option linter.unusedSimpArgs false
variable {gl : Nat → IV}

theorem c_checkRing (up : List Ces) (b : Bl) (f : Fl) (ring : Int) : Cs gl n_rotor_checkRing up [b.iv, f.iv, .int .i64 ring] (.int .i64 (ringErr b f ring)) up := by
  refine mk h_rotor_checkRing rfl rfl ?_
  conv => whnf
  refine .mk 16 (by kernel_rfl) ?_
  conv => whnf
  first | refine CALLQ.mk _ _ _ (leL_refl _) (c_CheckBlade _ _ _ _ _ _ _ _ _ _) rfl ?_ | refine CALL0.mk _ _ _ _ _ (leL_refl _) (c_CheckBlade _ _ _ _ _ _ _ _ _ _) rfl ?_
  conv => whnf
  first | refine CALLQ.mk _ _ _ (leL_refl _) (c_CheckFlow' _ _ _ _) rfl ?_ | refine CALL0.mk _ _ _ _ _ (leL_refl _) (c_CheckFlow' _ _ _ _) rfl ?_
  conv => whnf
  split
  · rename_i h
    have h' : decide (ring < 0) = true := h
    conv => whnf
    first | refine CALLQ.mk _ _ _ (leL_refl _) (c_when _ _ _) rfl ?_ | refine CALL0.mk _ _ _ _ _ (leL_refl _) (c_when _ _ _) rfl ?_
    conv => whnf
    first | refine CALLQ.mk _ _ _ (leL_refl _) (c_f3 _ _ _ _ _ rfl rfl rfl) rfl ?_ | refine CALL0.mk _ _ _ _ _ (leL_refl _) (c_f3 _ _ _ _ _ rfl rfl rfl) rfl ?_
    conv => whnf
    refine ⟨?_, rfl⟩
    unfold ringErr
    rw [h', Bool.true_or]; rfl
  · rename_i h
    have h' : decide (ring < 0) = false := h
    conv => whnf
    first | refine CALLQ.mk _ _ _ (leL_refl _) (c_when _ _ _) rfl ?_ | refine CALL0.mk _ _ _ _ _ (leL_refl _) (c_when _ _ _) rfl ?_
    conv => whnf
    first | refine CALLQ.mk _ _ _ (leL_refl _) (c_f3 _ _ _ _ _ rfl rfl rfl) rfl ?_ | refine CALL0.mk _ _ _ _ _ (leL_refl _) (c_f3 _ _ _ _ _ rfl rfl rfl) rfl ?_
    conv => whnf
    refine ⟨?_, rfl⟩
    unfold ringErr
    rw [h', Bool.false_or]; rfl

theorem c_IndCheck (up : List Ces) (a d : Int) : Cs gl n_rotor_Induction_check up [.agg [.int .i64 a, .int .i64 d]] (.int .i64 (indErr a d)) up := by
  refine mk h_rotor_Induction_check rfl rfl ?_
  conv => whnf
  refine .mk _ _ _ _ _ (leL_refl _) (c_checkDepth _ _) rfl ?_
  conv => whnf
  split
  · rename_i h
    have h' : (withinS d 1 12 != 0) = true := h
    conv => whnf
    refine ⟨?_, rfl⟩
    unfold indErr
    rw [orE_pos h']
  · rename_i h
    have h' : (withinS d 1 12 != 0) = false := h
    have h0 : withinS d 1 12 = 0 := by simpa using h'
    rw [withinS_zero] at h0
    have e1 : w64 (d - 1) = ((d - 1).toNat : Int) := by rw [w64, wrap_in] <;> omega
    have e2 : halfW d = 2 ^ (d - 1).toNat := by
      have := halfW_eq (d := d.toNat) (by omega) (by omega)
      rw [show ((d.toNat : Nat) : Int) = d by omega] at this
      rw [this]; congr 1; omega
    conv => whnf
    refine .mk 7 (by kernel_rfl) ?_
    conv => whnf
    split
    rotate_left
    · rename_i h
      have h' : decide (0 ≤ w64 (d - 1)) = false := h
      simp at h' <;> omega
    conv => whnf
    first | refine CALLQ.mk _ _ _ (leL_refl _) (c_within _ _ _ _) rfl ?_ | refine CALL0.mk _ _ _ _ _ (leL_refl _) (c_within _ _ _ _) rfl ?_
    conv => whnf
    refine ⟨?_, rfl⟩
    show IV.int .i64 (withinS a 0 (halfW d)) = _
    unfold indErr
    rw [orE_neg h', e2]

theorem c_checkAll (up : List Ces) (b : Bl) (f : Fl) (d : Int) : Cs gl n_rotor_checkAll up [b.iv, f.iv, .int .i64 d] (.int .i64 (allErr b f d)) up := by
  refine mk h_rotor_checkAll rfl rfl ?_
  conv => whnf
  refine .mk 8 (by kernel_rfl) ?_
  conv => whnf
  first | refine CALLQ.mk _ _ _ (leL_refl _) (c_CheckBlade _ _ _ _ _ _ _ _ _ _) rfl ?_ | refine CALL0.mk _ _ _ _ _ (leL_refl _) (c_CheckBlade _ _ _ _ _ _ _ _ _ _) rfl ?_
  conv => whnf
  first | refine CALLQ.mk _ _ _ (leL_refl _) (c_CheckFlow' _ _ _ _) rfl ?_ | refine CALL0.mk _ _ _ _ _ (leL_refl _) (c_CheckFlow' _ _ _ _) rfl ?_
  conv => whnf
  first | refine CALLQ.mk _ _ _ (leL_refl _) (c_checkDepth _ _) rfl ?_ | refine CALL0.mk _ _ _ _ _ (leL_refl _) (c_checkDepth _ _) rfl ?_
  conv => whnf
  first | refine CALLQ.mk _ _ _ (leL_refl _) (c_f3 _ _ _ _ _ rfl rfl rfl) rfl ?_ | refine CALL0.mk _ _ _ _ _ (leL_refl _) (c_f3 _ _ _ _ _ rfl rfl rfl) rfl ?_
  conv => whnf
  exact ⟨rfl, rfl⟩

/-- The ring 'i' of a blade in a flow. -/
abbrev secAt (b : Bl) (f : Fl) (i : Nat) : IV := secI b.nl b.nd b.lf b.df (b.r1 i) (b.r2 i) (b.r3 i) (b.r4 i) f.w f.s f.p

theorem c_balP (up : List Ces) (b : Bl) (f : Fl) (i : Nat) (h : b.ok f i) (a : Int) (d : Nat) (hd : d ≤ 12) (h0 : 0 ≤ a) (h1 : a ≤ 2 ^ d) :
    Cs gl n_rotor_section_balance up [secAt b f i, .agg [.int .i64 a, .int .i64 d]] (.int .i64 (b.bal f i a d)) up := by
  have o := balOK h hd h0 h1
  have := c_balance (gl := gl) up b.nl b.nd b.lf b.df (b.r1 i) (b.r2 i) (b.r3 i) (b.r4 i) f.w f.s f.p a d o.d0 o.den o.lo o.hi
  rw [balanceW_eq h hd h0 h1] at this
  exact this

theorem c_Balance (up : List Ces) (b : Bl) (f : Fl) (ring a d : Int) : Cs gl n_rotor_Balance up [b.iv, f.iv, .int .i64 ring, .agg [.int .i64 a, .int .i64 d]] (balR b f ring a d) up := by
  refine mk h_rotor_Balance rfl rfl ?_
  unfold balR
  simp only
  conv => whnf
  refine .mk 8 (by kernel_rfl) ?_
  conv => whnf
  first | refine CALLQ.mk _ _ _ (leL_refl _) (c_checkRing _ b f _) rfl ?_ | refine CALL0.mk _ _ _ _ _ (leL_refl _) (c_checkRing _ b f _) rfl ?_
  conv => whnf
  first | refine CALLQ.mk _ _ _ (leL_refl _) (c_IndCheck _ _ _) rfl ?_ | refine CALL0.mk _ _ _ _ _ (leL_refl _) (c_IndCheck _ _ _) rfl ?_
  conv => whnf
  first | refine CALLQ.mk _ _ _ (leL_refl _) (c_f2 _ _ _ _ rfl rfl) rfl ?_ | refine CALL0.mk _ _ _ _ _ (leL_refl _) (c_f2 _ _ _ _ rfl rfl) rfl ?_
  conv => whnf
  split
  · rename_i h
    have h' : (orE (ringErr b f ring) (indErr a d) != 0) = true := h
    conv => whnf
    refine ⟨?_, rfl⟩
    rw [h']; rfl
  · rename_i h
    have h' : (orE (ringErr b f ring) (indErr a d) != 0) = false := h
    have h0 : orE (ringErr b f ring) (indErr a d) = 0 := by simpa using h'
    rw [h']
    have hz := h0
    rw [orE_zero] at h0
    obtain ⟨g1, g2, g3, g4⟩ := ringErr_ok h0.1
    obtain ⟨n, rfl, k2, k3, k4⟩ := indErr_ok h0.2
    obtain ⟨_, _, _, ok⟩ := Bl.good g1 g2
    have hp := Int.pow_succ (2 : Int) n
    have hq := two_pos n
    conv => whnf
    refine .mk 12 (by kernel_rfl) ?_
    conv => whnf
    split
    rotate_left
    · rename_i h
      have h' : decide (0 ≤ ring) = false := h
      simp at h' <;> omega
    conv => whnf
    split
    rotate_left
    · rename_i h
      have h' : decide (ring < b.nr) = false := h
      simp at h' <;> omega
    conv => whnf
    first | refine CALLQ.mk _ _ _ (leL_refl _) (c_balP _ b f ring.toNat (ok _ (by omega)) a (n + 1) (by omega) k3 (by omega)) rfl ?_ | refine CALL0.mk _ _ _ _ _ (leL_refl _) (c_balP _ b f ring.toNat (ok _ (by omega)) a (n + 1) (by omega) k3 (by omega)) rfl ?_
    conv => whnf
    refine ⟨?_, rfl⟩
    rw [hz]; rfl

theorem findS_congr {f g : Int → Int} {half : Int} (h0 : 0 ≤ half) (h : ∀ a, 0 ≤ a → a ≤ half → f a = g a) : findS f half = findS g half := by
  unfold findS
  rw [h half h0 (Int.le_refl _), searchS_congr _ _ _ h]

/-- What 'find' hands back. -/
def findI (o : Option Int) (d : Int) : IV := match o with
  | none => .tup [.agg [.int .i64 0, .int .i64 0], .bool false]
  | some a => .tup [.agg [.int .i64 a, .int .i64 d], .bool true]

theorem c_findP (up : List Ces) (b : Bl) (f : Fl) (i : Nat) (h : b.ok f i) (d : Nat) (hd : d < 12) :
    Cs gl n_rotor_section_find up [secAt b f i, .int .i64 ((d + 1 : Nat) : Int)] (findI (b.br f i d) ((d + 1 : Nat) : Int)) up := by
  have hh : halfW ((d + 1 : Nat) : Int) = 2 ^ d := halfW_eq (d := d + 1) (by omega) (by omega)
  have hp := two_pos d
  have hl := pow_le12 (d := d) (by omega)
  have hs := Int.pow_succ (2 : Int) d
  refine c_find (gl := gl) up b.nl b.nd b.lf b.df (b.r1 i) (b.r2 i) (b.r3 i) (b.r4 i) f.w f.s f.p _ (2 ^ d) ?_ hh ⟨by omega, by omega⟩ (fun a h1 h2 => balOK h (by omega) h1 (by omega)) _ ?_
  · rw [w64, wrap_in] <;> omega
  · have e : findS (fun a => balanceW b.nl b.lf (b.r1 i) (b.r2 i) (b.r3 i) (b.r4 i) f.w f.s f.p a ((d + 1 : Nat) : Int)) (2 ^ d) = b.br f i d := by
      unfold Bl.br brP
      exact findS_congr (by omega) fun a h1 h2 => balanceW_eq h (by omega) h1 (by omega)
    rw [e]
    unfold findI
    cases b.br f i d <;> rfl

theorem c_Find (up : List Ces) (b : Bl) (f : Fl) (ring d : Int) : Cs gl n_rotor_Find up [b.iv, f.iv, .int .i64 ring, .int .i64 d] (findR b f ring d) up := by
  refine mk h_rotor_Find rfl rfl ?_
  unfold findR
  simp only
  conv => whnf
  refine .mk _ _ _ _ _ (leL_refl _) (c_checkRing _ b f _) rfl ?_
  conv => whnf
  refine .mk _ _ _ _ _ (leL_refl _) (c_checkDepth _ _) rfl ?_
  conv => whnf
  refine .mk _ _ _ _ _ (leL_refl _) (c_f2 _ _ _ _ rfl rfl) rfl ?_
  conv => whnf
  split
  · rename_i h
    have h' : (orE (ringErr b f ring) (withinS d 1 12) != 0) = true := h
    conv => whnf
    refine ⟨?_, rfl⟩
    rw [h']; rfl
  · rename_i h
    have h' : (orE (ringErr b f ring) (withinS d 1 12) != 0) = false := h
    have h0 : orE (ringErr b f ring) (withinS d 1 12) = 0 := by simpa using h'
    rw [h', cond_false]
    rw [orE_zero, withinS_zero] at h0
    obtain ⟨g1, g2, g3, g4⟩ := ringErr_ok h0.1
    obtain ⟨_, _, _, ok⟩ := Bl.good g1 g2
    obtain ⟨n, rfl⟩ : ∃ n : Nat, d = ((n + 1 : Nat) : Int) := ⟨(d - 1).toNat, by omega⟩
    rw [show (((n + 1 : Nat) : Int) - 1).toNat = n by omega]
    have hf := fun up => c_findP (gl := gl) up b f ring.toNat (ok _ (by omega)) n (by omega)
    conv => whnf
    refine .mk 16 (by kernel_rfl) ?_
    conv => whnf
    split
    rotate_left
    · rename_i h
      have h' : decide (0 ≤ ring) = false := h
      simp at h' <;> omega
    conv => whnf
    split
    rotate_left
    · rename_i h
      have h' : decide (ring < b.nr) = false := h
      simp at h' <;> omega
    conv => whnf
    generalize b.br f ring.toNat n = o at hf ⊢
    cases o with
    | none =>
      first | refine CALLQ.mk _ _ _ (leL_refl _) (hf _) rfl ?_ | refine CALL0.mk _ _ _ _ _ (leL_refl _) (hf _) rfl ?_
      conv => whnf
      refine .mk 4 (by kernel_rfl) ?_
      conv => whnf
      first | refine CALLQ.mk _ _ _ (leL_refl _) (c_when _ _ _) rfl ?_ | refine CALL0.mk _ _ _ _ _ (leL_refl _) (c_when _ _ _) rfl ?_
      conv => whnf
      exact ⟨rfl, rfl⟩
    | some a =>
      first | refine CALLQ.mk _ _ _ (leL_refl _) (hf _) rfl ?_ | refine CALL0.mk _ _ _ _ _ (leL_refl _) (hf _) rfl ?_
      conv => whnf
      refine .mk 4 (by kernel_rfl) ?_
      conv => whnf
      first | refine CALLQ.mk _ _ _ (leL_refl _) (c_when _ _ _) rfl ?_ | refine CALL0.mk _ _ _ _ _ (leL_refl _) (c_when _ _ _) rfl ?_
      conv => whnf
      exact ⟨rfl, rfl⟩

theorem c_isBr (up : List Ces) (b : Bl) (f : Fl) (i : Nat) (h : b.ok f i) (a : Int) (d : Nat) (hd : d ≤ 12) (hd1 : 1 ≤ d) (h0 : 0 ≤ a) (h1 : a ≤ 2 ^ (d - 1)) :
    Cs gl n_rotor_section_brackets up [secAt b f i, .agg [.int .i64 a, .int .i64 d]] (.bool (isBr b f i a d)) up := by
  have hp := two_pos (d - 1)
  have hl := pow_le12 (d := d - 1) (by omega)
  have hs := pow_half hd1
  have e1 : w64 (a + 1) = a + 1 := by rw [w64, wrap_in] <;> omega
  have := c_brackets (gl := gl) up b.nl b.nd b.lf b.df (b.r1 i) (b.r2 i) (b.r3 i) (b.r4 i) f.w f.s f.p a d (by rw [w64, wrap_in] <;> omega) (balOK h hd h0 (by omega)) (by rw [e1]; exact balOK h hd (by omega) (by omega))
  have e : bracketsW b.nl b.lf (b.r1 i) (b.r2 i) (b.r3 i) (b.r4 i) f.w f.s f.p a d = isBr b f i a d := by
    unfold bracketsW isBr
    rw [halfW_eq hd hd1, e1, balanceW_eq h hd h0 (by omega), balanceW_eq h hd (by omega) (by omega)]
    rfl
  rw [← e]; exact this

theorem c_CheckBracket (up : List Ces) (b : Bl) (f : Fl) (ring a d : Int) : Cs gl n_rotor_CheckBracket up [b.iv, f.iv, .int .i64 ring, .agg [.int .i64 a, .int .i64 d]] (.int .i64 (brErr b f ring a d)) up := by
  refine mk h_rotor_CheckBracket rfl rfl ?_
  unfold brErr
  conv => whnf
  refine .mk 8 (by kernel_rfl) ?_
  conv => whnf
  first | refine CALLQ.mk _ _ _ (leL_refl _) (c_checkRing _ b f _) rfl ?_ | refine CALL0.mk _ _ _ _ _ (leL_refl _) (c_checkRing _ b f _) rfl ?_
  conv => whnf
  first | refine CALLQ.mk _ _ _ (leL_refl _) (c_IndCheck _ _ _) rfl ?_ | refine CALL0.mk _ _ _ _ _ (leL_refl _) (c_IndCheck _ _ _) rfl ?_
  conv => whnf
  first | refine CALLQ.mk _ _ _ (leL_refl _) (c_f2 _ _ _ _ rfl rfl) rfl ?_ | refine CALL0.mk _ _ _ _ _ (leL_refl _) (c_f2 _ _ _ _ rfl rfl) rfl ?_
  conv => whnf
  split
  · rename_i h
    have h' : (orE (ringErr b f ring) (indErr a d) != 0) = true := h
    conv => whnf
    refine ⟨?_, rfl⟩
    rw [orE_pos h']
  · rename_i h
    have h' : (orE (ringErr b f ring) (indErr a d) != 0) = false := h
    have h0 : orE (ringErr b f ring) (indErr a d) = 0 := by simpa using h'
    rw [orE_neg h']
    rw [orE_zero] at h0
    obtain ⟨g1, g2, g3, g4⟩ := ringErr_ok h0.1
    obtain ⟨n, rfl, k2, k3, k4⟩ := indErr_ok h0.2
    obtain ⟨_, _, _, ok⟩ := Bl.good g1 g2
    conv => whnf
    refine .mk 13 (by kernel_rfl) ?_
    conv => whnf
    split
    rotate_left
    · rename_i h
      have h' : decide (0 ≤ ring) = false := h
      simp at h' <;> omega
    conv => whnf
    split
    rotate_left
    · rename_i h
      have h' : decide (ring < b.nr) = false := h
      simp at h' <;> omega
    conv => whnf
    first | refine CALLQ.mk _ _ _ (leL_refl _) (c_isBr _ b f ring.toNat (ok _ (by omega)) a (n + 1) (by omega) (by omega) k3 (by simpa using k4)) rfl ?_ | refine CALL0.mk _ _ _ _ _ (leL_refl _) (c_isBr _ b f ring.toNat (ok _ (by omega)) a (n + 1) (by omega) (by omega) k3 (by simpa using k4)) rfl ?_
    conv => whnf
    first | refine CALLQ.mk _ _ _ (leL_refl _) (c_when _ _ _) rfl ?_ | refine CALL0.mk _ _ _ _ _ (leL_refl _) (c_when _ _ _) rfl ?_
    conv => whnf
    exact ⟨rfl, rfl⟩

theorem c_Refine (up : List Ces) (b : Bl) (f : Fl) (ring a d : Int) : Cs gl n_rotor_Refine up [b.iv, f.iv, .int .i64 ring, .agg [.int .i64 a, .int .i64 d]] (refineR b f ring a d) up := by
  refine mk h_rotor_Refine rfl rfl ?_
  unfold refineR
  simp only
  conv => whnf
  refine .mk 11 (by kernel_rfl) ?_
  conv => whnf
  first | refine CALLQ.mk _ _ _ (leL_refl _) (c_CheckBracket _ b f _ _ _) rfl ?_ | refine CALL0.mk _ _ _ _ _ (leL_refl _) (c_CheckBracket _ b f _ _ _) rfl ?_
  conv => whnf
  first | refine CALLQ.mk _ _ _ (leL_refl _) (c_when _ _ _) rfl ?_ | refine CALL0.mk _ _ _ _ _ (leL_refl _) (c_when _ _ _) rfl ?_
  conv => whnf
  first | refine CALLQ.mk _ _ _ (leL_refl _) (c_f2 _ _ _ _ rfl rfl) rfl ?_ | refine CALL0.mk _ _ _ _ _ (leL_refl _) (c_f2 _ _ _ _ rfl rfl) rfl ?_
  conv => whnf
  split
  · rename_i h
    have h' : (orE (brErr b f ring a d) (bif d == 12 then 23 else 0) != 0) = true := h
    conv => whnf
    refine ⟨?_, rfl⟩
    rw [h']; rfl
  · rename_i h
    have h' : (orE (brErr b f ring a d) (bif d == 12 then 23 else 0) != 0) = false := h
    have h0 : orE (brErr b f ring a d) (bif d == 12 then 23 else 0) = 0 := by simpa using h'
    rw [h', cond_false]
    simp only [brErr, orE_zero] at h0
    rw [bif_zero (by decide), bif_zero (by decide)] at h0
    simp at h0
    obtain ⟨⟨⟨q1, q2⟩, q3⟩, q4⟩ := h0
    obtain ⟨g1, g2, g3, g4⟩ := ringErr_ok q1
    obtain ⟨n, rfl, k2, k3, k4⟩ := indErr_ok q2
    obtain ⟨_, _, _, ok⟩ := Bl.good g1 g2
    have hp := two_pos n
    have hl := pow_le12 (d := n) (by omega)
    have hs := Int.pow_succ (2 : Int) n
    have q5 : a < 2 ^ n := by
      unfold isBr at q3
      simp at q3
      exact q3.1
    have e1 : w64 (2 * a) = 2 * a := by rw [w64, wrap_in] <;> omega
    have e2 : w64 (((n + 1 : Nat) : Int) + 1) = ((n + 2 : Nat) : Int) := by rw [w64, wrap_in] <;> omega
    have hb : ∀ up, Cs gl n_rotor_section_brackets up [secAt b f ring.toNat, .agg [.int .i64 (w64 (2 * a)), .int .i64 (w64 (((n + 1 : Nat) : Int) + 1))]] (.bool (isBr b f ring.toNat (2 * a) (n + 2))) up := fun up => by
      rw [e1, e2]
      exact c_isBr (gl := gl) up b f ring.toNat (ok _ (by omega)) (2 * a) (n + 2) (by omega) (by omega) (by omega) (by show 2 * a ≤ 2 ^ (n + 1); omega)
    have e3 : w64 (2 * a + 1) = 2 * a + 1 := by rw [w64, wrap_in] <;> omega
    rw [show (((n + 1 : Nat) : Int).toNat + 1) = n + 2 by omega]
    conv => whnf
    refine .mk 10 (by kernel_rfl) ?_
    conv => whnf
    split
    rotate_left
    · rename_i h
      have h' : decide (0 ≤ ring) = false := h
      simp at h' <;> omega
    conv => whnf
    split
    rotate_left
    · rename_i h
      have h' : decide (ring < b.nr) = false := h
      simp at h' <;> omega
    conv => whnf
    refine .mk _ _ _ _ _ (leL_refl _) (hb _) rfl ?_
    conv => whnf
    split
    · rename_i h
      have h' : (!(isBr b f ring.toNat (2 * a) (n + 2))) = true := h
      have h'' : isBr b f ring.toNat (2 * a) (n + 2) = false := by simpa using h'
      conv => whnf
      refine .mk _ _ _ _ _ (leL_refl _) (c_next _ _ _) rfl ?_
      conv => whnf
      refine ⟨?_, rfl⟩
      show IV.tup [.agg [.int .i64 (w64 (w64 (2 * a) + 1)), .int .i64 (w64 (((n + 1 : Nat) : Int) + 1))], .int .i64 0] = _
      rw [e1, e2, e3, h'']; rfl
    · rename_i h
      have h' : (!(isBr b f ring.toNat (2 * a) (n + 2))) = false := h
      have h'' : isBr b f ring.toNat (2 * a) (n + 2) = true := by simpa using h'
      conv => whnf
      refine ⟨?_, rfl⟩
      show IV.tup [.agg [.int .i64 (w64 (2 * a)), .int .i64 (w64 (((n + 1 : Nat) : Int) + 1))], .int .i64 0] = _
      rw [e1, e2, h'']; rfl
end Go.Proofs.YtllmejkmogepjaaGreatDoor.Ix

/-
  Ro4: contracts of the functions of the package rotor, the fourth part: the torque and the thrust of a ring.
-/
namespace Go.Proofs.YtllmejkmogepjaaGreatDoor.Ix
open Go.Proofs
set_option maxRecDepth 100000
set_option linter.unusedVariables false
set_option linter.unusedSimpArgs false
variable {gl : Nat → IV}

def Bl.infl (b : Bl) (f : Fl) (i : Nat) (a : Int) (d : Nat) : Int := inflP (b.r1 i) f.w f.s a d
def Bl.of (b : Bl) (f : Fl) (i : Nat) (x : Int) : Int := ofP b.nl b.lf b.df (b.r1 i) (b.r2 i) (b.r3 i) (b.r4 i) f.p x

def Bl.stp (b : Bl) (f : Fl) (i : Nat) (a : Int) (d : Nat) (k : Nat) : Int × Int := stepsP b.nl b.lf b.df (b.r1 i) (b.r2 i) (b.r3 i) (b.r4 i) f.p (b.infl f i (a + 1) d) (b.infl f i a d) k

theorem c_inflP (up : List Ces) (b : Bl) (f : Fl) (i : Nat) (h : b.ok f i) (a a' : Int) (d : Nat) (hd : d ≤ 12) (h0 : 0 ≤ a) (h1 : a ≤ 2 ^ d) (e : a' = a) :
    Cs gl n_rotor_section_inflow up [secAt b f i, .agg [.int .i64 a', .int .i64 d]] (.int .i64 (b.infl f i a d)) up := by
  subst e
  have o := balOK h hd h0 h1
  have := c_inflow (gl := gl) up b.nl b.nd b.lf b.df (b.r1 i) (b.r2 i) (b.r3 i) (b.r4 i) f.w f.s f.p a' d o.d0 o.den
  rw [inflowW_eq h hd h0 h1] at this
  exact this

/-- The cells of the ring 'i'. -/
abbrev secC (b : Bl) (f : Fl) (i : Nat) : List IV := secL b.nl b.nd b.lf b.df (b.r1 i) (b.r2 i) (b.r3 i) (b.r4 i) f.w f.s f.p

theorem c_ofP (ce : Ces) (up : List Ces) (k : Nat) (b : Bl) (f : Fl) (i : Nat) (h : b.ok f i) (hn : b.nd = b.nl) (x x' : Int) (e' : x' = x) (h1 : -100000 ≤ x) (h2 : x ≤ 100000) (hc : lookC ce k = some (secC b f i)) :
    Cs gl n_rotor_section_torque_1 (ce :: up) [.int .i64 x', .ptr 1 k 0] (.int .i64 (b.of f i x)) (ce :: up) := by
  subst e'
  have hcl := clsP_lo h x'
  have e := classW_eq h (x := x') (by omega) (by omega)
  have := c_torque1 (gl := gl) ce up k b.nl b.nd b.lf b.df (b.r1 i) (b.r2 i) (b.r3 i) (b.r4 i) f.w f.s f.p x' (by rw [e]; exact hcl.1) (by rw [e]; exact hcl.2) (by rw [e, hn]; exact hcl.2) hc
  rw [(ofP_bound h h1 h2).2.2] at this
  exact this

theorem infl_rng {b : Bl} {f : Fl} {i : Nat} (h : b.ok f i) {a : Int} {d : Nat} (h0 : 0 ≤ a) (h1 : a ≤ 2 ^ d) : 0 ≤ b.infl f i a d ∧ b.infl f i a d ≤ 51200 := ⟨inflP_nonneg h h1, inflP_le h h0⟩

theorem c_torque (up : List Ces) (b : Bl) (f : Fl) (i : Nat) (h : b.ok f i) (hn : b.nd = b.nl) (a : Int) (d : Nat) (hd : d ≤ 12) (h0 : 0 ≤ a) (h1 : a + 1 ≤ 2 ^ d) :
    Cs gl n_rotor_section_torque up [secAt b f i, .agg [.int .i64 a, .int .i64 d]] (.agg [.int .i64 (b.tor f i a d).1, .int .i64 (b.tor f i a d).2]) up := by
  refine mk h_rotor_section_torque rfl rfl ?_
  have hp := two_pos d
  have hl := pow_le12 hd
  have hn1 := h.n1
  have ht := h.t
  have hpp := h.p
  have e1 : w64 (a + 1) = a + 1 := by rw [w64, wrap_in] <;> omega
  have r1 := infl_rng h (d := d) (a := a + 1) (by omega) h1
  have r2 := infl_rng h (d := d) (a := a) h0 (by omega)
  conv => whnf
  refine .mk 7 (by kernel_rfl) ?_
  conv => whnf
  first | refine CALLQ.mk _ _ _ (leL_refl _) (c_next _ _ _) rfl ?_ | refine CALL0.mk _ _ _ _ _ (leL_refl _) (c_next _ _ _) rfl ?_
  conv => whnf
  first | refine CALLQ.mk _ _ _ (leL_refl _) (c_inflP _ b f i h (a + 1) _ d hd (by omega) h1 e1) rfl ?_ | refine CALL0.mk _ _ _ _ _ (leL_refl _) (c_inflP _ b f i h (a + 1) _ d hd (by omega) h1 e1) rfl ?_
  conv => whnf
  first | refine CALLQ.mk _ _ _ (leL_refl _) (c_inflP _ b f i h a _ d hd h0 (by omega) rfl) rfl ?_ | refine CALL0.mk _ _ _ _ _ (leL_refl _) (c_inflP _ b f i h a _ d hd h0 (by omega) rfl) rfl ?_
  conv => whnf
  refine .mk _ _ _ _ _ (leL_refl _) (c_ofP _ _ 2 b f i h hn _ _ rfl (by omega) (by omega) rfl) rfl ?_
  conv => whnf
  refine .mk _ _ _ _ _ (leL_refl _) (c_ofP _ _ 2 b f i h hn _ _ rfl (by omega) (by omega) rfl) rfl ?_
  conv => whnf
  refine .mk _ _ _ _ _ (leL_refl _) (c_ofP _ _ 2 b f i h hn _ _ rfl (by omega) (by omega) rfl) rfl ?_
  conv => whnf
  refine .mk _ _ _ _ _ (leL_refl _) (c_ofP _ _ 2 b f i h hn _ _ rfl (by omega) (by omega) rfl) rfl ?_
  conv => whnf
  have emin : (if b.of f i (b.infl f i a d) < b.of f i (b.infl f i (a + 1) d) then b.of f i (b.infl f i a d) else b.of f i (b.infl f i (a + 1) d)) = (b.stp f i a d 0).1 := by
    show _ = min (b.of f i (b.infl f i (a + 1) d)) (b.of f i (b.infl f i a d))
    omega
  have emax : (if b.of f i (b.infl f i a d) > b.of f i (b.infl f i (a + 1) d) then b.of f i (b.infl f i a d) else b.of f i (b.infl f i (a + 1) d)) = (b.stp f i a d 0).2 := by
    show _ = max (b.of f i (b.infl f i (a + 1) d)) (b.of f i (b.infl f i a d))
    omega
  have en : w64 ((b.nl : Int) + 2) = ((b.nl + 2 : Nat) : Int) := by rw [w64, wrap_in] <;> omega
  refine .mk (α := {k : Nat // k ≤ b.nl + 2}) (fun k => ⟨[(39, .int .i64 k.1), (38, .int .i64 ((b.nl + 2 : Nat) : Int)), (5, .int .i64 (b.infl f i (a + 1) d)), (6, .int .i64 (b.infl f i a d)), (7, .fn n_rotor_section_torque_1 [] [.ptr 0 2 0]), (2, .ptr 0 2 0), (4, .ptr 0 4 0), (8, .ptr 0 8 0)],
      [(8, [.int .i64 (b.stp f i a d k.1).1, .int .i64 (b.stp f i a d k.1).2]), (4, [.int .i64 0, .int .i64 0]), (2, secC b f i)], up⟩) (fun k => b.nl + 2 - k.1) ⟨0, Nat.zero_le _⟩ ⟨?_, ?_, rfl, rfl⟩ ?_
  · exact ⟨leV_refl _, leV_int en, leV_refl _, leV_refl _, leV_refl _, leV_refl _, leV_refl _, leV_refl _, trivial⟩
  · exact ⟨⟨leV_int emin, leV_int emax, trivial⟩, leL_refl _, leL_refl _, trivial⟩
  · rintro ⟨k, hk⟩
    have ej : w64 (w64 (w64 (b.r3 i + f.p) + k) - 1) = b.r3 i + f.p + k - 1 := by
      have q1 : w64 (b.r3 i + f.p) = b.r3 i + f.p := by rw [w64, wrap_in] <;> omega
      rw [q1]
      have q2 : w64 (b.r3 i + f.p + k) = b.r3 i + f.p + k := by rw [w64, wrap_in] <;> omega
      rw [q2, w64, wrap_in] <;> omega
    have hw : w64 ((k : Int) + 1) = ((k + 1 : Nat) : Int) := by rw [w64, wrap_in] <;> omega
    conv => whnf
    split
    · rename_i hb
      have hlt : k < b.nl + 2 := by
        have hb' : decide ((k : Int) < ((b.nl + 2 : Nat) : Int)) = true := hb
        simp at hb'; omega
      conv => whnf
      refine .mk _ _ _ _ _ (leL_refl _) (c_shift _ _ _ _ _ _ _ _ _ _ _ _) rfl ?_
      conv => whnf
      split
      · rename_i g1
        have g1 : decide (w64 (w64 (w64 (b.r3 i + f.p) + k) - 1) > b.infl f i (a + 1) d) = true := g1
        rw [ej] at g1
        conv => whnf
        split
        · rename_i g2
          have g2 : decide (w64 (w64 (w64 (b.r3 i + f.p) + k) - 1) < b.infl f i a d) = true := g2
          rw [ej] at g2
          simp at g1 g2
          have hs : b.stp f i a d (k + 1) = (min (b.stp f i a d k).1 (b.of f i (b.r3 i + f.p + k - 1)), max (b.stp f i a d k).2 (b.of f i (b.r3 i + f.p + k - 1))) := by
            show (if _ then _ else _) = _
            rw [if_pos ⟨g1, g2⟩]; rfl
          conv => whnf
          refine .mk 13 (by kernel_rfl) ?_
          conv => whnf
          first | refine CALLQ.mk _ _ _ (leL_refl _) (c_ofP _ _ 2 b f i h hn _ _ ej (by omega) (by omega) rfl) rfl ?_ | refine CALL0.mk _ _ _ _ _ (leL_refl _) (c_ofP _ _ 2 b f i h hn _ _ ej (by omega) (by omega) rfl) rfl ?_
          conv => whnf
          first | refine CALLQ.mk _ _ _ (leL_refl _) (c_ofP _ _ 2 b f i h hn _ _ ej (by omega) (by omega) rfl) rfl ?_ | refine CALL0.mk _ _ _ _ _ (leL_refl _) (c_ofP _ _ 2 b f i h hn _ _ ej (by omega) (by omega) rfl) rfl ?_
          conv => whnf
          refine ⟨⟨k + 1, hlt⟩, ⟨⟨leV_int hw, leV_refl _, leV_refl _, leV_refl _, leV_refl _, leV_refl _, leV_refl _, leV_refl _, trivial⟩, ⟨⟨leV_int ?_, leV_int ?_, trivial⟩, leL_refl _, leL_refl _, trivial⟩, rfl, rfl⟩, ?_⟩
          · show (if b.of f i (b.r3 i + f.p + k - 1) < (b.stp f i a d k).1 then b.of f i (b.r3 i + f.p + k - 1) else (b.stp f i a d k).1) = _
            rw [hs]; simp only; omega
          · show (if b.of f i (b.r3 i + f.p + k - 1) > (b.stp f i a d k).2 then b.of f i (b.r3 i + f.p + k - 1) else (b.stp f i a d k).2) = _
            rw [hs]; simp only; omega
          · show b.nl + 2 - (k + 1) < b.nl + 2 - k
            omega
        · rename_i g2
          have g2 : decide (w64 (w64 (w64 (b.r3 i + f.p) + k) - 1) < b.infl f i a d) = false := g2
          rw [ej] at g2
          simp at g1 g2
          have hs : b.stp f i a d (k + 1) = b.stp f i a d k := by
            show (if _ then _ else _) = _
            exact if_neg fun g => absurd g.2 (Int.not_lt.2 g2)
          conv => whnf
          refine ⟨⟨k + 1, hlt⟩, ⟨⟨leV_int hw, leV_refl _, leV_refl _, leV_refl _, leV_refl _, leV_refl _, leV_refl _, leV_refl _, trivial⟩, ⟨⟨leV_int ?_, leV_int ?_, trivial⟩, leL_refl _, leL_refl _, trivial⟩, rfl, rfl⟩, ?_⟩
          · show (b.stp f i a d k).1 = _
            rw [hs]
          · show (b.stp f i a d k).2 = _
            rw [hs]
          · show b.nl + 2 - (k + 1) < b.nl + 2 - k
            omega
      · rename_i g1
        have g1 : decide (w64 (w64 (w64 (b.r3 i + f.p) + k) - 1) > b.infl f i (a + 1) d) = false := g1
        rw [ej] at g1
        simp at g1
        have hs : b.stp f i a d (k + 1) = b.stp f i a d k := by
          show (if _ then _ else _) = _
          exact if_neg fun g => absurd g.1 (Int.not_lt.2 g1)
        conv => whnf
        refine ⟨⟨k + 1, hlt⟩, ⟨⟨leV_int hw, leV_refl _, leV_refl _, leV_refl _, leV_refl _, leV_refl _, leV_refl _, leV_refl _, trivial⟩, ⟨⟨leV_int ?_, leV_int ?_, trivial⟩, leL_refl _, leL_refl _, trivial⟩, rfl, rfl⟩, ?_⟩
        · show (b.stp f i a d k).1 = _
          rw [hs]
        · show (b.stp f i a d k).2 = _
          rw [hs]
        · show b.nl + 2 - (k + 1) < b.nl + 2 - k
          omega
    · rename_i hb
      have : k = b.nl + 2 := by
        have hb' : decide ((k : Int) < ((b.nl + 2 : Nat) : Int)) = false := hb
        simp at hb'; omega
      subst this
      conv => whnf
      exact ⟨rfl, rfl⟩

theorem c_thrust1 (ce : Ces) (up : List Ces) (k m : Nat) (b : Bl) (f : Fl) (i : Nat) (h : b.ok f i) (a : Int) (d : Nat) (hd : d ≤ 12) (x x' : Int) (e' : x' = x) (h0 : 0 ≤ x) (h1 : x ≤ 2 ^ d)
    (hx : lookC ce k = some [.int .i64 a, .int .i64 d]) (hs : lookC ce m = some (secC b f i)) :
    Cs gl n_rotor_section_thrust_1 (ce :: up) [.int .i64 x', .ptr 1 k 0, .ptr 1 m 0] (.int .i64 (thrustP (b.r1 i) x d)) (ce :: up) := by
  subst e'
  refine mk h_rotor_section_thrust_1 rfl rfl ?_
  have e := (thrustP_bound h hd h0 h1).2.2
  conv => whnf
  refine .mk 12 (by kernel_rfl) ?_
  conv => whnf
  split
  rotate_left
  · rename_i h; exact absurd (hx.symm.trans h) nofun
  rename_i c0 h
  obtain rfl := Option.some.inj (hx.symm.trans h)
  clear h
  conv => whnf
  split
  rotate_left
  · rename_i h; exact absurd (hs.symm.trans h) nofun
  rename_i c0 h
  obtain rfl := Option.some.inj (hs.symm.trans h)
  clear h
  conv => whnf
  refine ⟨?_, rfl⟩
  rw [← e]; rfl

theorem c_thrust (up : List Ces) (b : Bl) (f : Fl) (i : Nat) (h : b.ok f i) (a : Int) (d : Nat) (hd : d ≤ 12) (h0 : 0 ≤ a) (h1 : a + 1 ≤ 2 ^ d) :
    Cs gl n_rotor_section_thrust up [secAt b f i, .agg [.int .i64 a, .int .i64 d]] (.agg [.int .i64 (b.thr i a d).1, .int .i64 (b.thr i a d).2]) up := by
  refine mk h_rotor_section_thrust rfl rfl ?_
  have hp := two_pos d
  have hl := pow_le12 hd
  have e1 : w64 (a + 1) = a + 1 := by rw [w64, wrap_in] <;> omega
  conv => whnf
  refine .mk 10 (by kernel_rfl) ?_
  conv => whnf
  first | refine CALLQ.mk _ _ _ (leL_refl _) (c_thrust1 _ _ 3 2 b f i h a d hd _ _ rfl h0 (by omega) rfl rfl) rfl ?_ | refine CALL0.mk _ _ _ _ _ (leL_refl _) (c_thrust1 _ _ 3 2 b f i h a d hd _ _ rfl h0 (by omega) rfl rfl) rfl ?_
  conv => whnf
  first | refine CALLQ.mk _ _ _ (leL_refl _) (c_thrust1 _ _ 3 2 b f i h a d hd _ _ e1 (by omega) h1 rfl rfl) rfl ?_ | refine CALL0.mk _ _ _ _ _ (leL_refl _) (c_thrust1 _ _ 3 2 b f i h a d hd _ _ e1 (by omega) h1 rfl rfl) rfl ?_
  conv => whnf
  exact ⟨rfl, rfl⟩

end Go.Proofs.YtllmejkmogepjaaGreatDoor.Ix

/-
  Ro5: contracts of the functions of the package rotor, the fifth part: the rings of a blade one after another, their sums, the torque and the thrust of a blade.
-/
namespace Go.Proofs.YtllmejkmogepjaaGreatDoor.Ix
open Go.Proofs
set_option maxRecDepth 100000
set_option linter.unusedVariables false
set_option linter.unusedSimpArgs false
variable {gl : Nat → IV}

theorem sections_ivis (C : Con) (gl : Nat → IV) (n : Nat) (hn : n ≤ 4611686018427387904) (r1 r2 r3 r4 : Nat → Int) (a b c : Int) (nl nd : Nat) (fl2 fd : Nat → List IV) :
    ivis C (Γs gl) f_rotor_sections_1 [.vptr 3 1 (fun _ => [.lst none 1 nl fl2, .lst none 1 nd fd, .lst none 4 n (fun i => [.int .i64 (r1 i), .int .i64 (r2 i), .int .i64 (r3 i), .int .i64 (r4 i)])]) 0 0, .vptr 3 1 (fun _ => [.int .i64 a, .int .i64 b, .int .i64 c]) 0 0] n
     (fun i => [.agg [.lst none 1 nl fl2, .lst none 1 nd fd, .int .i64 (r1 i), .int .i64 (r2 i), .int .i64 (r3 i), .int .i64 (r4 i), .int .i64 a, .int .i64 b, .int .i64 c]]) := by
  conv => whnf
  intro l
  conv => whnf
  refine .mk (α := {i : Nat // i ≤ n}) (fun i => ⟨[(9, .int .i64 i.1), (8, .int .i64 n), (7, .lst none 4 n (fun i => [.int .i64 (r1 i), .int .i64 (r2 i), .int .i64 (r3 i), .int .i64 (r4 i)])), (2, .vptr 3 1 (fun _ => [.int .i64 a, .int .i64 b, .int .i64 c]) 0 0), (1, .vptr 3 1 (fun _ => [.lst none 1 nl fl2, .lst none 1 nd fd, .lst none 4 n (fun i => [.int .i64 (r1 i), .int .i64 (r2 i), .int .i64 (r3 i), .int .i64 (r4 i)])]) 0 0), (0, .lit (.func (.yield l) #[] #[]))], [], List.replicate i.1 []⟩) (fun i => n - i.1) ⟨0, Nat.zero_le _⟩ ⟨?_, trivial, rfl, rfl⟩ ?_
  · exact ⟨leV_refl _, leV_refl _, leV_refl _, leV_refl _, leV_refl _, leV_refl _, trivial⟩
  · rintro ⟨i, hi⟩
    conv => whnf
    split
    · rename_i hb
      conv => whnf
      split
      · have hlt : i < n := by simpa using hb
        conv => whnf
        refine .mk rfl (by simp) (by simpa using hlt) (by simp) rfl ?_
        intro bb
        cases bb
        · conv => whnf
          show n ≤ (List.replicate (n + 1) [] ++ List.replicate i []).length
          simp; omega
        · conv => whnf
          refine ⟨⟨i + 1, hlt⟩, ⟨?_, trivial, rfl, rfl⟩, ?_⟩
          · have hw : IntKind.i64.wrap ((i : Int) + 1) = ((i + 1 : Nat) : Int) := by
              rw [wrap_in] <;> omega
            exact ⟨leV_int hw, leV_refl _, leV_refl _, leV_refl _, leV_refl _, leV_refl _, trivial⟩
          · show n - (i + 1) < n - i
            omega
      · rename_i h2; rw [hb] at h2; cases h2
    · rename_i hb
      conv => whnf
      simp at hb
      show n ≤ (List.replicate i []).length
      simp; omega

theorem v_sections (gl : Nat → IV) (b : Bl) (f : Fl) (hn : b.nr ≤ 16) : Vis prog gl n_rotor_sections_1 [.vptr 3 1 (fun _ => [.lst none 1 b.nl fun i => [.int .i64 (b.lf i)], .lst none 1 b.nd fun i => [.int .i64 (b.df i)], .lst none 4 b.nr fun i => [.int .i64 (b.r1 i), .int .i64 (b.r2 i), .int .i64 (b.r3 i), .int .i64 (b.r4 i)]]) 0 0, .vptr 3 1 (fun _ => [.int .i64 f.w, .int .i64 f.s, .int .i64 f.p]) 0 0] b.nr (fun i => [secAt b f i]) :=
  vis_of_body (Γ := Γs gl) (C := fun _ _ _ _ _ => False) tok0 (fun _ _ _ _ _ h => h.elim) (fun _ _ _ _ _ h => h.elim) h_rotor_sections_1 rfl rfl (by kernel_rfl) (by kernel_rfl) (sections_ivis _ gl b.nr (by omega) _ _ _ _ _ _ _ _ _ _ _)

def sumTo (g : Nat → Int) : Nat → Int
  | 0 => 0
  | n + 1 => sumTo g n + g n

theorem sumTo_bound {g : Nat → Int} {B : Int} : ∀ (n : Nat), (∀ i, i < n → -B ≤ g i ∧ g i ≤ B) → -(n * B) ≤ sumTo g n ∧ sumTo g n ≤ n * B
  | 0, _ => by simp [sumTo]
  | n + 1, h => by
    have h1 := sumTo_bound n fun i hi => h i (by omega)
    have h2 := h n (by omega)
    simp only [sumTo]
    have e : ((n + 1 : Nat) : Int) * B = n * B + B := by rw [Int.natCast_add, Int.add_mul]; simp
    rw [e]; omega

theorem sumTo_le {g h : Nat → Int} : ∀ (n : Nat), (∀ i, i < n → g i ≤ h i) → sumTo g n ≤ sumTo h n
  | 0, _ => by simp [sumTo]
  | n + 1, k => by
    have h1 := sumTo_le n fun i hi => k i (by omega)
    have h2 := k n (by omega)
    simp only [sumTo]; omega

theorem sumTo_mul {g : Nat → Int} (q : Int) : ∀ (n : Nat), sumTo (fun i => q * g i) n = q * sumTo g n
  | 0 => by simp [sumTo]
  | n + 1 => by simp only [sumTo, sumTo_mul q n]; rw [Int.mul_add]

theorem c_sum (up : List Ces) (n : Nat) (hn : n ≤ 16) (g1 g2 : Nat → Int) (h : ∀ i, i < n → (-1000000000000000 ≤ g1 i ∧ g1 i ≤ 1000000000000000) ∧ (-1000000000000000 ≤ g2 i ∧ g2 i ≤ 1000000000000000)) :
    Cs gl n_rotor_sum up [.lst none 2 n fun i => [.int .i64 (g1 i), .int .i64 (g2 i)]] (.agg [.int .i64 (sumTo g1 n), .int .i64 (sumTo g2 n)]) up := by
  refine mk h_rotor_sum rfl rfl ?_
  conv => whnf
  refine .mk (α := {k : Nat // k ≤ n}) (fun k => ⟨[(8, .int .i64 k.1), (7, .int .i64 n), (6, .lst none 2 n fun i => [.int .i64 (g1 i), .int .i64 (g2 i)]), (2, .ptr 0 2 0), (3, .ptr 0 3 0)], [(3, [.int .i64 (sumTo g1 k.1), .int .i64 (sumTo g2 k.1)]), (2, [.int .i64 0, .int .i64 0])], up⟩) (fun k => n - k.1) ⟨0, Nat.zero_le _⟩ ⟨?_, ?_, rfl, rfl⟩ ?_
  · exact ⟨leV_refl _, leV_refl _, leV_refl _, leV_refl _, leV_refl _, trivial⟩
  · exact ⟨leL_refl _, leL_refl _, trivial⟩
  · rintro ⟨k, hk⟩
    conv => whnf
    split
    · rename_i hb
      have hlt : k < n := by simpa using hb
      conv => whnf
      split
      · have b1 := sumTo_bound (g := g1) (B := 1000000000000000) k fun i hi => (h i (by omega)).1
        have b2 := sumTo_bound (g := g2) (B := 1000000000000000) k fun i hi => (h i (by omega)).2
        have b3 := h k hlt
        have e1 : w64 (sumTo g1 k + g1 k) = sumTo g1 (k + 1) := by rw [w64, wrap_in]; rfl; omega; omega
        have e2 : w64 (sumTo g2 k + g2 k) = sumTo g2 (k + 1) := by rw [w64, wrap_in]; rfl; omega; omega
        conv => whnf
        refine ⟨⟨k + 1, hlt⟩, ⟨⟨leV_int ?_, leV_refl _, leV_refl _, leV_refl _, leV_refl _, trivial⟩, ⟨⟨leV_int e1, leV_int e2, trivial⟩, leL_refl _, trivial⟩, rfl, rfl⟩, ?_⟩
        · show w64 ((k : Int) + 1) = ((k + 1 : Nat) : Int)
          rw [w64, wrap_in] <;> omega
        · show n - (k + 1) < n - k
          omega
      · rename_i h2; rw [hb] at h2; cases h2
    · rename_i hb
      have : k = n := by simp at hb; omega
      subst this
      conv => whnf
      exact ⟨rfl, rfl⟩

def allBr (b : Bl) (f : Fl) (d : Nat) : Prop := ∀ i, i < b.nr → (b.br f i d).isSome = true
instance (b : Bl) (f : Fl) (d : Nat) : Decidable (allBr b f d) := by unfold allBr; infer_instance

/-- What 'each' hands back. -/
def eachR (b : Bl) (f : Fl) (d : Nat) (φ : Nat → Int → Int × Int) : IV :=
  if allBr b f d then .tup [.lst (some 32) 2 b.nr fun i => [.int .i64 (φ i ((b.br f i d).getD 0)).1, .int .i64 (φ i ((b.br f i d).getD 0)).2], .int .i64 0]
  else .tup [.nilS, .int .i64 7]

theorem c_each (up : List Ces) (b : Bl) (f : Fl) (d : Nat) (hd : d < 12) (hb : b.err = 0) (hf : f.err = 0) (F : Nat) (φ : Nat → Int → Int × Int)
    (hF : ∀ up i a, i < b.nr → b.br f i d = some a → Cs gl F up [secAt b f i, .agg [.int .i64 a, .int .i64 ((d + 1 : Nat) : Int)]] (.agg [.int .i64 (φ i a).1, .int .i64 (φ i a).2]) up) :
    Cs gl n_rotor_each up [b.iv, f.iv, .int .i64 ((d + 1 : Nat) : Int), .fn F [] []] (eachR b f d φ) up := by
  refine mk h_rotor_each rfl rfl ?_
  obtain ⟨_, hn1, hn2, ok⟩ := Bl.good hb hf
  conv => whnf
  refine .mk _ _ _ _ _ (leL_refl _) (c_sections _ _ _ _ _ _ _ _ _ _ _ _ _) rfl ?_
  conv => whnf
  let L : Nat → List IV := fun i => [.int .i64 (φ i ((b.br f i d).getD 0)).1, .int .i64 (φ i ((b.br f i d).getD 0)).2]
  refine .mk n_rotor_sections_1 _ b.nr (fun i => [secAt b f i]) rfl rfl (v_sections gl b f hn2) (by kernel_rfl) (fun _ _ => rfl)
    (α := {k : Nat // k ≤ b.nr ∧ ∀ j, j < k → (b.br f j d).isSome = true}) (fun k => ⟨[(6, .ptr 0 6 0), (7, .ptr 0 7 0), (8, .ptr 0 8 0), (9, .ptr 0 9 0), (10, .ptr 0 10 0)],
      [(10, [.lst (some 32) 2 k.1 L]), (9, [.int .i64 0]), (8, [.nilS]), (7, [.fn F [] []]), (6, [.int .i64 ((d + 1 : Nat) : Int)])], up⟩) (fun k => k.1) ⟨0, Nat.zero_le _, fun j hj => by omega⟩ ⟨?_, ?_, rfl, rfl⟩ rfl (fun _ => rfl) ?_ ?_
  · exact ⟨leV_refl _, leV_refl _, leV_refl _, leV_refl _, leV_refl _, trivial⟩
  · exact ⟨⟨rfl, trivial⟩, leL_refl _, leL_refl _, leL_refl _, leL_refl _, trivial⟩
  · rintro ⟨k, hk, hs⟩ hlt
    replace hlt : k < b.nr := hlt
    have hfd := fun up => c_findP (gl := gl) up b f k (ok k hlt) d hd
    conv => whnf
    cases hbr : b.br f k d with
    | none =>
      rw [hbr] at hfd
      refine .mk _ _ _ _ _ (leL_refl _) (hfd _) rfl ?_
      conv => whnf
      refine ⟨?_, rfl⟩
      have hno : ¬ allBr b f d := fun h => by have := h k hlt; rw [hbr] at this; cases this
      unfold eachR
      rw [if_neg hno]
    | some a =>
      rw [hbr] at hfd
      refine .mk _ _ _ _ _ (leL_refl _) (hfd _) rfl ?_
      conv => whnf
      refine .mk 6 (by kernel_rfl) ?_
      conv => whnf
      first | refine CALLQ.mk _ _ _ (leL_refl _) (hF _ k a hlt hbr) rfl ?_ | refine CALL0.mk _ _ _ _ _ (leL_refl _) (hF _ k a hlt hbr) rfl ?_
      conv => whnf
      split
      rotate_left
      · rename_i h
        have h' : decide (k + 1 ≤ 1073741824) = false := h
        simp at h' <;> omega
      conv => whnf
      refine ⟨⟨k + 1, hlt, fun j hj => ?_⟩, rfl, ⟨?_, ?_, rfl, rfl⟩⟩
      · by_cases e : j = k
        · rw [e, hbr]; rfl
        · exact hs j (by omega)
      · exact ⟨leV_refl _, leV_refl _, leV_refl _, leV_refl _, leV_refl _, trivial⟩
      · refine ⟨⟨⟨.inr rfl, rfl, rfl, fun j hj => ?_⟩, trivial⟩, leL_refl _, leL_refl _, leL_refl _, leL_refl _, trivial⟩
        show (if j < k then L j else litF 2 [.int .i64 (φ k a).1, .int .i64 (φ k a).2] (j - k)) = L j
        split
        · rfl
        · have : j = k := by have : j < k + 1 := hj; omega
          subst this
          rw [Nat.sub_self]
          show [IV.int .i64 (φ j a).1, .int .i64 (φ j a).2] = [.int .i64 (φ j ((b.br f j d).getD 0)).1, .int .i64 (φ j ((b.br f j d).getD 0)).2]
          rw [hbr]; rfl
  · rintro ⟨k, hk, hs⟩ heq
    have : k = b.nr := heq
    subst this
    conv => whnf
    refine ⟨?_, rfl⟩
    unfold eachR
    rw [if_pos (show allBr b f d from hs)]

theorem br_rng {b : Bl} {f : Fl} {i d : Nat} (h : b.ok f i) {a : Int} (hbr : b.br f i d = some a) : 0 ≤ a ∧ a < 2 ^ d := by
  have := (brP_some h).1 hbr
  exact ⟨this.1, this.2.1⟩

theorem tor_bound {b : Bl} {f : Fl} {i d : Nat} (h : b.ok f i) (hd : d < 12) {a : Int} (hbr : b.br f i d = some a) :
    (-1000000000000000 ≤ (b.tor f i a (d + 1)).1 ∧ (b.tor f i a (d + 1)).1 ≤ 1000000000000000) ∧ (-1000000000000000 ≤ (b.tor f i a (d + 1)).2 ∧ (b.tor f i a (d + 1)).2 ≤ 1000000000000000) := by
  obtain ⟨h0, h1⟩ := br_rng h hbr
  have hs := Int.pow_succ (2 : Int) d
  have hp := two_pos d
  have r1 := infl_rng h (d := d + 1) (a := a + 1) (by omega) (by omega)
  have r2 := infl_rng h (d := d + 1) (a := a) (by omega) (by omega)
  obtain ⟨x, y, x1, x2, y1, y2, e1, e2⟩ := stepsP_in (n := b.nl) (lf := b.lf) (df := b.df) (r := b.r1 i) (c := b.r2 i) (t := b.r3 i) (tip := b.r4 i) (p := f.p) (inflP_mono h (d := d + 1) (show a ≤ a + 1 by omega)) (b.nl + 2)
  have r1 : 0 ≤ inflP (b.r1 i) f.w f.s (a + 1) (d + 1) := r1.1
  have r2 : inflP (b.r1 i) f.w f.s a (d + 1) ≤ 51200 := r2.2
  have q1 := ofP_bound h (x := x) (by omega) (by omega)
  have q2 := ofP_bound h (x := y) (by omega) (by omega)
  show (-1000000000000000 ≤ (stepsP _ _ _ _ _ _ _ _ _ _ _).1 ∧ _) ∧ _
  rw [e1]
  refine ⟨⟨q1.1, ?_⟩, ?_⟩
  · show (stepsP _ _ _ _ _ _ _ _ _ _ _).1 ≤ _
    rw [e1]; exact q1.2.1
  · show _ ≤ (stepsP _ _ _ _ _ _ _ _ _ _ _).2 ∧ (stepsP _ _ _ _ _ _ _ _ _ _ _).2 ≤ _
    rw [e2]; exact ⟨q2.1, q2.2.1⟩

theorem thr_bound {b : Bl} {f : Fl} {i d : Nat} (h : b.ok f i) (hd : d < 12) {a : Int} (hbr : b.br f i d = some a) :
    (-1000000000000000 ≤ (b.thr i a (d + 1)).1 ∧ (b.thr i a (d + 1)).1 ≤ 1000000000000000) ∧ (-1000000000000000 ≤ (b.thr i a (d + 1)).2 ∧ (b.thr i a (d + 1)).2 ≤ 1000000000000000) := by
  obtain ⟨h0, h1⟩ := br_rng h hbr
  have hs := Int.pow_succ (2 : Int) d
  have hp := two_pos d
  have q1 := thrustP_bound h (d := d + 1) (a := a) (by omega) h0 (by omega)
  have q2 := thrustP_bound h (d := d + 1) (a := a + 1) (by omega) (by omega) (by omega)
  refine ⟨⟨?_, q1.2.1⟩, ?_, q2.2.1⟩
  · have := q1.1
    show _ ≤ thrustP _ _ _; omega
  · have := q2.1
    show _ ≤ thrustP _ _ _; omega

/-- The sums over the rings, or the error. -/
def sumR (b : Bl) (f : Fl) (d : Int) (φ : Nat → Int → Nat → Int × Int) : IV :=
  bif allErr b f d != 0 then .tup [.agg [.int .i64 0, .int .i64 0], .int .i64 (allErr b f d)] else
    if allBr b f (d - 1).toNat then .tup [.agg [.int .i64 (sumTo (fun i => (φ i ((b.br f i (d - 1).toNat).getD 0) d.toNat).1) b.nr), .int .i64 (sumTo (fun i => (φ i ((b.br f i (d - 1).toNat).getD 0) d.toNat).2) b.nr)], .int .i64 0]
    else .tup [.agg [.int .i64 0, .int .i64 0], .int .i64 7]

theorem allErr_ok {b : Bl} {f : Fl} {d : Int} (h : allErr b f d = 0) : b.err = 0 ∧ f.err = 0 ∧ ∃ n : Nat, d = ((n + 1 : Nat) : Int) ∧ n < 12 := by
  unfold allErr at h
  simp only [orE_zero, withinS_zero] at h
  exact ⟨h.1, h.2.1, (d - 1).toNat, by omega, by omega⟩

theorem c_sum0 (up : List Ces) : Cs gl n_rotor_sum up [.nilS] (.agg [.int .i64 0, .int .i64 0]) up := by
  have := c_sum (gl := gl) up 0 (by omega) (fun _ => 0) (fun _ => 0) (fun i hi => by omega)
  refine Comp.le ?_ this
  exact ⟨rfl, trivial⟩

theorem c_Thrust (up : List Ces) (b : Bl) (f : Fl) (d : Int) : Cs gl n_rotor_Thrust up [b.iv, f.iv, .int .i64 d] (sumR b f d (fun i a d => b.thr i a d)) up := by
  refine mk h_rotor_Thrust rfl rfl ?_
  unfold sumR
  conv => whnf
  refine .mk _ _ _ _ _ (leL_refl _) (c_checkAll _ b f _) rfl ?_
  conv => whnf
  split
  · rename_i h
    have h' : (allErr b f d != 0) = true := h
    conv => whnf
    refine ⟨?_, rfl⟩
    rw [h']; rfl
  · rename_i h
    have h' : (allErr b f d != 0) = false := h
    have h0 : allErr b f d = 0 := by simpa using h'
    rw [h', cond_false]
    obtain ⟨g1, g2, n, rfl, g3⟩ := allErr_ok h0
    obtain ⟨_, hn1, hn2, ok⟩ := Bl.good g1 g2
    rw [show (((n + 1 : Nat) : Int) - 1).toNat = n by omega, show (((n + 1 : Nat) : Int)).toNat = n + 1 by omega]
    have hs := Int.pow_succ (2 : Int) n
    have he := fun up => c_each (gl := gl) up b f n g3 g1 g2 n_rotor_section_thrust (fun i a => b.thr i a (n + 1)) fun up i a hi hbr => by
      have := br_rng (ok i hi) hbr
      exact c_thrust up b f i (ok i hi) a (n + 1) (by omega) (by omega) (by omega)
    conv => whnf
    by_cases hall : allBr b f n
    · rw [eachR, if_pos hall] at he
      refine .mk _ _ _ _ _ (leL_refl _) (he _) rfl ?_
      conv => whnf
      refine .mk _ _ _ _ _ (leL_refl _) (c_sum _ _ hn2 _ _ (fun i hi => by obtain ⟨a, ha⟩ := Option.isSome_iff_exists.1 (hall i hi); rw [ha]; exact thr_bound (ok i hi) g3 ha)) rfl ?_
      conv => whnf
      refine ⟨?_, rfl⟩
      rw [if_pos hall]
    · rw [eachR, if_neg hall] at he
      refine .mk _ _ _ _ _ (leL_refl _) (he _) rfl ?_
      conv => whnf
      refine .mk _ _ _ _ _ (leL_refl _) (c_sum0 _) rfl ?_
      conv => whnf
      refine ⟨?_, rfl⟩
      rw [if_neg hall]

/-- The torques of all rings, or the error. -/
def ringsR (b : Bl) (f : Fl) (d : Int) : IV :=
  bif allErr b f d != 0 then .tup [.nilS, .int .i64 (allErr b f d)] else
    if allBr b f (d - 1).toNat then .tup [.lst (some 19) 2 b.nr fun i => [.int .i64 (b.tor f i ((b.br f i (d - 1).toNat).getD 0) d.toNat).1, .int .i64 (b.tor f i ((b.br f i (d - 1).toNat).getD 0) d.toNat).2], .int .i64 0]
    else .tup [.nilS, .int .i64 7]

theorem c_Rings (up : List Ces) (b : Bl) (f : Fl) (d : Int) : Cs gl n_rotor_Rings up [b.iv, f.iv, .int .i64 d] (ringsR b f d) up := by
  refine mk h_rotor_Rings rfl rfl ?_
  unfold ringsR
  conv => whnf
  refine .mk _ _ _ _ _ (leL_refl _) (c_checkAll _ b f _) rfl ?_
  conv => whnf
  split
  · rename_i h
    have h' : (allErr b f d != 0) = true := h
    conv => whnf
    refine ⟨?_, rfl⟩
    rw [h']; rfl
  · rename_i h
    have h' : (allErr b f d != 0) = false := h
    have h0 : allErr b f d = 0 := by simpa using h'
    rw [h', cond_false]
    obtain ⟨g1, g2, n, rfl, g3⟩ := allErr_ok h0
    obtain ⟨hnd, hn1, hn2, ok⟩ := Bl.good g1 g2
    rw [show (((n + 1 : Nat) : Int) - 1).toNat = n by omega, show (((n + 1 : Nat) : Int)).toNat = n + 1 by omega]
    have hs := Int.pow_succ (2 : Int) n
    have he := fun up => c_each (gl := gl) up b f n g3 g1 g2 n_rotor_section_torque (fun i a => b.tor f i a (n + 1)) fun up i a hi hbr => by
      have := br_rng (ok i hi) hbr
      exact c_torque up b f i (ok i hi) hnd a (n + 1) (by omega) (by omega) (by omega)
    conv => whnf
    by_cases hall : allBr b f n
    · rw [eachR, if_pos hall] at he
      refine .mk _ _ _ _ _ (leL_refl _) (he _) rfl ?_
      conv => whnf
      refine ⟨?_, rfl⟩
      rw [if_pos hall]
    · rw [eachR, if_neg hall] at he
      refine .mk _ _ _ _ _ (leL_refl _) (he _) rfl ?_
      conv => whnf
      refine ⟨?_, rfl⟩
      rw [if_neg hall]

theorem c_Torque (up : List Ces) (b : Bl) (f : Fl) (d : Int) : Cs gl n_rotor_Torque up [b.iv, f.iv, .int .i64 d] (sumR b f d (fun i a d => b.tor f i a d)) up := by
  refine mk h_rotor_Torque rfl rfl ?_
  unfold sumR
  have hr := fun up => c_Rings (gl := gl) up b f d
  unfold ringsR at hr
  conv => whnf
  by_cases h' : (allErr b f d != 0) = true
  · rw [h', cond_true] at hr
    refine .mk _ _ _ _ _ (leL_refl _) (hr _) rfl ?_
    conv => whnf
    refine .mk _ _ _ _ _ (leL_refl _) (c_sum0 _) rfl ?_
    conv => whnf
    refine ⟨?_, rfl⟩
    rw [h']; rfl
  · replace h' : (allErr b f d != 0) = false := by simpa using h'
    rw [h', cond_false] at hr ⊢
    have h0 : allErr b f d = 0 := by simpa using h'
    obtain ⟨g1, g2, n, rfl, g3⟩ := allErr_ok h0
    obtain ⟨hnd, hn1, hn2, ok⟩ := Bl.good g1 g2
    rw [show (((n + 1 : Nat) : Int) - 1).toNat = n by omega, show (((n + 1 : Nat) : Int)).toNat = n + 1 by omega] at hr ⊢
    by_cases hall : allBr b f n
    · rw [if_pos hall] at hr
      refine .mk _ _ _ _ _ (leL_refl _) (hr _) rfl ?_
      conv => whnf
      refine .mk _ _ _ _ _ (leL_refl _) (c_sum _ _ hn2 _ _ (fun i hi => by obtain ⟨a, ha⟩ := Option.isSome_iff_exists.1 (hall i hi); rw [ha]; exact tor_bound (ok i hi) g3 ha)) rfl ?_
      conv => whnf
      refine ⟨?_, rfl⟩
      rw [if_pos hall]
    · rw [if_neg hall] at hr
      refine .mk _ _ _ _ _ (leL_refl _) (hr _) rfl ?_
      conv => whnf
      refine .mk _ _ _ _ _ (leL_refl _) (c_sum0 _) rfl ?_
      conv => whnf
      refine ⟨?_, rfl⟩
      rw [if_neg hall]
end Go.Proofs.YtllmejkmogepjaaGreatDoor.Ix

/-
  Rt2: what TopHawseFinest asks, told of brackets, torques and thrusts: the brackets of all depths lie one in another, and so do the sums of torques and thrusts.
-/
namespace Go.Proofs.YtllmejkmogepjaaGreatDoor.Ix
open Go.Proofs
set_option maxRecDepth 100000
set_option linter.unusedVariables false
set_option linter.unusedSimpArgs false
variable {gl : Nat → IV}

/-- A valid blade in a valid flow. -/
structure Good (b : Bl) (f : Fl) : Prop where
  be : b.err = 0
  fe : f.err = 0

theorem Good.all {b : Bl} {f : Fl} (g : Good b f) : b.nd = b.nl ∧ 1 ≤ b.nr ∧ b.nr ≤ 16 ∧ ∀ i, i < b.nr → b.ok f i := Bl.good g.be g.fe

theorem Good.ring {b : Bl} {f : Fl} (g : Good b f) {i : Nat} (hi : i < b.nr) : ringErr b f i = 0 := by
  unfold ringErr
  rw [g.be, g.fe]
  have h1 : decide ((i : Int) < 0) = false := decide_eq_false (by omega)
  have h2 : decide ((i : Int) ≥ b.nr) = false := decide_eq_false (by omega)
  rw [h1, h2]; rfl

theorem dep_ok {D : Nat} (hD : D < 12) : withinS ((D + 1 : Nat) : Int) 1 12 = 0 := by rw [withinS_zero]; omega

theorem findR_ok {b : Bl} {f : Fl} (g : Good b f) {i : Nat} (hi : i < b.nr) {D : Nat} (hD : D < 12) :
    findR b f i ((D + 1 : Nat) : Int) = match b.br f i D with
      | none => .tup [.agg [.int .i64 0, .int .i64 0], .int .i64 7]
      | some a => .tup [.agg [.int .i64 a, .int .i64 ((D + 1 : Nat) : Int)], .int .i64 0] := by
  unfold findR
  simp only
  rw [g.ring hi, dep_ok hD]
  rw [show (((D + 1 : Nat) : Int) - 1).toNat = D by omega, show ((i : Int)).toNat = i by omega]
  rfl

theorem indErr_zero {a : Int} {D : Nat} (hD : D < 12) (h0 : 0 ≤ a) (h1 : a ≤ 2 ^ D) : indErr a ((D + 1 : Nat) : Int) = 0 := by
  unfold indErr
  rw [orE_zero, withinS_zero, withinS_zero, show (((D + 1 : Nat) : Int) - 1).toNat = D by omega]
  omega

theorem balR_ok {b : Bl} {f : Fl} (g : Good b f) {i : Nat} (hi : i < b.nr) {D : Nat} (hD : D < 12) {a : Int} (h0 : 0 ≤ a) (h1 : a ≤ 2 ^ D) :
    balR b f i a ((D + 1 : Nat) : Int) = .tup [.int .i64 (b.bal f i a (D + 1)), .int .i64 0] := by
  unfold balR
  simp only
  rw [g.ring hi, indErr_zero hD h0 h1]
  rw [show (((D + 1 : Nat) : Int)).toNat = D + 1 by omega, show ((i : Int)).toNat = i by omega]
  rfl

/-- The bracket of ring 'i' at the depth 'D + 1', if there is one. -/
def Bl.at (b : Bl) (f : Fl) (i D : Nat) : Int := (b.br f i D).getD 0

theorem br_at {b : Bl} {f : Fl} {i D : Nat} (h : (b.br f i D).isSome = true) : b.br f i D = some (b.at f i D) := by
  unfold Bl.at
  obtain ⟨a, ha⟩ := Option.isSome_iff_exists.1 h
  rw [ha]; rfl

theorem br_none_iff {b : Bl} {f : Fl} {i : Nat} (D E : Nat) : b.br f i D = none ↔ b.br f i E = none := by
  unfold Bl.br
  rw [brP_none, brP_none]

theorem br_some_all {b : Bl} {f : Fl} {i D : Nat} (h : (b.br f i D).isSome = true) (E : Nat) : (b.br f i E).isSome = true := by
  cases hE : b.br f i E with
  | none => rw [(br_none_iff D E).2 hE] at h; cases h
  | some a => rfl

theorem at_br {b : Bl} {f : Fl} {i D : Nat} (ok : b.ok f i) (h : (b.br f i D).isSome = true) : 0 ≤ b.at f i D ∧ b.at f i D < 2 ^ D ∧ b.bal f i (b.at f i D) (D + 1) ≤ 0 ∧ 0 < b.bal f i (b.at f i D + 1) (D + 1) :=
  (brP_some ok).1 (br_at h)

/-- The bracket one bit finer. -/
theorem at_next {b : Bl} {f : Fl} {i D : Nat} (ok : b.ok f i) (h : (b.br f i D).isSome = true) : b.at f i (D + 1) = if 0 < b.bal f i (2 * b.at f i D + 1) (D + 1 + 1) then 2 * b.at f i D else 2 * b.at f i D + 1 := by
  have h1 := ((brP_some ok).1 (br_at h)).finer
  have h2 := (brP_some ok).1 (br_at (br_some_all h (D + 1)))
  exact h2.uniq ok h1

theorem refineR_ok {b : Bl} {f : Fl} (g : Good b f) {i : Nat} (hi : i < b.nr) {D : Nat} (hD : D + 1 < 12) (h : (b.br f i D).isSome = true) :
    refineR b f i (b.at f i D) ((D + 1 : Nat) : Int) = .tup [.agg [.int .i64 (b.at f i (D + 1)), .int .i64 ((D + 1 + 1 : Nat) : Int)], .int .i64 0] := by
  have ok := g.all.2.2.2 i hi
  obtain ⟨a1, a2, a3, a4⟩ := at_br ok h
  have hp := Int.pow_succ (2 : Int) D
  have hd := balP_dbl b.nl b.lf (b.r1 i) (b.r2 i) (b.r3 i) (b.r4 i) f.w f.s f.p (b.at f i D) (D + 1)
  have hd : b.bal f i (2 * b.at f i D) (D + 1 + 1) = 4 * b.bal f i (b.at f i D) (D + 1) := hd
  have hbr : isBr b f i (b.at f i D) (D + 1) = true := by
    unfold isBr
    simp only [Bool.and_eq_true, decide_eq_true_eq]
    exact ⟨by simpa using a2, a3, a4⟩
  have hb2 : isBr b f i (2 * b.at f i D) (D + 1 + 1) = decide (0 < b.bal f i (2 * b.at f i D + 1) (D + 1 + 1)) := by
    unfold isBr
    rw [decide_eq_true (show 2 * b.at f i D < 2 ^ (D + 1 + 1 - 1) by show 2 * b.at f i D < 2 ^ (D + 1); omega), decide_eq_true (show b.bal f i (2 * b.at f i D) (D + 1 + 1) ≤ 0 by omega)]
    rfl
  unfold refineR brErr
  simp only
  rw [g.ring hi, indErr_zero (by omega) a1 (by omega)]
  rw [show (((D + 1 : Nat) : Int)).toNat = D + 1 by omega, show ((i : Int)).toNat = i by omega, hbr, hb2, at_next ok h]
  have h12 : ((((D + 1 : Nat) : Int)) == 12) = false := by
    rw [beq_eq_false_iff_ne]; omega
  rw [h12]
  have e : (((D + 1 : Nat) : Int)) + 1 = ((D + 1 + 1 : Nat) : Int) := by omega
  rw [e]
  by_cases q : 0 < b.bal f i (2 * b.at f i D + 1) (D + 1 + 1)
  · rw [decide_eq_true q, if_pos q]; rfl
  · rw [decide_eq_false q, if_neg q]; rfl

theorem at_deep {b : Bl} {f : Fl} {i D : Nat} (ok : b.ok f i) (h : (b.br f i D).isSome = true) (k : Nat) : 2 ^ k * b.at f i D ≤ b.at f i (D + k) ∧ b.at f i (D + k) + 1 ≤ 2 ^ k * (b.at f i D + 1) := by
  obtain ⟨a', h1, h2, h3⟩ := brP_deep ok (br_at h) k
  have : b.at f i (D + k) = a' := by
    have h1 : b.br f i (D + k) = some a' := h1
    unfold Bl.at; rw [h1]; rfl
  rw [this]; exact ⟨h2, h3⟩

/-! The sums. -/
def Bl.T (b : Bl) (f : Fl) (D : Nat) : Int × Int := (sumTo (fun i => (b.tor f i (b.at f i D) (D + 1)).1) b.nr, sumTo (fun i => (b.tor f i (b.at f i D) (D + 1)).2) b.nr)
def Bl.F (b : Bl) (f : Fl) (D : Nat) : Int × Int := (sumTo (fun i => (b.thr i (b.at f i D) (D + 1)).1) b.nr, sumTo (fun i => (b.thr i (b.at f i D) (D + 1)).2) b.nr)

theorem allBr_iff {b : Bl} {f : Fl} (D E : Nat) : allBr b f D ↔ allBr b f E := ⟨fun h i hi => br_some_all (h i hi) E, fun h i hi => br_some_all (h i hi) D⟩

theorem allErr_zero {b : Bl} {f : Fl} (g : Good b f) {D : Nat} (hD : D < 12) : allErr b f ((D + 1 : Nat) : Int) = 0 := by
  unfold allErr
  rw [g.be, g.fe, dep_ok hD]; rfl

theorem torR_ok {b : Bl} {f : Fl} (g : Good b f) {D : Nat} (hD : D < 12) :
    sumR b f ((D + 1 : Nat) : Int) (fun i a d => b.tor f i a d) = if allBr b f 0 then .tup [.agg [.int .i64 (b.T f D).1, .int .i64 (b.T f D).2], .int .i64 0] else .tup [.agg [.int .i64 0, .int .i64 0], .int .i64 7] := by
  unfold sumR
  rw [allErr_zero g hD, show (((D + 1 : Nat) : Int) - 1).toNat = D by omega, show (((D + 1 : Nat) : Int)).toNat = D + 1 by omega]
  by_cases h : allBr b f 0
  · rw [if_pos h, if_pos ((allBr_iff 0 D).1 h)]; rfl
  · rw [if_neg h, if_neg (fun q => h ((allBr_iff 0 D).2 q))]; rfl

theorem thrR_ok {b : Bl} {f : Fl} (g : Good b f) {D : Nat} (hD : D < 12) :
    sumR b f ((D + 1 : Nat) : Int) (fun i a d => b.thr i a d) = if allBr b f 0 then .tup [.agg [.int .i64 (b.F f D).1, .int .i64 (b.F f D).2], .int .i64 0] else .tup [.agg [.int .i64 0, .int .i64 0], .int .i64 7] := by
  unfold sumR
  rw [allErr_zero g hD, show (((D + 1 : Nat) : Int) - 1).toNat = D by omega, show (((D + 1 : Nat) : Int)).toNat = D + 1 by omega]
  by_cases h : allBr b f 0
  · rw [if_pos h, if_pos ((allBr_iff 0 D).1 h)]; rfl
  · rw [if_neg h, if_neg (fun q => h ((allBr_iff 0 D).2 q))]; rfl

theorem T_nested {b : Bl} {f : Fl} (g : Good b f) (h : allBr b f 0) (D k : Nat) : (b.T f D).1 ≤ (b.T f (D + k)).1 ∧ (b.T f (D + k)).2 ≤ (b.T f D).2 := by
  have key : ∀ i, i < b.nr → (b.tor f i (b.at f i D) (D + 1)).1 ≤ (b.tor f i (b.at f i (D + k)) (D + k + 1)).1 ∧ (b.tor f i (b.at f i (D + k)) (D + k + 1)).2 ≤ (b.tor f i (b.at f i D) (D + 1)).2 := fun i hi => by
    have ok := g.all.2.2.2 i hi
    obtain ⟨h1, h2⟩ := at_deep ok (br_some_all (h i hi) D) k
    have := torqueP_nested ok (d := D + 1) (k := k) h1 h2
    rw [show D + 1 + k = D + k + 1 by omega] at this
    exact this
  exact ⟨sumTo_le _ fun i hi => (key i hi).1, sumTo_le _ fun i hi => (key i hi).2⟩

theorem F_nested {b : Bl} {f : Fl} (g : Good b f) (h : allBr b f 0) (D k : Nat) (hk : D + k < 12) :
    4 ^ k * (b.F f D).1 ≤ (b.F f (D + k)).1 ∧ (b.F f (D + k)).2 ≤ 4 ^ k * (b.F f D).2 ∧ 0 ≤ 4 ^ k * (b.F f D).1 ∧ 4 ^ k * (b.F f D).2 ≤ 16 * 1000000000000000 ∧ 0 ≤ (b.F f (D + k)).1 ∧ (b.F f (D + k)).1 ≤ 16 * 1000000000000000 ∧ 0 ≤ (b.F f (D + k)).2 ∧ (b.F f (D + k)).2 ≤ 16 * 1000000000000000 := by
  have key : ∀ i, i < b.nr → 4 ^ k * (b.thr i (b.at f i D) (D + 1)).1 ≤ (b.thr i (b.at f i (D + k)) (D + k + 1)).1 ∧ (b.thr i (b.at f i (D + k)) (D + k + 1)).2 ≤ 4 ^ k * (b.thr i (b.at f i D) (D + 1)).2 ∧
      0 ≤ 4 ^ k * (b.thr i (b.at f i D) (D + 1)).1 ∧ 4 ^ k * (b.thr i (b.at f i D) (D + 1)).2 ≤ 1000000000000000 ∧ 0 ≤ (b.thr i (b.at f i (D + k)) (D + k + 1)).1 ∧ (b.thr i (b.at f i (D + k)) (D + k + 1)).1 ≤ 1000000000000000 ∧ 0 ≤ (b.thr i (b.at f i (D + k)) (D + k + 1)).2 ∧ (b.thr i (b.at f i (D + k)) (D + k + 1)).2 ≤ 1000000000000000 := fun i hi => by
    have ok := g.all.2.2.2 i hi
    obtain ⟨a1, a2, _, _⟩ := at_br ok (br_some_all (h i hi) D)
    obtain ⟨c1, c2, _, _⟩ := at_br ok (br_some_all (h i hi) (D + k))
    obtain ⟨h1, h2⟩ := at_deep ok (br_some_all (h i hi) D) k
    have hn := thrustP_nested (r := b.r1 i) (d := D) (k := k) (by have := ok.r; omega) a2 h1 h2
    rw [show D + 1 + k = D + k + 1 by omega] at hn
    have hp := two_pos k
    have hs := Int.pow_succ (2 : Int) (D + k)
    have e := Int.pow_add (2 : Int) D k
    have q1 : 2 ^ k * (b.at f i D + 1) ≤ 2 ^ k * 2 ^ D := Int.mul_le_mul_of_nonneg_left (by omega) (by omega)
    have q2 : 2 ^ k * (2 : Int) ^ D = 2 ^ D * 2 ^ k := Int.mul_comm _ _
    have q3 : 0 ≤ 2 ^ k * b.at f i D := Int.mul_nonneg (by omega) a1
    have q4 : 2 ^ k * b.at f i D ≤ 2 ^ k * (b.at f i D + 1) := Int.mul_le_mul_of_nonneg_left (by omega) (by omega)
    have m1 := thrustP_bound ok (d := D + k + 1) (a := 2 ^ k * b.at f i D) (by omega) q3 (by omega)
    have m2 := thrustP_bound ok (d := D + k + 1) (a := 2 ^ k * (b.at f i D + 1)) (by omega) (by omega) (by omega)
    have m3 := thrustP_bound ok (d := D + k + 1) (a := b.at f i (D + k)) (by omega) c1 (by omega)
    have m4 := thrustP_bound ok (d := D + k + 1) (a := b.at f i (D + k) + 1) (by omega) (by omega) (by omega)
    have s1 := thrustP_shift (b.r1 i) (b.at f i D) (D + 1) k
    have s2 := thrustP_shift (b.r1 i) (b.at f i D + 1) (D + 1) k
    rw [show D + 1 + k = D + k + 1 by omega] at s1 s2
    rw [s1] at m1
    rw [s2] at m2
    exact ⟨hn.1, hn.2, m1.1, m2.2.1, m3.1, m3.2.1, m4.1, m4.2.1⟩
  have hn := g.all.2.2.1
  have e1 : 4 ^ k * (b.F f D).1 = sumTo (fun i => 4 ^ k * (b.thr i (b.at f i D) (D + 1)).1) b.nr := (sumTo_mul _ _).symm
  have e2 : 4 ^ k * (b.F f D).2 = sumTo (fun i => 4 ^ k * (b.thr i (b.at f i D) (D + 1)).2) b.nr := (sumTo_mul _ _).symm
  have z : ∀ n, sumTo (fun _ => 0) n = 0 := fun n => by induction n with
    | zero => rfl
    | succ n ih => simp [sumTo, ih]
  have up : ∀ (x : Nat → Int), (∀ i, i < b.nr → x i ≤ 1000000000000000) → sumTo x b.nr ≤ 16 * 1000000000000000 := fun x hx => by
    have h1 := sumTo_le (h := fun _ => 1000000000000000) b.nr hx
    have h2 : ∀ n : Nat, sumTo (fun _ => 1000000000000000) n = n * 1000000000000000 := fun n => by induction n with
      | zero => rfl
      | succ n ih => simp only [sumTo, ih]; omega
    rw [h2] at h1; omega
  have dn : ∀ (x : Nat → Int), (∀ i, i < b.nr → 0 ≤ x i) → 0 ≤ sumTo x b.nr := fun x hx => by
    have h1 := sumTo_le (g := fun _ => 0) b.nr hx
    rw [z] at h1; exact h1
  rw [e1, e2]
  exact ⟨sumTo_le _ fun i hi => (key i hi).1, sumTo_le _ fun i hi => (key i hi).2.1, dn _ fun i hi => (key i hi).2.2.1, up _ fun i hi => (key i hi).2.2.2.1, dn _ fun i hi => (key i hi).2.2.2.2.1, up _ fun i hi => (key i hi).2.2.2.2.2.1,
    dn _ fun i hi => (key i hi).2.2.2.2.2.2.1, up _ fun i hi => (key i hi).2.2.2.2.2.2.2⟩
end Go.Proofs.YtllmejkmogepjaaGreatDoor.Ix

/-
  Rr1: contracts of the reference's functions for blades and flows.
-/
namespace Go.Proofs.YtllmejkmogepjaaGreatDoor.Ix
open Go.Proofs
set_option maxRecDepth 100000
set_option linter.unusedVariables false
set_option linter.unusedSimpArgs false
variable {gl : Nat → IV}

theorem c_CheckRange (up : List Ces) (n lo hi : Int) : Cs gl n_nacelleref01_CheckRange up [.int .i64 n, .int .i64 lo, .int .i64 hi] (.int .i64 (withinS n lo hi)) up := by
  refine mk h_nacelleref01_CheckRange rfl rfl ?_
  conv => whnf
  split
  · rename_i h
    have h : decide (n < lo) = true := h
    conv => whnf
    simp [withinS, h]
  · rename_i h
    have h : decide (n < lo) = false := h
    conv => whnf
    split
    · rename_i h2
      have h2 : decide (n > hi) = true := h2
      conv => whnf
      simp [withinS, h, h2]
    · rename_i h2
      have h2 : decide (n > hi) = false := h2
      conv => whnf
      simp [withinS, h, h2]

theorem c_CheckAngle (up : List Ces) (n : Int) : Cs gl n_nacelleref03_CheckAngle up [.int .i64 n] (.int .i64 (withinS n (-64) 64)) up := by
  refine mk h_nacelleref03_CheckAngle rfl rfl ?_
  conv => whnf
  refine .mk _ _ _ _ _ (leL_refl _) (c_CheckRange _ _ _ _) rfl ?_
  conv => whnf
  exact ⟨rfl, rfl⟩

theorem c_rFirst (up : List Ces) (n : Nat) (hn : n ≤ 4611686018427387904) (f : Nat → Int) : Cs gl n_nacelleref01_First up [.lst none 1 n fun i => [.int .i64 (f i)]] (.int .i64 (firstS f n 0)) up := by
  refine mk h_nacelleref01_First rfl rfl ?_
  conv => whnf
  refine .mk (α := {i : Nat // i ≤ n ∧ firstS f n 0 = firstS f (n - i) i}) (fun i => ⟨[(3, .int .i64 i.1), (0, .lst none 1 n fun i => [.int .i64 (f i)])], [], up⟩) (fun i => n - i.1) ⟨0, Nat.zero_le _, rfl⟩ ⟨⟨leV_refl _, leV_refl _, trivial⟩, trivial, rfl, rfl⟩ ?_
  rintro ⟨i, hi, hf⟩
  conv => whnf
  split
  · rename_i hb
    have hlt : i < n := by
      have hb' : decide ((i : Int) < n) = true := hb
      simpa using hb'
    have hstep : firstS f (n - i) i = orE (f i) (firstS f (n - (i + 1)) (i + 1)) := by
      rw [show n - i = (n - (i + 1)) + 1 by omega]; rfl
    conv => whnf
    split
    rotate_left
    · rename_i h
      have h' : decide ((i : Int) < n) = false := h
      simp at h' <;> omega
    conv => whnf
    split
    · rename_i h2
      have h2 : (f i != 0) = true := h2
      conv => whnf
      split
      · conv => whnf
        refine ⟨?_, rfl⟩
        show IV.int .i64 (f i) = _
        rw [hf, hstep, orE_pos h2]
      · rename_i h3
        have h3 : decide ((i : Int) < n) = false := h3
        simp at h3; omega
    · rename_i h2
      have h2 : (f i != 0) = false := h2
      conv => whnf
      refine ⟨⟨i + 1, hlt, by rw [hf, hstep, orE_neg h2]⟩, ⟨⟨leV_int ?_, leV_refl _, trivial⟩, trivial, rfl, rfl⟩, ?_⟩
      · show w64 ((i : Int) + 1) = ((i + 1 : Nat) : Int)
        rw [w64, wrap_in] <;> omega
      · show n - (i + 1) < n - i
        omega
  · rename_i hb
    have : i = n := by
      have hb' : decide ((i : Int) < n) = false := hb
      simp at hb'; omega
    conv => whnf
    refine ⟨?_, rfl⟩
    rw [hf, this, Nat.sub_self]; rfl

theorem c_rf3 (up : List Ces) (f : Nat → List IV) (a b c : Int) (h0 : f 0 = [.int .i64 a]) (h1 : f 1 = [.int .i64 b]) (h2 : f 2 = [.int .i64 c]) : Cs gl n_nacelleref01_First up [.lst none 1 3 f] (.int .i64 (orE a (orE b c))) up := by
  have := c_rFirst (gl := gl) up 3 (by decide) fun i => [a, b, c].getD i 0
  have e : firstS (fun i => [a, b, c].getD i 0) 3 0 = orE a (orE b c) := by rw [← orE_right (orE a (orE b c)), orE_assoc, orE_assoc]; rfl
  rw [← e]
  refine Comp.le ?_ this
  refine ⟨⟨.inl rfl, rfl, rfl, fun i hi => ?_⟩, trivial⟩
  match i, hi with
  | 0, _ => exact h0
  | 1, _ => exact h1
  | 2, _ => exact h2
theorem c_rf4 (up : List Ces) (f : Nat → List IV) (a b c d : Int) (h0 : f 0 = [.int .i64 a]) (h1 : f 1 = [.int .i64 b]) (h2 : f 2 = [.int .i64 c]) (h3 : f 3 = [.int .i64 d]) : Cs gl n_nacelleref01_First up [.lst none 1 4 f] (.int .i64 (orE a (orE b (orE c d)))) up := by
  have := c_rFirst (gl := gl) up 4 (by decide) fun i => [a, b, c, d].getD i 0
  have e : firstS (fun i => [a, b, c, d].getD i 0) 4 0 = orE a (orE b (orE c d)) := by rw [← orE_right (orE a (orE b (orE c d))), orE_assoc, orE_assoc, orE_assoc]; rfl
  rw [← e]
  refine Comp.le ?_ this
  refine ⟨⟨.inl rfl, rfl, rfl, fun i hi => ?_⟩, trivial⟩
  match i, hi with
  | 0, _ => exact h0
  | 1, _ => exact h1
  | 2, _ => exact h2
  | 3, _ => exact h3

theorem c_rCheckFlow (up : List Ces) (w s p : Int) : Cs gl n_nacelleref03_CheckFlow up [flowI w s p] (.int .i64 (flowS w s p)) up := by
  refine mk h_nacelleref03_CheckFlow rfl rfl ?_
  conv => whnf
  refine .mk 11 (by kernel_rfl) ?_
  conv => whnf
  first | refine CALLQ.mk _ _ _ (leL_refl _) (c_CheckRange _ _ _ _) rfl ?_ | refine CALL0.mk _ _ _ _ _ (leL_refl _) (c_CheckRange _ _ _ _) rfl ?_
  conv => whnf
  first | refine CALLQ.mk _ _ _ (leL_refl _) (c_CheckRange _ _ _ _) rfl ?_ | refine CALL0.mk _ _ _ _ _ (leL_refl _) (c_CheckRange _ _ _ _) rfl ?_
  conv => whnf
  first | refine CALLQ.mk _ _ _ (leL_refl _) (c_CheckAngle _ _) rfl ?_ | refine CALL0.mk _ _ _ _ _ (leL_refl _) (c_CheckAngle _ _) rfl ?_
  conv => whnf
  first | refine CALLQ.mk _ _ _ (leL_refl _) (c_rf3 _ _ _ _ _ rfl rfl rfl) rfl ?_ | refine CALL0.mk _ _ _ _ _ (leL_refl _) (c_rf3 _ _ _ _ _ rfl rfl rfl) rfl ?_
  conv => whnf
  exact ⟨rfl, rfl⟩

theorem c_rCheckPolar (up : List Ces) (nl nd : Nat) (lf df : Nat → Int) : Cs gl n_nacelleref03_CheckPolar up [.agg [.lst none 1 nl fun i => [.int .i64 (lf i)], .lst none 1 nd fun i => [.int .i64 (df i)]]] (.int .i64 (polarS nl lf nd df)) up := by
  refine mk h_nacelleref03_CheckPolar rfl rfl ?_
  rw [polarS_eq]
  conv => whnf
  split
  · rename_i h
    have h : ((nl : Int) == 0) = true := h
    conv => whnf
    refine ⟨?_, rfl⟩
    rw [h]; rfl
  · rename_i h1
    have h1 : ((nl : Int) == 0) = false := h1
    rw [h1]
    conv => whnf
    split
    · rename_i h
      have h : decide ((nl : Int) > 32) = true := h
      conv => whnf
      refine ⟨?_, rfl⟩
      rw [h]; rfl
    · rename_i h2
      have h2 : decide ((nl : Int) > 32) = false := h2
      rw [h2]
      conv => whnf
      split
      · rename_i h
        have h : ((nd : Int) != nl) = true := h
        conv => whnf
        refine ⟨?_, rfl⟩
        rw [h]; rfl
      · rename_i h3
        have h3 : ((nd : Int) != nl) = false := h3
        rw [h3]
        have hk : orE (orE (bif false then 12 else 0) (orE (bif false then 5 else 0) (bif false then 2 else 0))) (orE (firstS (liftS lf) nl 0) (firstS (fun i => withinS (df i) 0 1000) nd 0)) = orE (firstS (liftS lf) nl 0) (firstS (fun i => withinS (df i) 0 1000) nd 0) := rfl
        rw [hk]
        clear hk
        have h3' : nd = nl := by simp at h3; omega
        subst h3'
        have h2' : nd ≤ 32 := by simp at h2; omega
        obtain ⟨R, hR⟩ : ∃ R, R = orE (firstS (liftS lf) nd 0) (firstS (fun i => withinS (df i) 0 1000) nd 0) := ⟨_, rfl⟩
        rw [← hR]
        conv => whnf
        refine .mk (α := {i : Nat // i ≤ nd ∧ R = orE (firstS (liftS lf) (nd - i) i) (firstS (fun i => withinS (df i) 0 1000) nd 0)}) (fun i => ⟨[(3, .int .i64 i.1), (1, .ptr 0 1 0)], [(1, [.lst none 1 nd fun i => [.int .i64 (lf i)], .lst none 1 nd fun i => [.int .i64 (df i)]])], up⟩) (fun i => nd - i.1) ⟨0, Nat.zero_le _, hR⟩ ⟨⟨leV_refl _, leV_refl _, trivial⟩, ⟨leL_refl _, trivial⟩, rfl, rfl⟩ ?_
        rintro ⟨i, hi, hf⟩
        conv => whnf
        split
        · rename_i hb
          have hlt : i < nd := by
            have hb' : decide ((i : Int) < nd) = true := hb
            simpa using hb'
          have hstep : firstS (liftS lf) (nd - i) i = orE (liftS lf i) (firstS (liftS lf) (nd - (i + 1)) (i + 1)) := by
            rw [show nd - i = (nd - (i + 1)) + 1 by omega]; rfl
          have hm : w64 ((i : Int) - 1) = (i : Int) - 1 := by rw [w64, wrap_in] <;> omega
          have hw : w64 ((i : Int) + 1) = ((i + 1 : Nat) : Int) := by rw [w64, wrap_in] <;> omega
          conv => whnf
          split
          rotate_left
          · rename_i h
            have h' : decide ((i : Int) < nd) = false := h
            simp at h' <;> omega
          conv => whnf
          refine .mk _ _ _ _ _ (leL_refl _) (c_CheckRange _ _ _ _) rfl ?_
          conv => whnf
          split
          · rename_i h
            have h : (withinS (lf i) 0 1000 != 0) = true := h
            have hl : liftS lf i = withinS (lf i) 0 1000 := orE_pos h
            conv => whnf
            refine ⟨?_, rfl⟩
            show IV.int .i64 (withinS (lf i) 0 1000) = _
            rw [hf, hstep, hl, orE_pos h, orE_pos h]
          · rename_i h
            have h : (withinS (lf i) 0 1000 != 0) = false := h
            have hl : liftS lf i = bif decide (lf i < lf (i - 1)) then 11 else 0 := orE_neg h
            conv => whnf
            refine .mk 16 (by kernel_rfl) ?_
            conv => whnf
            split
            · rename_i h0
              have h0 : decide ((i : Int) > 0) = true := h0
              have h0' : 0 < i := by simpa using h0
              conv => whnf
              split
              rotate_left
              · rename_i h
                have h' : decide ((i : Int) < nd) = false := h
                simp at h' <;> omega
              conv => whnf
              rw [show IntKind.i64.wrap ((i : Int) - 1) = ((i - 1 : Nat) : Int) by show w64 _ = _; rw [hm]; omega]
              split
              rotate_left
              · rename_i h
                have h' : decide (0 ≤ ((i - 1 : Nat) : Int)) = false := h
                simp at h' <;> omega
              conv => whnf
              split
              rotate_left
              · rename_i h
                have h' : decide (((i - 1 : Nat) : Int) < nd) = false := h
                simp at h' <;> omega
              conv => whnf
              split
              · rename_i g
                have g : decide (lf i < lf (i - 1)) = true := g
                rw [g] at hl
                conv => whnf
                refine ⟨?_, rfl⟩
                rw [hf, hstep, hl]; rfl
              · rename_i g
                have g : decide (lf i < lf (i - 1)) = false := g
                rw [g] at hl
                conv => whnf
                exact ⟨⟨i + 1, hlt, by rw [hf, hstep, hl]; rfl⟩, ⟨⟨leV_int hw, leV_refl _, trivial⟩, ⟨leL_refl _, trivial⟩, rfl, rfl⟩, (by show nd - (i + 1) < nd - i; omega)⟩
            · rename_i h0
              have h0 : decide ((i : Int) > 0) = false := h0
              have h0' : i = 0 := by simpa using h0
              have g : decide (lf i < lf (i - 1)) = false := by subst h0'; simp
              rw [g] at hl
              conv => whnf
              exact ⟨⟨i + 1, hlt, by rw [hf, hstep, hl]; rfl⟩, ⟨⟨leV_int hw, leV_refl _, trivial⟩, ⟨leL_refl _, trivial⟩, rfl, rfl⟩, (by show nd - (i + 1) < nd - i; omega)⟩
        · rename_i hb
          have : i = nd := by
            have hb' : decide ((i : Int) < nd) = false := hb
            simp at hb'; omega
          have hz : R = firstS (fun i => withinS (df i) 0 1000) nd 0 := by rw [hf, this, Nat.sub_self]; rfl
          conv => whnf
          refine .mk (α := {i : Nat // i ≤ nd ∧ R = firstS (fun i => withinS (df i) 0 1000) (nd - i) i}) (fun i => ⟨[(5, .int .i64 i.1), (1, .ptr 0 1 0)], [(1, [.lst none 1 nd fun i => [.int .i64 (lf i)], .lst none 1 nd fun i => [.int .i64 (df i)]])], up⟩) (fun i => nd - i.1) ⟨0, Nat.zero_le _, hz⟩ ⟨⟨leV_refl _, leV_refl _, trivial⟩, ⟨leL_refl _, trivial⟩, rfl, rfl⟩ ?_
          rintro ⟨j, hj, hg⟩
          conv => whnf
          split
          · rename_i hb
            have hlt : j < nd := by
              have hb' : decide ((j : Int) < nd) = true := hb
              simpa using hb'
            have hstep : firstS (fun i => withinS (df i) 0 1000) (nd - j) j = orE (withinS (df j) 0 1000) (firstS (fun i => withinS (df i) 0 1000) (nd - (j + 1)) (j + 1)) := by
              rw [show nd - j = (nd - (j + 1)) + 1 by omega]; rfl
            have hw : w64 ((j : Int) + 1) = ((j + 1 : Nat) : Int) := by rw [w64, wrap_in] <;> omega
            conv => whnf
            split
            rotate_left
            · rename_i h
              have h' : decide ((j : Int) < nd) = false := h
              simp at h' <;> omega
            conv => whnf
            refine .mk _ _ _ _ _ (leL_refl _) (c_CheckRange _ _ _ _) rfl ?_
            conv => whnf
            split
            · rename_i h
              have h : (withinS (df j) 0 1000 != 0) = true := h
              conv => whnf
              refine ⟨?_, rfl⟩
              show IV.int .i64 (withinS (df j) 0 1000) = _
              rw [hg, hstep, orE_pos h]
            · rename_i h
              have h : (withinS (df j) 0 1000 != 0) = false := h
              conv => whnf
              exact ⟨⟨j + 1, hlt, by rw [hg, hstep, orE_neg h]⟩, ⟨⟨leV_int hw, leV_refl _, trivial⟩, ⟨leL_refl _, trivial⟩, rfl, rfl⟩, (by show nd - (j + 1) < nd - j; omega)⟩
          · rename_i hb
            have : j = nd := by
              have hb' : decide ((j : Int) < nd) = false := hb
              simp at hb'; omega
            conv => whnf
            refine ⟨?_, rfl⟩
            rw [hg, this, Nat.sub_self]; rfl

theorem bladeS_eq3 (nl nd nr : Nat) (lf df r1 r2 r3 r4 : Nat → Int) : bladeS nl lf nd df nr r1 r2 r3 r4 =
    orE (polarS nl lf nd df) (orE (bif (nr : Int) == 0 then 12 else 0) (orE (bif decide ((nr : Int) > 16) then 5 else 0) (firstS (ringAt r1 r2 r3 r4) nr 0))) := rfl

theorem c_rCheckBlade (up : List Ces) (b : Bl) : Cs gl n_nacelleref03_CheckBlade up [b.iv] (.int .i64 b.err) up := by
  obtain ⟨nl, nd, nr, lf, df, r1, r2, r3, r4⟩ := b
  refine mk h_nacelleref03_CheckBlade rfl rfl ?_
  show ibody _ _ _ _ _ fun r up' => r = .int .i64 (bladeS nl lf nd df nr r1 r2 r3 r4) ∧ _
  rw [bladeS_eq3]
  conv => whnf
  refine .mk _ _ _ _ _ (leL_refl _) (c_rCheckPolar _ _ _ _ _) rfl ?_
  conv => whnf
  split
  · rename_i h
    have h : (polarS nl lf nd df != 0) = true := h
    conv => whnf
    refine ⟨?_, rfl⟩
    rw [orE_pos h]
  · rename_i h
    have h : (polarS nl lf nd df != 0) = false := h
    rw [orE_neg h]
    clear h
    conv => whnf
    split
    · rename_i h
      have h : ((nr : Int) == 0) = true := h
      conv => whnf
      refine ⟨?_, rfl⟩
      rw [h]; rfl
    · rename_i h1
      have h1 : ((nr : Int) == 0) = false := h1
      rw [h1]
      conv => whnf
      split
      · rename_i h
        have h : decide ((nr : Int) > 16) = true := h
        conv => whnf
        refine ⟨?_, rfl⟩
        rw [h]; rfl
      · rename_i h2
        have h2 : decide ((nr : Int) > 16) = false := h2
        rw [h2]
        have h2' : nr ≤ 16 := by simp at h2; omega
        obtain ⟨R, hR⟩ : ∃ R, R = firstS (ringAt r1 r2 r3 r4) nr 0 := ⟨_, rfl⟩
        rw [show orE (bif false then 12 else 0) (orE (bif false then 5 else 0) (firstS (ringAt r1 r2 r3 r4) nr 0)) = R from hR.symm]
        conv => whnf
        refine .mk (α := {i : Nat // i ≤ nr ∧ R = firstS (ringAt r1 r2 r3 r4) (nr - i) i}) (fun i => ⟨[(4, .int .i64 i.1), (1, .ptr 0 1 0)], [(1, [.lst none 1 nl fun i => [.int .i64 (lf i)], .lst none 1 nd fun i => [.int .i64 (df i)], .lst none 4 nr fun i => [.int .i64 (r1 i), .int .i64 (r2 i), .int .i64 (r3 i), .int .i64 (r4 i)]])], up⟩) (fun i => nr - i.1) ⟨0, Nat.zero_le _, hR⟩ ⟨⟨leV_refl _, leV_refl _, trivial⟩, ⟨leL_refl _, trivial⟩, rfl, rfl⟩ ?_
        rintro ⟨i, hi, hf⟩
        conv => whnf
        split
        · rename_i hb
          have hlt : i < nr := by
            have hb' : decide ((i : Int) < nr) = true := hb
            simpa using hb'
          have hstep : firstS (ringAt r1 r2 r3 r4) (nr - i) i = orE (ringAt r1 r2 r3 r4 i) (firstS (ringAt r1 r2 r3 r4) (nr - (i + 1)) (i + 1)) := by
            rw [show nr - i = (nr - (i + 1)) + 1 by omega]; rfl
          have hm : w64 ((i : Int) - 1) = (i : Int) - 1 := by rw [w64, wrap_in] <;> omega
          have hw : w64 ((i : Int) + 1) = ((i + 1 : Nat) : Int) := by rw [w64, wrap_in] <;> omega
          conv => whnf
          split
          rotate_left
          · rename_i h
            have h' : decide ((i : Int) < nr) = false := h
            simp at h' <;> omega
          conv => whnf
          refine .mk 14 (by kernel_rfl) ?_
          conv => whnf
          first | refine CALLQ.mk _ _ _ (leL_refl _) (c_CheckRange _ _ _ _) rfl ?_ | refine CALL0.mk _ _ _ _ _ (leL_refl _) (c_CheckRange _ _ _ _) rfl ?_
          conv => whnf
          first | refine CALLQ.mk _ _ _ (leL_refl _) (c_CheckRange _ _ _ _) rfl ?_ | refine CALL0.mk _ _ _ _ _ (leL_refl _) (c_CheckRange _ _ _ _) rfl ?_
          conv => whnf
          first | refine CALLQ.mk _ _ _ (leL_refl _) (c_CheckRange _ _ _ _) rfl ?_ | refine CALL0.mk _ _ _ _ _ (leL_refl _) (c_CheckRange _ _ _ _) rfl ?_
          conv => whnf
          first | refine CALLQ.mk _ _ _ (leL_refl _) (c_CheckRange _ _ _ _) rfl ?_ | refine CALL0.mk _ _ _ _ _ (leL_refl _) (c_CheckRange _ _ _ _) rfl ?_
          conv => whnf
          first | refine CALLQ.mk _ _ _ (leL_refl _) (c_rf4 _ _ _ _ _ _ rfl rfl rfl rfl) rfl ?_ | refine CALL0.mk _ _ _ _ _ (leL_refl _) (c_rf4 _ _ _ _ _ _ rfl rfl rfl rfl) rfl ?_
          conv => whnf
          split
          · rename_i h
            have h : (ringS (r1 i) (r2 i) (r3 i) (r4 i) != 0) = true := h
            have hl : ringAt r1 r2 r3 r4 i = ringS (r1 i) (r2 i) (r3 i) (r4 i) := orE_pos h
            conv => whnf
            refine ⟨?_, rfl⟩
            show IV.int .i64 (ringS (r1 i) (r2 i) (r3 i) (r4 i)) = _
            rw [hf, hstep, hl, orE_pos h]
          · rename_i h
            have h : (ringS (r1 i) (r2 i) (r3 i) (r4 i) != 0) = false := h
            have hl : ringAt r1 r2 r3 r4 i = bif decide (0 < i) && decide (r1 i ≤ r1 (i - 1)) then 11 else 0 := orE_neg h
            conv => whnf
            refine .mk 14 (by kernel_rfl) ?_
            conv => whnf
            split
            · rename_i h0
              have h0 : decide ((i : Int) > 0) = true := h0
              have h0' : 0 < i := by simpa using h0
              rw [decide_eq_true h0', Bool.true_and] at hl
              conv => whnf
              rw [show IntKind.i64.wrap ((i : Int) - 1) = ((i - 1 : Nat) : Int) by show w64 _ = _; rw [hm]; omega]
              split
              rotate_left
              · rename_i h
                have h' : decide (0 ≤ ((i - 1 : Nat) : Int)) = false := h
                simp at h' <;> omega
              conv => whnf
              split
              rotate_left
              · rename_i h
                have h' : decide (((i - 1 : Nat) : Int) < nr) = false := h
                simp at h' <;> omega
              conv => whnf
              split
              · rename_i g
                have g : decide (r1 i ≤ r1 (i - 1)) = true := g
                rw [g] at hl
                conv => whnf
                refine ⟨?_, rfl⟩
                rw [hf, hstep, hl]; rfl
              · rename_i g
                have g : decide (r1 i ≤ r1 (i - 1)) = false := g
                rw [g] at hl
                conv => whnf
                exact ⟨⟨i + 1, hlt, by rw [hf, hstep, hl]; rfl⟩, ⟨⟨leV_int hw, leV_refl _, trivial⟩, ⟨leL_refl _, trivial⟩, rfl, rfl⟩, (by show nr - (i + 1) < nr - i; omega)⟩
            · rename_i h0
              have h0 : decide ((i : Int) > 0) = false := h0
              have h0' : ¬ 0 < i := by simpa using h0
              rw [decide_eq_false h0', Bool.false_and] at hl
              conv => whnf
              exact ⟨⟨i + 1, hlt, by rw [hf, hstep, hl]; rfl⟩, ⟨⟨leV_int hw, leV_refl _, trivial⟩, ⟨leL_refl _, trivial⟩, rfl, rfl⟩, (by show nr - (i + 1) < nr - i; omega)⟩
        · rename_i hb
          have : i = nr := by
            have hb' : decide ((i : Int) < nr) = false := hb
            simp at hb'; omega
          conv => whnf
          refine ⟨?_, rfl⟩
          rw [hf, this, Nat.sub_self]; rfl

def Bl.short (b : Bl) : Bool :=
  (decide ((b.nl : Int) ≤ 5) || (b.nl : Int) == 33) && ((decide ((b.nd : Int) ≤ 5) || (b.nd : Int) == 33) && (decide ((b.nr : Int) ≤ 3) || (b.nr : Int) == 17))

theorem c_Short (up : List Ces) (b : Bl) : Cs gl n_nacelleref03_Short up [b.iv] (.bool b.short) up := by
  refine mk h_nacelleref03_Short rfl rfl ?_
  conv => whnf
  repeat' (split <;> (conv => whnf))
  all_goals (refine ⟨?_, rfl⟩; simp_all [Bl.short] <;> omega)

/-- Are the inflows of a valid blade few? -/
def lightS (b : Bl) (f : Fl) : Bool := decide (w64 ((w64 (1024 * f.w)).tdiv (w64 (f.s * b.r1 0))) ≤ 4096)

theorem c_Light (up : List Ces) (b : Bl) (f : Fl) (hb : b.err = 0) (hf : f.err = 0) : Cs gl n_nacelleref03_Light up [b.iv, f.iv] (.bool (lightS b f)) up := by
  refine mk h_nacelleref03_Light rfl rfl ?_
  obtain ⟨_, hn1, hn2, ok⟩ := Bl.good hb hf
  have o := ok 0 (by omega)
  have hw := o.w
  have hs := o.s
  have hr := o.r
  have b1 := mulB (x := f.s) (y := b.r1 0) (A := 1000) (B := 200) (by omega) (by omega) (by omega) (by omega)
  have b2 := Int.mul_pos (show 0 < f.s by omega) (show 0 < b.r1 0 by omega)
  have e : w64 (f.s * b.r1 0) = f.s * b.r1 0 := by rw [w64, wrap_in] <;> omega
  conv => whnf
  refine .mk 13 (by kernel_rfl) ?_
  conv => whnf
  split
  rotate_left
  · rename_i h
    have h' : decide ((0 : Int) < b.nr) = false := h
    simp at h' <;> omega
  conv => whnf
  split
  · conv => whnf
    exact ⟨rfl, rfl⟩
  · rename_i h
    have h' : (w64 (f.s * b.r1 0) != 0) = false := h
    rw [e] at h'
    simp at h'
    omega
end Go.Proofs.YtllmejkmogepjaaGreatDoor.Ix

/-
  Lw1: contracts of the laws' helpers: number, pair, span, blade, light.
-/
namespace Go.Proofs.YtllmejkmogepjaaGreatDoor.Ix
open Go.Proofs
set_option maxRecDepth 100000
set_option linter.unusedVariables false
set_option linter.unusedSimpArgs false
variable {gl : Nat → IV}

/-- A number, if there is no error. -/
def zE (e v : Int) : Int := bif e != 0 then 0 else v
theorem zE_pos {e v : Int} (h : (e != 0) = true) : zE e v = 0 := by unfold zE; rw [h]; rfl
theorem zE_neg {e v : Int} (h : (e != 0) = false) : zE e v = v := by unfold zE; rw [h]; rfl
theorem zE_0 (v : Int) : zE 0 v = v := rfl
theorem zE_ne {e v : Int} (h : e ≠ 0) : zE e v = 0 := zE_pos (by simpa using h)
theorem ne0 {e : Int} (h : (e != 0) = false) : e = 0 := by simpa using h

theorem tup_u2 (e x y : Int) : (bif e != 0 then IV.tup [.agg [.int .i64 0, .int .i64 0], .int .i64 e] else .tup [.agg [.int .i64 x, .int .i64 y], .int .i64 0]) = .tup [.agg [.int .i64 (zE e x), .int .i64 (zE e y)], .int .i64 e] := by
  cases h : (e != 0) with
  | true => rw [zE_pos h, zE_pos h]; rfl
  | false => rw [zE_neg h, zE_neg h, ne0 h]; rfl
theorem tup_u1 (e x : Int) : (bif e != 0 then IV.tup [.int .i64 0, .int .i64 e] else .tup [.int .i64 x, .int .i64 0]) = .tup [.int .i64 (zE e x), .int .i64 e] := by
  cases h : (e != 0) with
  | true => rw [zE_pos h]; rfl
  | false => rw [zE_neg h, ne0 h]; rfl

theorem c_rf2 (up : List Ces) (f : Nat → List IV) (a b : Int) (h0 : f 0 = [.int .i64 a]) (h1 : f 1 = [.int .i64 b]) : Cs gl n_nacelleref01_First up [.lst none 1 2 f] (.int .i64 (orE a b)) up := by
  have := c_rFirst (gl := gl) up 2 (by decide) fun i => [a, b].getD i 0
  have e : firstS (fun i => [a, b].getD i 0) 2 0 = orE a b := by rw [← orE_right (orE a b), orE_assoc]; rfl
  rw [← e]
  refine Comp.le ?_ this
  refine ⟨⟨.inl rfl, rfl, rfl, fun i hi => ?_⟩, trivial⟩
  match i, hi with
  | 0, _ => exact h0
  | 1, _ => exact h1

theorem c_number (up : List Ces) (x e bad want : Int) (h : e = bad) (h1 : bad ≠ 0 → x = 0) (h2 : bad = 0 → x = want) :
    Cs gl n_nacellelaw03_number up [.int .i64 x, .int .i64 e, .int .i64 bad, .int .i64 want] (.bool true) up := by
  refine mk h_nacellelaw03_number rfl rfl ?_
  subst h
  conv => whnf
  repeat' (split <;> (conv => whnf))
  all_goals (refine ⟨?_, rfl⟩; simp_all)

/-- A blade's cells, the lists its own. -/
abbrev bladeO (b : Bl) (x y z : Nat) : IV :=
  .agg [.lst (some x) 1 b.nl fun i => [.int .i64 (b.lf i)], .lst (some y) 1 b.nd fun i => [.int .i64 (b.df i)], .lst (some z) 4 b.nr fun i => [.int .i64 (b.r1 i), .int .i64 (b.r2 i), .int .i64 (b.r3 i), .int .i64 (b.r4 i)]]

theorem c_blade (up : List Ces) (b : Bl) (hl : b.nl ≤ 1000000) (hd : b.nd ≤ 1000000) (hr : b.nr ≤ 1000000) : Cs gl n_nacellelaw03_blade up [b.iv] (bladeO b 10 15 29) up := by
  refine mk h_nacellelaw03_blade rfl rfl ?_
  conv => whnf
  refine .mk 14 (by kernel_rfl) ?_
  conv => whnf
  split
  rotate_left
  · rename_i h
    have h' : decide (b.nl ≤ 1073741824) = false := h
    simp at h' <;> omega
  conv => whnf
  split
  rotate_left
  · rename_i h
    have h' : decide (b.nd ≤ 1073741824) = false := h
    simp at h' <;> omega
  conv => whnf
  let R : Nat → List IV := fun i => [.int .i64 (b.r1 i), .int .i64 (b.r2 i), .int .i64 (b.r3 i), .int .i64 (b.r4 i)]
  refine .mk (α := {k : Nat // k ≤ b.nr}) (fun k => ⟨[(21, .int .i64 k.1), (20, .int .i64 b.nr), (19, .lst none 4 b.nr R), (2, .ptr 0 2 0), (3, .ptr 0 3 0)],
    [(3, [.lst (some 10) 1 b.nl fun i => [.int .i64 (b.lf i)], .lst (some 15) 1 b.nd fun i => [.int .i64 (b.df i)], .lst (some 29) 4 k.1 R]), (2, [.nilS, .nilS, .nilS])], up⟩) (fun k => b.nr - k.1) ⟨0, Nat.zero_le _⟩ ⟨?_, ?_, rfl, rfl⟩ ?_
  · exact ⟨leV_refl _, leV_refl _, leV_refl _, leV_refl _, leV_refl _, trivial⟩
  · exact ⟨⟨leV_refl _, leV_refl _, rfl, trivial⟩, leL_refl _, trivial⟩
  · rintro ⟨k, hk⟩
    have hw : w64 ((k : Int) + 1) = ((k + 1 : Nat) : Int) := by rw [w64, wrap_in] <;> omega
    conv => whnf
    split
    · rename_i hb
      have hlt : k < b.nr := by
        have hb' : decide ((k : Int) < b.nr) = true := hb
        simpa using hb'
      conv => whnf
      split
      rotate_left
      · rename_i h
        have h' : decide ((k : Int) < b.nr) = false := h
        simp at h' <;> omega
      conv => whnf
      split
      rotate_left
      · rename_i h
        have h' : decide (k + 1 ≤ 1073741824) = false := h
        simp at h' <;> omega
      conv => whnf
      refine ⟨⟨k + 1, hlt⟩, ⟨⟨leV_int hw, leV_refl _, leV_refl _, leV_refl _, leV_refl _, trivial⟩, ⟨⟨leV_refl _, leV_refl _, ⟨.inr rfl, rfl, rfl, fun j hj => ?_⟩, trivial⟩, leL_refl _, trivial⟩, rfl, rfl⟩, (by show b.nr - (k + 1) < b.nr - k; omega)⟩
      show (if j < k then R j else litF 4 (R k) (j - k)) = R j
      split
      · rfl
      · have : j = k := by have : j < k + 1 := hj; omega
        subst this
        rw [Nat.sub_self]
        rfl
    · rename_i hb
      have : k = b.nr := by
        have hb' : decide ((k : Int) < b.nr) = false := hb
        simp at hb'; omega
      subst this
      conv => whnf
      exact ⟨rfl, rfl⟩
end Go.Proofs.YtllmejkmogepjaaGreatDoor.Ix

/-
  Ro9: contracts of the functions of the package rotor, the ninth part: Inflow, Class, Times, Conjugate, Best, Limit.
-/
namespace Go.Proofs.YtllmejkmogepjaaGreatDoor.Ix
open Go.Proofs
set_option maxRecDepth 100000
set_option linter.unusedVariables false
set_option linter.unusedSimpArgs false
variable {gl : Nat → IV}

/-- The inflow of a ring at an induction, or the error. -/
def inflR (b : Bl) (f : Fl) (ring a d : Int) : IV :=
  let e := orE (ringErr b f ring) (indErr a d)
  .tup [.int .i64 (bif e != 0 then 0 else b.infl f ring.toNat a d.toNat), .int .i64 e]

theorem c_Inflow (up : List Ces) (b : Bl) (f : Fl) (ring a d : Int) : Cs gl n_rotor_Inflow up [b.iv, f.iv, .int .i64 ring, .agg [.int .i64 a, .int .i64 d]] (inflR b f ring a d) up := by
  refine mk h_rotor_Inflow rfl rfl ?_
  unfold inflR
  simp only
  conv => whnf
  refine .mk 8 (by kernel_rfl) ?_
  conv => whnf
  first | refine CALLQ.mk _ _ _ (leL_refl _) (c_checkRing _ b f _) rfl ?_ | refine CALL0.mk _ _ _ _ _ (leL_refl _) (c_checkRing _ b f _) rfl ?_
  conv => whnf
  first | refine CALLQ.mk _ _ _ (leL_refl _) (c_IndCheck _ _ _) rfl ?_ | refine CALL0.mk _ _ _ _ _ (leL_refl _) (c_IndCheck _ _ _) rfl ?_
  conv => whnf
  first | refine CALLQ.mk _ _ _ (leL_refl _) (c_f2 _ _ _ _ rfl rfl) rfl ?_ | refine CALL0.mk _ _ _ _ _ (leL_refl _) (c_f2 _ _ _ _ rfl rfl) rfl ?_
  conv => whnf
  split
  · rename_i h
    have h' : (orE (ringErr b f ring) (indErr a d) != 0) = true := h
    conv => whnf
    refine ⟨?_, rfl⟩
    rw [h']; rfl
  · rename_i h
    have h' : (orE (ringErr b f ring) (indErr a d) != 0) = false := h
    have h0 : orE (ringErr b f ring) (indErr a d) = 0 := by simpa using h'
    rw [h']
    have hz := h0
    rw [orE_zero] at h0
    obtain ⟨g1, g2, g3, g4⟩ := ringErr_ok h0.1
    obtain ⟨n, rfl, k2, k3, k4⟩ := indErr_ok h0.2
    obtain ⟨_, _, _, ok⟩ := Bl.good g1 g2
    have hp := Int.pow_succ (2 : Int) n
    have hq := two_pos n
    conv => whnf
    refine .mk 12 (by kernel_rfl) ?_
    conv => whnf
    split
    rotate_left
    · rename_i h
      have h' : decide (0 ≤ ring) = false := h
      simp at h' <;> omega
    conv => whnf
    split
    rotate_left
    · rename_i h
      have h' : decide (ring < b.nr) = false := h
      simp at h' <;> omega
    conv => whnf
    first | refine CALLQ.mk _ _ _ (leL_refl _) (c_inflP _ b f ring.toNat (ok _ (by omega)) a _ (n + 1) (by omega) k3 (by omega) rfl) rfl ?_ | refine CALL0.mk _ _ _ _ _ (leL_refl _) (c_inflP _ b f ring.toNat (ok _ (by omega)) a _ (n + 1) (by omega) k3 (by omega) rfl) rfl ?_
    conv => whnf
    refine ⟨?_, rfl⟩
    rw [hz]; rfl

/-- The class of a ring for an inflow, or the error. -/
def classR (b : Bl) (f : Fl) (ring x : Int) : IV :=
  let e := orE (ringErr b f ring) (withinS x 0 999999999)
  .tup [.int .i64 (bif e != 0 then 0 else clsP b.nl (b.r3 ring.toNat) f.p x), .int .i64 e]

theorem classW_eq2 {n : Nat} {lf df : Nat → Int} {r c t tip w s p x : Int} (h : SecOK n lf df r c t tip w s p) (h1 : 0 ≤ x) (h2 : x ≤ 999999999) : classW n t p x = clsP n t p x := by
  have := h.t
  have := h.p
  have := h.n1
  unfold classW clsP
  rw [minW_eq, maxW_eq]
  have e1 : w64 (t + p) = t + p := by rw [w64, wrap_in] <;> omega
  rw [e1]
  have e2 : w64 (x - (t + p)) = x - (t + p) := by rw [w64, wrap_in] <;> omega
  have e3 : w64 ((n : Int) - 1) = n - 1 := by rw [w64, wrap_in] <;> omega
  rw [e2, e3]

def timesR (a b c d : Int) : IV :=
  let e := orE (pairS a b) (pairS c d)
  bif e != 0 then .tup [.agg [.int .i64 0, .int .i64 0], .int .i64 e] else .tup [.agg [.int .i64 (timesP a b c d).1, .int .i64 (timesP a b c d).2], .int .i64 0]

theorem c_Times (up : List Ces) (a b c d : Int) : Cs gl n_rotor_Times up [.agg [.int .i64 a, .int .i64 b], .agg [.int .i64 c, .int .i64 d]] (timesR a b c d) up := by
  refine mk h_rotor_Times rfl rfl ?_
  unfold timesR
  simp only
  conv => whnf
  refine .mk 6 (by kernel_rfl) ?_
  conv => whnf
  first | refine CALLQ.mk _ _ _ (leL_refl _) (c_PairCheck _ _ _) rfl ?_ | refine CALL0.mk _ _ _ _ _ (leL_refl _) (c_PairCheck _ _ _) rfl ?_
  conv => whnf
  first | refine CALLQ.mk _ _ _ (leL_refl _) (c_PairCheck _ _ _) rfl ?_ | refine CALL0.mk _ _ _ _ _ (leL_refl _) (c_PairCheck _ _ _) rfl ?_
  conv => whnf
  first | refine CALLQ.mk _ _ _ (leL_refl _) (c_f2 _ _ _ _ rfl rfl) rfl ?_ | refine CALL0.mk _ _ _ _ _ (leL_refl _) (c_f2 _ _ _ _ rfl rfl) rfl ?_
  conv => whnf
  split
  · rename_i h
    have h : (orE (pairS a b) (pairS c d) != 0) = true := h
    conv => whnf
    refine ⟨?_, rfl⟩
    rw [h]; rfl
  · rename_i h
    have h : (orE (pairS a b) (pairS c d) != 0) = false := h
    rw [h, cond_false]
    have h0 : orE (pairS a b) (pairS c d) = 0 := by simpa using h
    rw [orE_zero] at h0
    obtain ⟨k1, k2⟩ := pairS_ok h0.1
    obtain ⟨k3, k4⟩ := pairS_ok h0.2
    conv => whnf
    refine .mk _ _ _ _ _ (leL_refl _) (c_times _ _ _ _ _ k1 k2 k3 k4) rfl ?_
    conv => whnf
    exact ⟨rfl, rfl⟩

def conjR (a b : Int) : IV := bif pairS a b != 0 then .tup [.agg [.int .i64 0, .int .i64 0], .int .i64 (pairS a b)] else .tup [.agg [.int .i64 (a - b), .int .i64 (-b)], .int .i64 0]

/-- The error of two pitches. -/
def pitchErr (x y : Int) : Int := orE (withinS x (-64) 64) (orE (withinS y (-64) 64) (bif decide (y < x) then 11 else 0))

theorem c_checkPitches (up : List Ces) (x y : Int) : Cs gl n_rotor_checkPitches up [.int .i64 x, .int .i64 y] (.int .i64 (pitchErr x y)) up := by
  refine mk h_rotor_checkPitches rfl rfl ?_
  conv => whnf
  refine .mk _ _ _ _ _ (leL_refl _) (c_within _ _ _ _) rfl ?_
  conv => whnf
  refine .mk _ _ _ _ _ (leL_refl _) (c_within _ _ _ _) rfl ?_
  conv => whnf
  refine .mk _ _ _ _ _ (leL_refl _) (c_when _ _ _) rfl ?_
  conv => whnf
  refine .mk _ _ _ _ _ (leL_refl _) (c_f3 _ _ _ _ _ rfl rfl rfl) rfl ?_
  conv => whnf
  exact ⟨rfl, rfl⟩

theorem pitchErr_ok {x y : Int} (h : pitchErr x y = 0) : -64 ≤ x ∧ x ≤ y ∧ y ≤ 64 := by
  unfold pitchErr at h
  simp only [orE_zero, withinS_zero] at h
  rw [bif_zero (by decide)] at h
  simp at h
  omega

def Fl.at (f : Fl) (p : Int) : Fl := ⟨f.w, f.s, p⟩

theorem Fl.at_err {f : Fl} (h : f.err = 0) {p : Int} (h1 : -64 ≤ p) (h2 : p ≤ 64) : (f.at p).err = 0 := by
  unfold Fl.err flowS at *
  simp only [orE_zero, withinS_zero] at *
  exact ⟨h.1, h.2.1, h1, h2⟩

/-- The torques' sums, if all rings have brackets. -/
def Bl.tq (b : Bl) (f : Fl) (D : Nat) : Option (Int × Int) :=
  if allBr b f D then some (sumTo (fun i => (b.tor f i ((b.br f i D).getD 0) (D + 1)).1) b.nr, sumTo (fun i => (b.tor f i ((b.br f i D).getD 0) (D + 1)).2) b.nr) else none

def pitR (o : Option (Int × Int)) : IV := match o with
  | some t => .tup [.agg [.int .i64 t.1, .int .i64 t.2], .bool true]
  | none => .tup [.agg [.int .i64 0, .int .i64 0], .bool false]

theorem c_pitched (up : List Ces) (b : Bl) (f : Fl) (D : Nat) (hD : D < 12) (p : Int) (hb : b.err = 0) (hf : (f.at p).err = 0) :
    Cs gl n_rotor_pitched up [b.iv, f.iv, .int .i64 ((D + 1 : Nat) : Int), .int .i64 p] (pitR (b.tq (f.at p) D)) up := by
  refine mk h_rotor_pitched rfl rfl ?_
  obtain ⟨hnd, hn1, hn2, ok⟩ := Bl.good hb hf
  have hs := Int.pow_succ (2 : Int) D
  have he := fun up => c_each (gl := gl) up b (f.at p) D hD hb hf n_rotor_section_torque (fun i a => b.tor (f.at p) i a (D + 1)) fun up i a hi hbr => by
    have := br_rng (ok i hi) hbr
    exact c_torque up b (f.at p) i (ok i hi) hnd a (D + 1) (by omega) (by omega) (by omega)
  unfold Bl.tq
  conv => whnf
  by_cases hall : allBr b (f.at p) D
  · rw [eachR, if_pos hall] at he
    refine .mk _ _ _ _ _ (leL_refl _) (he _) rfl ?_
    conv => whnf
    refine .mk _ _ _ _ _ (leL_refl _) (c_sum _ _ hn2 _ _ (fun i hi => by obtain ⟨a, ha⟩ := Option.isSome_iff_exists.1 (hall i hi); rw [ha]; exact tor_bound (ok i hi) hD ha)) rfl ?_
    conv => whnf
    refine ⟨?_, rfl⟩
    rw [if_pos hall]; rfl
  · rw [eachR, if_neg hall] at he
    refine .mk _ _ _ _ _ (leL_refl _) (he _) rfl ?_
    conv => whnf
    refine .mk _ _ _ _ _ (leL_refl _) (c_sum0 _) rfl ?_
    conv => whnf
    refine ⟨?_, rfl⟩
    rw [if_neg hall]; rfl

/-- The best one of k pitches. -/
def bestTo (g : Int → Option (Int × Int)) (x : Int) : Nat → Int × (Int × Int) × Bool
  | 0 => (0, (0, 0), false)
  | k + 1 => match g (x + k) with
    | some t => bif !(bestTo g x k).2.2 || decide (t.1 > (bestTo g x k).2.1.1) then (x + k, t, true) else bestTo g x k
    | none => bestTo g x k

def bestErr (b : Bl) (f : Fl) (d x y : Int) : Int := orE (allErr b f d) (pitchErr x y)
def bestOf (b : Bl) (f : Fl) (d x y : Int) : Int × (Int × Int) × Bool := bestTo (fun p => b.tq (f.at p) (d - 1).toNat) x (y + 1 - x).toNat
def bestR (b : Bl) (f : Fl) (d x y : Int) : IV :=
  bif bestErr b f d x y != 0 then .tup [.int .i64 0, .agg [.int .i64 0, .int .i64 0], .int .i64 (bestErr b f d x y)] else
    .tup [.int .i64 (bestOf b f d x y).1, .agg [.int .i64 (bestOf b f d x y).2.1.1, .int .i64 (bestOf b f d x y).2.1.2], .int .i64 (bif !(bestOf b f d x y).2.2 then 7 else 0)]

theorem c_Best (up : List Ces) (b : Bl) (f : Fl) (d x y : Int) : Cs gl n_rotor_Best up [b.iv, f.iv, .int .i64 d, .int .i64 x, .int .i64 y] (bestR b f d x y) up := by
  refine mk h_rotor_Best rfl rfl ?_
  unfold bestR
  conv => whnf
  refine .mk _ _ _ _ _ (leL_refl _) (c_checkAll _ b f _) rfl ?_
  conv => whnf
  refine .mk _ _ _ _ _ (leL_refl _) (c_checkPitches _ _ _) rfl ?_
  conv => whnf
  refine .mk _ _ _ _ _ (leL_refl _) (c_f2 _ _ _ _ rfl rfl) rfl ?_
  conv => whnf
  split
  · rename_i h
    have h : (bestErr b f d x y != 0) = true := h
    conv => whnf
    refine ⟨?_, rfl⟩
    rw [h]; rfl
  · rename_i h
    have h : (bestErr b f d x y != 0) = false := h
    rw [h, cond_false]
    have h0 : bestErr b f d x y = 0 := by simpa using h
    unfold bestErr at h0
    rw [orE_zero] at h0
    obtain ⟨g1, g2, n, rfl, g3⟩ := allErr_ok h0.1
    obtain ⟨p1, p2, p3⟩ := pitchErr_ok h0.2
    clear h h0
    obtain ⟨N, hN⟩ : ∃ N : Nat, y + 1 - x = N := ⟨(y + 1 - x).toNat, by omega⟩
    have eB : bestOf b f ((n + 1 : Nat) : Int) x y = bestTo (fun p => b.tq (f.at p) n) x N := by
      unfold bestOf
      rw [hN, show (((n + 1 : Nat) : Int) - 1).toNat = n by omega]; rfl
    rw [eB]
    obtain ⟨g, hg⟩ : ∃ g : Int → Option (Int × Int), g = fun p => b.tq (f.at p) n := ⟨_, rfl⟩
    rw [← hg]
    have hpit : ∀ up p, -64 ≤ p → p ≤ 64 → Cs gl n_rotor_pitched up [b.iv, f.iv, .int .i64 ((n + 1 : Nat) : Int), .int .i64 p] (pitR (g p)) up := fun up p q1 q2 => by
      rw [hg]; exact c_pitched up b f n g3 p g1 (Fl.at_err g2 q1 q2)
    clear hg eB
    conv => whnf
    refine .mk (α := {k : Nat // k ≤ N}) (fun k => ⟨[(17, .int .i64 (x + k.1)), (16, .bool (bestTo g x k.1).2.2), (14, .int .i64 (bestTo g x k.1).1), (4, .int .i64 y), (2, .int .i64 ((n + 1 : Nat) : Int)), (5, .ptr 0 5 0), (6, .ptr 0 6 0), (11, .ptr 0 11 0), (15, .ptr 0 15 0)],
      [(15, [.int .i64 (bestTo g x k.1).2.1.1, .int .i64 (bestTo g x k.1).2.1.2]), (11, [.int .i64 0, .int .i64 0]), (6, [.int .i64 f.w, .int .i64 f.s, .int .i64 f.p]),
       (5, [.lst none 1 b.nl fun i => [.int .i64 (b.lf i)], .lst none 1 b.nd fun i => [.int .i64 (b.df i)], .lst none 4 b.nr fun i => [.int .i64 (b.r1 i), .int .i64 (b.r2 i), .int .i64 (b.r3 i), .int .i64 (b.r4 i)]])], up⟩) (fun k => N - k.1) ⟨0, Nat.zero_le _⟩ ⟨?_, ?_, rfl, rfl⟩ ?_
    · exact ⟨leV_int (by show x = x + ((0 : Nat) : Int); omega), leV_refl _, leV_refl _, leV_refl _, leV_refl _, leV_refl _, leV_refl _, leV_refl _, leV_refl _, trivial⟩
    · exact ⟨leL_refl _, leL_refl _, leL_refl _, leL_refl _, trivial⟩
    rintro ⟨k, hk⟩
    have hw : w64 (x + k + 1) = x + ((k + 1 : Nat) : Int) := by rw [w64, wrap_in] <;> omega
    conv => whnf
    split
    · rename_i h
      have h : decide (x + k ≤ y) = true := h
      have hlt : k < N := by simp at h; omega
      have hp := fun up => hpit up (x + k) (by omega) (by omega)
      have hstep : bestTo g x (k + 1) = match g (x + k) with
        | some t => bif !(bestTo g x k).2.2 || decide (t.1 > (bestTo g x k).2.1.1) then (x + k, t, true) else bestTo g x k
        | none => bestTo g x k := rfl
      cases hgk : g (x + k) with
      | none =>
        rw [hgk] at hp hstep
        simp only at hstep
        conv => whnf
        refine .mk _ _ _ _ _ (leL_refl _) (hp _) rfl ?_
        conv => whnf
        refine ⟨⟨k + 1, hlt⟩, ⟨⟨leV_int hw, ?_, ?_, leV_refl _, leV_refl _, leV_refl _, leV_refl _, leV_refl _, leV_refl _, trivial⟩, ⟨?_, leL_refl _, leL_refl _, leL_refl _, trivial⟩, rfl, rfl⟩, (by show N - (k + 1) < N - k; omega)⟩
        · simp only [hstep]; exact leV_refl _
        · simp only [hstep]; exact leV_refl _
        · simp only [hstep]; exact leL_refl _
      | some t =>
        rw [hgk] at hp hstep
        simp only at hstep
        obtain ⟨B, hB⟩ : ∃ B, B = bestTo g x k := ⟨_, rfl⟩
        rw [← hB] at hstep ⊢
        obtain ⟨b1, ⟨b2, b3⟩, b4⟩ := B
        conv => whnf
        refine .mk _ _ _ _ _ (leL_refl _) (hp _) rfl ?_
        conv => whnf
        cases b4 with
        | false =>
          simp only [Bool.not_false, Bool.true_or, cond_true] at hstep
          conv => whnf
          refine .mk 3 (by kernel_rfl) ?_
          conv => whnf
          refine ⟨⟨k + 1, hlt⟩, ⟨⟨leV_int hw, ?_, ?_, leV_refl _, leV_refl _, leV_refl _, leV_refl _, leV_refl _, leV_refl _, trivial⟩, ⟨?_, leL_refl _, leL_refl _, leL_refl _, trivial⟩, rfl, rfl⟩, (by show N - (k + 1) < N - k; omega)⟩
          · simp only [hstep]; exact leV_refl _
          · simp only [hstep]; exact leV_refl _
          · simp only [hstep]; exact leL_refl _
        | true =>
          simp only [Bool.not_true, Bool.false_or] at hstep
          conv => whnf
          split
          · rename_i h
            have h : decide (t.1 > b2) = true := h
            rw [h, cond_true] at hstep
            conv => whnf
            refine .mk 3 (by kernel_rfl) ?_
            conv => whnf
            refine ⟨⟨k + 1, hlt⟩, ⟨⟨leV_int hw, ?_, ?_, leV_refl _, leV_refl _, leV_refl _, leV_refl _, leV_refl _, leV_refl _, trivial⟩, ⟨?_, leL_refl _, leL_refl _, leL_refl _, trivial⟩, rfl, rfl⟩, (by show N - (k + 1) < N - k; omega)⟩
            · simp only [hstep]; exact leV_refl _
            · simp only [hstep]; exact leV_refl _
            · simp only [hstep]; exact leL_refl _
          · rename_i h
            have h : decide (t.1 > b2) = false := h
            rw [h, cond_false] at hstep
            conv => whnf
            refine ⟨⟨k + 1, hlt⟩, ⟨⟨leV_int hw, ?_, ?_, leV_refl _, leV_refl _, leV_refl _, leV_refl _, leV_refl _, leV_refl _, trivial⟩, ⟨?_, leL_refl _, leL_refl _, leL_refl _, trivial⟩, rfl, rfl⟩, (by show N - (k + 1) < N - k; omega)⟩
            · simp only [hstep]; exact leV_refl _
            · simp only [hstep]; exact leV_refl _
            · simp only [hstep]; exact leL_refl _
    · rename_i h
      have h : decide (x + k ≤ y) = false := h
      have : k = N := by simp at h; omega
      subst this
      conv => whnf
      refine .mk 6 (by kernel_rfl) ?_
      conv => whnf
      first | refine CALLQ.mk _ _ _ (leL_refl _) (c_when _ _ _) rfl ?_ | refine CALL0.mk _ _ _ _ _ (leL_refl _) (c_when _ _ _) rfl ?_
      conv => whnf
      exact ⟨rfl, rfl⟩

/-- The first of some pitches that keeps a limit. -/
def limTo (g : Int → Option (Int × Int)) (m : Int) : Nat → Int → Option Int
  | 0, _ => none
  | k + 1, p => match g p with
    | some t => bif decide (t.2 ≤ m) then some p else limTo g m k (p + 1)
    | none => limTo g m k (p + 1)

def limErr (b : Bl) (f : Fl) (d x y m : Int) : Int := orE (allErr b f d) (orE (pitchErr x y) (withinS m (-1152921504606846976) 1152921504606846976))
def limOf (b : Bl) (f : Fl) (d x y m : Int) : Option Int := limTo (fun p => b.tq (f.at p) (d - 1).toNat) m (y + 1 - x).toNat x
def limR (b : Bl) (f : Fl) (d x y m : Int) : IV :=
  bif limErr b f d x y m != 0 then .tup [.int .i64 0, .int .i64 (limErr b f d x y m)] else
    match limOf b f d x y m with
    | some p => .tup [.int .i64 p, .int .i64 0]
    | none => .tup [.int .i64 0, .int .i64 7]

theorem limTo_rng (g : Int → Option (Int × Int)) (m : Int) : ∀ (k : Nat) (p q : Int), limTo g m k p = some q → p ≤ q ∧ q < p + k
  | 0, p, q, h => by simp [limTo] at h
  | k + 1, p, q, h => by
    simp only [limTo] at h
    have ih := limTo_rng g m k (p + 1) q
    split at h
    · cases hc : decide (_ ≤ m) with
      | true => rw [hc, cond_true] at h; cases h; omega
      | false => rw [hc, cond_false] at h; have := ih h; omega
    · have := ih h; omega

theorem c_Limit (up : List Ces) (b : Bl) (f : Fl) (d x y m : Int) : Cs gl n_rotor_Limit up [b.iv, f.iv, .int .i64 d, .int .i64 x, .int .i64 y, .int .i64 m] (limR b f d x y m) up := by
  refine mk h_rotor_Limit rfl rfl ?_
  unfold limR
  conv => whnf
  refine .mk _ _ _ _ _ (leL_refl _) (c_checkAll _ b f _) rfl ?_
  conv => whnf
  refine .mk _ _ _ _ _ (leL_refl _) (c_checkPitches _ _ _) rfl ?_
  conv => whnf
  refine .mk _ _ _ _ _ (leL_refl _) (c_within _ _ _ _) rfl ?_
  conv => whnf
  refine .mk _ _ _ _ _ (leL_refl _) (c_f3 _ _ _ _ _ rfl rfl rfl) rfl ?_
  conv => whnf
  split
  · rename_i h
    have h : (limErr b f d x y m != 0) = true := h
    conv => whnf
    refine ⟨?_, rfl⟩
    rw [h]; rfl
  · rename_i h
    have h : (limErr b f d x y m != 0) = false := h
    rw [h, cond_false]
    have h0 : limErr b f d x y m = 0 := by simpa using h
    unfold limErr at h0
    simp only [orE_zero, withinS_zero] at h0
    obtain ⟨g1, g2, n, rfl, g3⟩ := allErr_ok h0.1
    obtain ⟨p1, p2, p3⟩ := pitchErr_ok h0.2.1
    clear h h0
    obtain ⟨N, hN⟩ : ∃ N : Nat, y + 1 - x = N := ⟨(y + 1 - x).toNat, by omega⟩
    have eB : limOf b f ((n + 1 : Nat) : Int) x y m = limTo (fun p => b.tq (f.at p) n) m N x := by
      unfold limOf
      rw [hN, show (((n + 1 : Nat) : Int) - 1).toNat = n by omega]; rfl
    rw [eB]
    obtain ⟨g, hg⟩ : ∃ g : Int → Option (Int × Int), g = fun p => b.tq (f.at p) n := ⟨_, rfl⟩
    rw [← hg]
    have hpit : ∀ up p, -64 ≤ p → p ≤ 64 → Cs gl n_rotor_pitched up [b.iv, f.iv, .int .i64 ((n + 1 : Nat) : Int), .int .i64 p] (pitR (g p)) up := fun up p q1 q2 => by
      rw [hg]; exact c_pitched up b f n g3 p g1 (Fl.at_err g2 q1 q2)
    clear hg eB
    obtain ⟨R, hR⟩ : ∃ R, R = limTo g m N x := ⟨_, rfl⟩
    rw [← hR]
    have hw1 : w64 (y + 1) = y + 1 := by rw [w64, wrap_in] <;> omega
    conv => whnf
    refine .mk (α := {k : Nat // k ≤ N ∧ R = limTo g m (N - k) (x + k)}) (fun k => ⟨[(16, .int .i64 (x + k.1)), (15, .int .i64 (y + 1)), (5, .int .i64 m), (4, .int .i64 y), (2, .int .i64 ((n + 1 : Nat) : Int)), (6, .ptr 0 6 0), (7, .ptr 0 7 0)],
      [(7, [.int .i64 f.w, .int .i64 f.s, .int .i64 f.p]),
       (6, [.lst none 1 b.nl fun i => [.int .i64 (b.lf i)], .lst none 1 b.nd fun i => [.int .i64 (b.df i)], .lst none 4 b.nr fun i => [.int .i64 (b.r1 i), .int .i64 (b.r2 i), .int .i64 (b.r3 i), .int .i64 (b.r4 i)]])], up⟩) (fun k => N - k.1) ⟨0, Nat.zero_le _, by rw [hR]; simp⟩ ⟨?_, ?_, rfl, rfl⟩ ?_
    · exact ⟨leV_int (by show x = x + ((0 : Nat) : Int); omega), leV_int hw1, leV_refl _, leV_refl _, leV_refl _, leV_refl _, leV_refl _, trivial⟩
    · exact ⟨leL_refl _, leL_refl _, trivial⟩
    rintro ⟨k, hk, hRk⟩
    have hw : w64 (x + k + 1) = x + ((k + 1 : Nat) : Int) := by rw [w64, wrap_in] <;> omega
    conv => whnf
    split
    · rename_i h
      have h : decide (x + k ≤ y) = true := h
      have hlt : k < N := by simp at h; omega
      have hp := fun up => hpit up (x + k) (by omega) (by omega)
      have hstep : limTo g m (N - k) (x + k) = match g (x + k) with
          | some t => bif decide (t.2 ≤ m) then some (x + k) else limTo g m (N - (k + 1)) (x + ((k + 1 : Nat) : Int))
          | none => limTo g m (N - (k + 1)) (x + ((k + 1 : Nat) : Int)) := by
        rw [show N - k = (N - (k + 1)) + 1 by omega, show x + ((k + 1 : Nat) : Int) = x + k + 1 by omega]; rfl
      cases hgk : g (x + k) with
      | none =>
        rw [hgk] at hp hstep
        conv => whnf
        refine .mk _ _ _ _ _ (leL_refl _) (hp _) rfl ?_
        conv => whnf
        exact ⟨⟨k + 1, hlt, by rw [hRk, hstep]⟩, ⟨⟨leV_int hw, leV_refl _, leV_refl _, leV_refl _, leV_refl _, leV_refl _, leV_refl _, trivial⟩, ⟨leL_refl _, leL_refl _, trivial⟩, rfl, rfl⟩, (by show N - (k + 1) < N - k; omega)⟩
      | some t =>
        rw [hgk] at hp hstep
        simp only at hstep
        conv => whnf
        refine .mk _ _ _ _ _ (leL_refl _) (hp _) rfl ?_
        conv => whnf
        split
        · rename_i h
          have h : decide (t.2 ≤ m) = true := h
          rw [h, cond_true] at hstep
          conv => whnf
          split
          · rename_i h
            have h : decide (x + k > y) = true := h
            simp at h; omega
          · conv => whnf
            refine ⟨?_, rfl⟩
            show IV.tup [.int .i64 (x + k), .int .i64 0] = _
            have hRR : R = some (x + k) := hRk.trans hstep
            rw [hRR]
        · rename_i h
          have h : decide (t.2 ≤ m) = false := h
          rw [h, cond_false] at hstep
          conv => whnf
          exact ⟨⟨k + 1, hlt, by rw [hRk, hstep]⟩, ⟨⟨leV_int hw, leV_refl _, leV_refl _, leV_refl _, leV_refl _, leV_refl _, leV_refl _, trivial⟩, ⟨leL_refl _, leL_refl _, trivial⟩, rfl, rfl⟩, (by show N - (k + 1) < N - k; omega)⟩
    · rename_i h
      have h : decide (x + k ≤ y) = false := h
      have : k = N := by simp at h; omega
      subst this
      rw [Nat.sub_self] at hRk
      conv => whnf
      split
      · conv => whnf
        refine ⟨?_, rfl⟩
        rw [hRk]; rfl
      · rename_i h
        have h : decide (y + 1 > y) = false := h
        simp at h; omega
end Go.Proofs.YtllmejkmogepjaaGreatDoor.Ix

/-
  Rr2: contracts of the reference's functions: powers, inductions, rings, inflows, classes, balances.
-/
namespace Go.Proofs.YtllmejkmogepjaaGreatDoor.Ix
open Go.Proofs
set_option maxRecDepth 100000
set_option linter.unusedVariables false
set_option linter.unusedSimpArgs false
variable {gl : Nat → IV}

theorem c_rfl2 (up : List Ces) (a b : Int) : Cs gl n_nacelleref01_First up [.lst none 1 2 (litF 1 [.int .i64 a, .int .i64 b])] (.int .i64 (orE a b)) up := c_rf2 up _ a b rfl rfl
theorem c_rfl3 (up : List Ces) (a b c : Int) : Cs gl n_nacelleref01_First up [.lst none 1 3 (litF 1 [.int .i64 a, .int .i64 b, .int .i64 c])] (.int .i64 (orE a (orE b c))) up := c_rf3 up _ a b c rfl rfl rfl
theorem c_rfl4 (up : List Ces) (a b c d : Int) : Cs gl n_nacelleref01_First up [.lst none 1 4 (litF 1 [.int .i64 a, .int .i64 b, .int .i64 c, .int .i64 d])] (.int .i64 (orE a (orE b (orE c d)))) up := c_rf4 up _ a b c d rfl rfl rfl rfl

theorem two_pow_le {d k : Nat} (h : d ≤ k) : (2 : Int) ^ d ≤ 2 ^ k := by
  have e : (2 : Int) ^ k = 2 ^ (k - d) * 2 ^ d := by rw [← Int.pow_add]; congr 1; omega
  rw [e]
  have h1 := two_pos d
  have h2 := two_pos (k - d)
  have := Int.mul_le_mul_of_nonneg_right (show (1 : Int) ≤ 2 ^ (k - d) by omega) (Int.le_of_lt h1)
  omega

theorem c_power (up : List Ces) (n : Nat) (hn : n ≤ 40) : Cs gl n_nacelleref03_power up [.int .i64 n] (.int .i64 (2 ^ n)) up := by
  refine mk h_nacelleref03_power rfl rfl ?_
  have h40 : (2 : Int) ^ 40 = 1099511627776 := by decide
  conv => whnf
  refine .mk (α := {k : Nat // k ≤ n}) (fun k => ⟨[(4, .int .i64 k.1), (3, .int .i64 (2 ^ k.1)), (0, .int .i64 n)], [], up⟩) (fun k => n - k.1) ⟨0, Nat.zero_le _⟩ ⟨⟨leV_refl _, leV_refl _, leV_refl _, trivial⟩, trivial, rfl, rfl⟩ ?_
  rintro ⟨k, hk⟩
  conv => whnf
  split
  · rename_i h
    have h : decide ((k : Int) < n) = true := h
    have hlt : k < n := by simp at h; omega
    have h1 := two_pow_le (d := k) (k := 40) (by omega)
    have h2 := two_pos k
    have e1 : w64 (2 * 2 ^ k) = 2 ^ (k + 1) := by rw [Int.pow_succ, w64, wrap_in] <;> omega
    have e2 : w64 ((k : Int) + 1) = ((k + 1 : Nat) : Int) := by rw [w64, wrap_in] <;> omega
    conv => whnf
    exact ⟨⟨k + 1, hlt⟩, ⟨⟨leV_int e2, leV_int e1, leV_refl _, trivial⟩, trivial, rfl, rfl⟩, (by show n - (k + 1) < n - k; omega)⟩
  · rename_i h
    have h : decide ((k : Int) < n) = false := h
    have : k = n := by simp at h; omega
    subst this
    conv => whnf
    exact ⟨rfl, rfl⟩

theorem c_rCheckDepth (up : List Ces) (d : Int) : Cs gl n_nacelleref03_CheckDepth up [.int .i64 d] (.int .i64 (withinS d 1 12)) up := by
  refine mk h_nacelleref03_CheckDepth rfl rfl ?_
  conv => whnf
  refine .mk _ _ _ _ _ (leL_refl _) (c_CheckRange _ _ _ _) rfl ?_
  conv => whnf
  exact ⟨rfl, rfl⟩

theorem c_rCheckInduction (up : List Ces) (a d : Int) : Cs gl n_nacelleref03_CheckInduction up [.agg [.int .i64 a, .int .i64 d]] (.int .i64 (indErr a d)) up := by
  refine mk h_nacelleref03_CheckInduction rfl rfl ?_
  conv => whnf
  refine .mk _ _ _ _ _ (leL_refl _) (c_rCheckDepth _ _) rfl ?_
  conv => whnf
  split
  · rename_i h
    have h' : (withinS d 1 12 != 0) = true := h
    conv => whnf
    refine ⟨?_, rfl⟩
    unfold indErr
    rw [orE_pos h']
  · rename_i h
    have h' : (withinS d 1 12 != 0) = false := h
    have h0 : withinS d 1 12 = 0 := by simpa using h'
    rw [withinS_zero] at h0
    have e : w64 (d - 1) = ((d - 1).toNat : Int) := by rw [w64, wrap_in] <;> omega
    have hp := fun up => c_power (gl := gl) up (d - 1).toNat (by omega)
    rw [← e] at hp
    conv => whnf
    first
      | refine .mk 0 (by decide +kernel) ?_
      | refine .mk 1 (by decide +kernel) ?_
      | refine .mk 2 (by decide +kernel) ?_
      | refine .mk 3 (by decide +kernel) ?_
      | refine .mk 4 (by decide +kernel) ?_
      | refine .mk 5 (by decide +kernel) ?_
      | refine .mk 6 (by decide +kernel) ?_
      | refine .mk 7 (by decide +kernel) ?_
      | refine .mk 8 (by decide +kernel) ?_
      | refine .mk 9 (by decide +kernel) ?_
      | refine .mk 10 (by decide +kernel) ?_
      | refine .mk 11 (by decide +kernel) ?_
      | refine .mk 12 (by decide +kernel) ?_
      | refine .mk 13 (by decide +kernel) ?_
      | refine .mk 14 (by decide +kernel) ?_
      | refine .mk 15 (by decide +kernel) ?_
      | refine .mk 16 (by decide +kernel) ?_
      | refine .mk 17 (by decide +kernel) ?_
      | refine .mk 18 (by decide +kernel) ?_
      | refine .mk 19 (by decide +kernel) ?_
      | refine .mk 20 (by decide +kernel) ?_
      | refine .mk 21 (by decide +kernel) ?_
      | refine .mk 22 (by decide +kernel) ?_
      | refine .mk 23 (by decide +kernel) ?_
      | refine .mk 24 (by decide +kernel) ?_
      | refine .mk 25 (by decide +kernel) ?_
      | refine .mk 26 (by decide +kernel) ?_
      | refine .mk 27 (by decide +kernel) ?_
      | refine .mk 28 (by decide +kernel) ?_
      | refine .mk 29 (by decide +kernel) ?_
      | refine .mk 30 (by decide +kernel) ?_
      | refine .mk 31 (by decide +kernel) ?_
      | refine .mk 32 (by decide +kernel) ?_
      | refine .mk 33 (by decide +kernel) ?_
      | refine .mk 34 (by decide +kernel) ?_
      | refine .mk 35 (by decide +kernel) ?_
      | refine .mk 36 (by decide +kernel) ?_
      | refine .mk 37 (by decide +kernel) ?_
      | refine .mk 38 (by decide +kernel) ?_
      | refine .mk 39 (by decide +kernel) ?_
      | refine .mk 40 (by decide +kernel) ?_
      | refine .mk 41 (by decide +kernel) ?_
    conv => whnf
    first | refine CALLQ.mk _ _ _ (leL_refl _) (hp _) rfl ?_ | refine CALL0.mk _ _ _ _ _ (leL_refl _) (hp _) rfl ?_
    conv => whnf
    first | refine CALLQ.mk _ _ _ (leL_refl _) (c_CheckRange _ _ _ _) rfl ?_ | refine CALL0.mk _ _ _ _ _ (leL_refl _) (c_CheckRange _ _ _ _) rfl ?_
    conv => whnf
    refine ⟨?_, rfl⟩
    unfold indErr
    rw [orE_neg h']

theorem c_rCheckRing (up : List Ces) (b : Bl) (f : Fl) (ring : Int) : Cs gl n_nacelleref03_CheckRing up [b.iv, f.iv, .int .i64 ring] (.int .i64 (ringErr b f ring)) up := by
  refine mk h_nacelleref03_CheckRing rfl rfl ?_
  conv => whnf
  first
    | refine .mk 0 (by decide +kernel) ?_
    | refine .mk 1 (by decide +kernel) ?_
    | refine .mk 2 (by decide +kernel) ?_
    | refine .mk 3 (by decide +kernel) ?_
    | refine .mk 4 (by decide +kernel) ?_
    | refine .mk 5 (by decide +kernel) ?_
    | refine .mk 6 (by decide +kernel) ?_
    | refine .mk 7 (by decide +kernel) ?_
    | refine .mk 8 (by decide +kernel) ?_
    | refine .mk 9 (by decide +kernel) ?_
    | refine .mk 10 (by decide +kernel) ?_
    | refine .mk 11 (by decide +kernel) ?_
    | refine .mk 12 (by decide +kernel) ?_
    | refine .mk 13 (by decide +kernel) ?_
    | refine .mk 14 (by decide +kernel) ?_
    | refine .mk 15 (by decide +kernel) ?_
    | refine .mk 16 (by decide +kernel) ?_
    | refine .mk 17 (by decide +kernel) ?_
    | refine .mk 18 (by decide +kernel) ?_
    | refine .mk 19 (by decide +kernel) ?_
    | refine .mk 20 (by decide +kernel) ?_
    | refine .mk 21 (by decide +kernel) ?_
    | refine .mk 22 (by decide +kernel) ?_
    | refine .mk 23 (by decide +kernel) ?_
    | refine .mk 24 (by decide +kernel) ?_
    | refine .mk 25 (by decide +kernel) ?_
    | refine .mk 26 (by decide +kernel) ?_
    | refine .mk 27 (by decide +kernel) ?_
    | refine .mk 28 (by decide +kernel) ?_
    | refine .mk 29 (by decide +kernel) ?_
    | refine .mk 30 (by decide +kernel) ?_
    | refine .mk 31 (by decide +kernel) ?_
    | refine .mk 32 (by decide +kernel) ?_
    | refine .mk 33 (by decide +kernel) ?_
    | refine .mk 34 (by decide +kernel) ?_
    | refine .mk 35 (by decide +kernel) ?_
    | refine .mk 36 (by decide +kernel) ?_
    | refine .mk 37 (by decide +kernel) ?_
    | refine .mk 38 (by decide +kernel) ?_
    | refine .mk 39 (by decide +kernel) ?_
    | refine .mk 40 (by decide +kernel) ?_
    | refine .mk 41 (by decide +kernel) ?_
  conv => whnf
  first | refine CALLQ.mk _ _ _ (leL_refl _) (c_rCheckBlade _ b) rfl ?_ | refine CALL0.mk _ _ _ _ _ (leL_refl _) (c_rCheckBlade _ b) rfl ?_
  conv => whnf
  first | refine CALLQ.mk _ _ _ (leL_refl _) (c_rCheckFlow _ _ _ _) rfl ?_ | refine CALL0.mk _ _ _ _ _ (leL_refl _) (c_rCheckFlow _ _ _ _) rfl ?_
  conv => whnf
  first | refine CALLQ.mk _ _ _ (leL_refl _) (c_rf2 _ _ _ _ rfl rfl) rfl ?_ | refine CALL0.mk _ _ _ _ _ (leL_refl _) (c_rf2 _ _ _ _ rfl rfl) rfl ?_
  conv => whnf
  split
  · rename_i h
    have h' : (orE b.err f.err != 0) = true := h
    conv => whnf
    refine ⟨?_, rfl⟩
    unfold ringErr
    rw [← orE_assoc, orE_pos h']; rfl
  · rename_i h
    have h' : (orE b.err f.err != 0) = false := h
    conv => whnf
    split
    · rename_i h2
      have h2 : decide (ring < 0) = true := h2
      conv => whnf
      refine ⟨?_, rfl⟩
      unfold ringErr
      rw [← orE_assoc, orE_neg h', h2]; rfl
    · rename_i h2
      have h2 : decide (ring < 0) = false := h2
      conv => whnf
      split
      · rename_i h3
        have h3 : decide (ring ≥ b.nr) = true := h3
        conv => whnf
        refine ⟨?_, rfl⟩
        unfold ringErr
        rw [← orE_assoc, orE_neg h', h2, h3]; rfl
      · rename_i h3
        have h3 : decide (ring ≥ b.nr) = false := h3
        conv => whnf
        refine ⟨?_, rfl⟩
        unfold ringErr
        rw [← orE_assoc, orE_neg h', h2, h3]; rfl

abbrev ringI (b : Bl) (i : Nat) : IV := .agg [.int .i64 (b.r1 i), .int .i64 (b.r2 i), .int .i64 (b.r3 i), .int .i64 (b.r4 i)]
abbrev polarI (b : Bl) : IV := .agg [.lst none 1 b.nl fun i => [.int .i64 (b.lf i)], .lst none 1 b.nd fun i => [.int .i64 (b.df i)]]

theorem c_rInflow (up : List Ces) (b : Bl) (f : Fl) (i : Nat) (h : b.ok f i) (a : Int) (d : Nat) (hd : d ≤ 12) (h0 : 0 ≤ a) (h1 : a ≤ 2 ^ d) :
    Cs gl n_nacelleref03_Inflow up [ringI b i, f.iv, .agg [.int .i64 a, .int .i64 d]] (.int .i64 (b.infl f i a d)) up := by
  refine mk h_nacelleref03_Inflow rfl rfl ?_
  have e := inflowW_eq h hd h0 h1
  have e2 := denW_eq h hd
  have e3 := den_pos h d
  unfold inflowW at e
  rw [e2] at e
  unfold denW at e2
  rw [wholeW_eq hd] at e e2
  conv => whnf
  refine .mk _ _ _ _ _ (leL_refl _) (c_power _ d (by omega)) rfl ?_
  conv => whnf
  split
  · conv => whnf
    refine ⟨?_, rfl⟩
    show IV.int .i64 (w64 ((w64 (w64 (1024 * w64 (2 ^ d - a)) * f.w)).tdiv (w64 (w64 (2 ^ d * f.s) * b.r1 i)))) = _
    rw [e2, e]; rfl
  · rename_i hz
    have hz : (w64 (w64 (2 ^ d * f.s) * b.r1 i) != 0) = false := hz
    rw [e2] at hz
    simp at hz
    omega

theorem c_rClass (up : List Ces) (b : Bl) (f : Fl) (i : Nat) (h : b.ok f i) (x : Int) (h0 : -100000 ≤ x) (h1 : x ≤ 999999999) :
    Cs gl n_nacelleref03_Class up [polarI b, ringI b i, f.iv, .int .i64 x] (.int .i64 (clsP b.nl (b.r3 i) f.p x)) up := by
  refine mk h_nacelleref03_Class rfl rfl ?_
  have k1 := h.t
  have k2 := h.p
  have k3 := h.n0
  have k4 := h.n1
  have e1 : w64 (x - b.r3 i) = x - b.r3 i := by rw [w64, wrap_in] <;> omega
  have e2 : w64 (x - b.r3 i - f.p) = x - b.r3 i - f.p := by rw [w64, wrap_in] <;> omega
  have e3 : w64 ((b.nl : Int) - 1) = b.nl - 1 := by rw [w64, wrap_in] <;> omega
  conv => whnf
  refine ⟨?_, rfl⟩
  show IV.int .i64 (minW (maxW (w64 (w64 (x - b.r3 i) - f.p)) 0) (w64 (b.nl - 1))) = _
  rw [e1, e2, e3, minW_eq, maxW_eq]
  unfold clsP
  congr 1
  omega

theorem c_rBalance (up : List Ces) (b : Bl) (f : Fl) (i : Nat) (h : b.ok f i) (a : Int) (d : Nat) (hd : d ≤ 12) (h0 : 0 ≤ a) (h1 : a ≤ 2 ^ d) :
    Cs gl n_nacelleref03_Balance up [polarI b, ringI b i, f.iv, .agg [.int .i64 a, .int .i64 d]] (.int .i64 (b.bal f i a d)) up := by
  refine mk h_nacelleref03_Balance rfl rfl ?_
  have e := balanceW_eq h hd h0 h1
  have g := infl_rng (b := b) (f := f) (i := i) h h0 h1
  have k := clsP_lo h (b.infl f i a d)
  unfold balanceW at e
  rw [wholeW_eq hd, infl_class h hd h0 h1] at e
  conv => whnf
  refine .mk _ _ _ _ _ (leL_refl _) (c_power _ d (by omega)) rfl ?_
  conv => whnf
  first
    | refine .mk 0 (by decide +kernel) ?_
    | refine .mk 1 (by decide +kernel) ?_
    | refine .mk 2 (by decide +kernel) ?_
    | refine .mk 3 (by decide +kernel) ?_
    | refine .mk 4 (by decide +kernel) ?_
    | refine .mk 5 (by decide +kernel) ?_
    | refine .mk 6 (by decide +kernel) ?_
    | refine .mk 7 (by decide +kernel) ?_
    | refine .mk 8 (by decide +kernel) ?_
    | refine .mk 9 (by decide +kernel) ?_
    | refine .mk 10 (by decide +kernel) ?_
    | refine .mk 11 (by decide +kernel) ?_
    | refine .mk 12 (by decide +kernel) ?_
    | refine .mk 13 (by decide +kernel) ?_
    | refine .mk 14 (by decide +kernel) ?_
    | refine .mk 15 (by decide +kernel) ?_
    | refine .mk 16 (by decide +kernel) ?_
    | refine .mk 17 (by decide +kernel) ?_
    | refine .mk 18 (by decide +kernel) ?_
    | refine .mk 19 (by decide +kernel) ?_
    | refine .mk 20 (by decide +kernel) ?_
    | refine .mk 21 (by decide +kernel) ?_
    | refine .mk 22 (by decide +kernel) ?_
    | refine .mk 23 (by decide +kernel) ?_
    | refine .mk 24 (by decide +kernel) ?_
    | refine .mk 25 (by decide +kernel) ?_
    | refine .mk 26 (by decide +kernel) ?_
    | refine .mk 27 (by decide +kernel) ?_
    | refine .mk 28 (by decide +kernel) ?_
    | refine .mk 29 (by decide +kernel) ?_
    | refine .mk 30 (by decide +kernel) ?_
    | refine .mk 31 (by decide +kernel) ?_
    | refine .mk 32 (by decide +kernel) ?_
    | refine .mk 33 (by decide +kernel) ?_
    | refine .mk 34 (by decide +kernel) ?_
    | refine .mk 35 (by decide +kernel) ?_
    | refine .mk 36 (by decide +kernel) ?_
    | refine .mk 37 (by decide +kernel) ?_
    | refine .mk 38 (by decide +kernel) ?_
    | refine .mk 39 (by decide +kernel) ?_
    | refine .mk 40 (by decide +kernel) ?_
    | refine .mk 41 (by decide +kernel) ?_
  conv => whnf
  first | refine CALLQ.mk _ _ _ (leL_refl _) (c_rInflow _ b f i h a d hd h0 h1) rfl ?_ | refine CALL0.mk _ _ _ _ _ (leL_refl _) (c_rInflow _ b f i h a d hd h0 h1) rfl ?_
  conv => whnf
  first | refine CALLQ.mk _ _ _ (leL_refl _) (c_rClass _ b f i h _ (by omega) (by omega)) rfl ?_ | refine CALL0.mk _ _ _ _ _ (leL_refl _) (c_rClass _ b f i h _ (by omega) (by omega)) rfl ?_
  conv => whnf
  split
  rotate_left
  · rename_i h
    have h' : decide (0 ≤ clsP b.nl (b.r3 i) f.p (b.infl f i a d)) = false := h
    simp at h' <;> omega
  conv => whnf
  split
  rotate_left
  · rename_i h
    have h' : decide (clsP b.nl (b.r3 i) f.p (b.infl f i a d) < b.nl) = false := h
    simp at h' <;> omega
  conv => whnf
  refine ⟨?_, rfl⟩
  exact congrArg (IV.int .i64) e
end Go.Proofs.YtllmejkmogepjaaGreatDoor.Ix
