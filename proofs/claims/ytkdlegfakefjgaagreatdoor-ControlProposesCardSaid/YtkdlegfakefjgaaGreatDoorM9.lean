/- YtkdlegfakefjgaaGreatDoorM9 -/
import Derived.Test.YtkdlegfakefjgaaGreatDoorM8
import Derived.Test.YtkdlegfakefjgaaGreatDoorRows
import Derived.Test.YtkdlegfakefjgaaGreatDoorTie
import Derived.Test.YtkdlegfakefjgaaGreatDoorCards
import Derived.ProofKit
import Derived.OpenShut
import Derived.LaidMore
import Derived.Lay
import Derived.Stop.Joined
import Derived.SevenTiedAt
import Derived.Lib.Split
import Derived.Lib.SplitLaws
import Derived.Lib.OthersKept
namespace Go.Proofs.YtkdlegfakefjgaaGreatDoor
open Go Go.ChangeShapes Go.WideShapes Go.ChangeAt Go.RowKit Go.Proofs.YtkdlegfakefjgaaGreatDoor.Ix
set_option linter.unusedVariables false
theorem own : ownKnob Tryz.prog.godebug = none := by kernel_rfl
theorem laidOut : laidOutB Tryz.prog = true := by kernel_rfl
theorem gKinds : Tryz.prog.globalNamed "nacelle/control.kinds" = some 0 := by kernel_rfl
theorem tKinds : (Tryz.prog.globals[0]?).map (·.type) = some 155 := by kernel_rfl
noncomputable abbrev laid4 : List (String × DataW Unit) := [("math/bits.deBruijn32tab", Rows.laid_math_bits_deBruijn32tab), ("math/bits.deBruijn64tab", Rows.laid_math_bits_deBruijn64tab), ("internal/strconv.uint64pow10", Rows.laid_internal_strconv_uint64pow10), ("unicode/utf8.acceptRanges", Rows.laid_unicode_utf8_acceptRanges), ("nacelle/control.kinds", Rows.laid_nacelle_control_kinds), ("unicode/utf8.first", Rows.laid_unicode_utf8_first)]
theorem plain4 : (laid4.all fun x => x.2.handleName?.isNone) = true := by kernel_rfl
abbrev kindsShp : Shp := .agg (List.replicate 6 (1, .str))
abbrev powShp : Shp := .agg (List.replicate 20 (1, .int .u64))
theorem shapeKinds : shpB Tryz.prog kindsShp 155 = true := by kernel_rfl
theorem door_met (os : Os) (args : Array Value) : laidMetH Tryz.prog laid4 ((World.laidAll Tryz.prog os laid4).forCall (fun _ _ => 0) ⟨#[], args, []⟩).memory := by
  rw [MakeChecks.laidMetH_plain _ _ _ (by kernel_rfl)]; exact laidMet_laidAll _ (by kernel_rfl) (by kernel_rfl)
noncomputable def gl4 : Nat → IV := fun g => match g with
  | 0 => kindsI
  | 1 => powI
  | _ => .dead
abbrev kindsV : List Value := [.string sBrake, .string sRepair, .string sRest, .string sStart, .string sStop, .string sTick]
theorem kinds_in {W : World} (h : laidMetH Tryz.prog laid4 W) : (∀ j, W.cell? ⟨0, j, none⟩ = kindsV[j]?) ∧ ∃ arr el m, W.heap[0]? = some (.cells arr el m) ∧ arr.size = kindsV.length :=
  laid_tab h plain4 (d := Rows.laid_nacelle_control_kinds) (by simp) gKinds tKinds shapeKinds rfl rfl
theorem tPow : (Tryz.prog.globals[1]?).map (·.type) = some 233 := by kernel_rfl
theorem shapePow : shpB Tryz.prog powShp 233 = true := by kernel_rfl
noncomputable abbrev powV : List Value := Go.Lib.pow10Tab.map fun z => .int .u64 z
theorem pow_in {W : World} (h : laidMetH Tryz.prog laid4 W) : (∀ j, W.cell? ⟨1, j, none⟩ = powV[j]?) ∧ ∃ arr el m, W.heap[1]? = some (.cells arr el m) ∧ arr.size = powV.length :=
  laid_tab h plain4 (d := Rows.laid_internal_strconv_uint64pow10) (by simp) gPow tPow shapePow (by decide) (by kernel_rfl)
theorem glo4 {W : World} (h : laidMetH Tryz.prog laid4 W) : ∀ g, D (fun a => W.cell? a) (gl4 g) (.pointer (some ⟨g, 0, none⟩)) := by
  intro g
  match g with
  | 0 =>
    refine D_tabG [.str sBrake, .str sRepair, .str sRest, .str sStart, .str sStop, .str sTick] kindsV rfl (fun j v hv => by rw [(kinds_in h).1]; exact hv) fun j x hx => ?_
    match j, hx with
    | 0, hx | 1, hx | 2, hx | 3, hx | 4, hx | 5, hx => cases hx; exact ⟨_, rfl, rfl, .str _⟩
    | _ + 6, hx => cases hx
  | 1 =>
    have := D_tab (I := fun a => W.cell? a) (g := 1) (Go.Lib.pow10Tab.map fun z => IV.int .u64 z) powV (by simp) (fun j v hv => by rw [(pow_in h).1]; exact hv) fun j x hx => by
      rw [List.getElem?_map, Option.map_eq_some_iff] at hx
      obtain ⟨z, hz, rfl⟩ := hx
      exact ⟨_, _, rfl, by rw [List.getElem?_map, hz]; rfl⟩
    rw [List.length_map] at this
    exact this
  | _ + 2 => exact .dead _
theorem gsz4 {W : World} (h : laidMetH Tryz.prog laid4 W) : Gsz gl4 W := by
  intro g e n f i j hg hn he
  match g, hg with
  | 0, hg =>
    have hg : kindsI = .vptr e n f i j := hg
    injection hg with h1 h2
    subst h1; subst h2
    obtain ⟨arr, el, m, k1, k2⟩ := (kinds_in h).2
    exact ⟨arr, el, m, k1, by rw [k2]; rfl⟩
  | 1, hg =>
    have hg : powI = .vptr e n f i j := hg
    injection hg with h1 h2
    subst h1; subst h2
    obtain ⟨arr, el, m, k1, k2⟩ := (pow_in h).2
    exact ⟨arr, el, m, k1, by rw [k2]; simp⟩
  | _ + 2, hg => cases hg
end Go.Proofs.YtkdlegfakefjgaaGreatDoor

namespace Go.Proofs.YtkdlegfakefjgaaGreatDoor.Ix
set_option linter.unusedVariables false
theorem comp_of_row {P : Program} {gl : Nat → IV} {g : Nat} {up : List Ces} {args : List IV} {fn : Func} {c : Code} (hf : P.funcs[g]? = some fn) (hb : fn.body = some c) (hn : (fn.name == "runtime.NumGoroutine") = false) (vs : List ByteArray)
    (h : ∀ (vals : Array Value) (w : World) (I : Imm) (X : Nat → Prop) (β : Beta) (σ : Nat → Sig), MemR gl up w I X β σ → args.length = vals.size →
      (∀ (j : Nat) x, args[j]? = some x → V I (under β) noSig x (vals.getD j undef)) → Calls P g vals w fun e w' => ∃ el, e = .returned (.slice (some ⟨w.heap.size, 0, none⟩) vs.length vs.length) ∧ w' = w.alloc (.cells (vs.map Value.string).toArray el)) :
    Comp P gl g up args (.lst none 1 vs.length fun i => [.str (vs.getD i ByteArray.empty)]) up := by
  refine ⟨⟨fn, c, hf, hb, hn⟩, fun vals w I X β σ m hl ha => (h vals w I X β σ m hl ha).mono ?_⟩
  rintro e w' ⟨el, rfl, rfl⟩
  let B := w.heap.size
  have hnew : (w.alloc (.cells (vs.map Value.string).toArray el)).heap[B]? = some (.cells (vs.map Value.string).toArray el (0, 0)) := World.alloc_heap_new w _
  have hIlt : ∀ x v, I x = some v → x.block < B := fun x v hx => World.block_lt_of_cell? w _ (m.im x v hx)
  let I2 : Imm := fun x => if x.block = B then (if x.spot = none then (vs[x.off]?).map Value.string else none) else I x
  have hI : ∀ x v, I x = some v → I2 x = some v := fun x v hx => by
    have := hIlt x v hx
    show (if _ then _ else _) = _
    rw [if_neg (by omega)]; exact hx
  have hX : ∀ b, X b → b < B := m.xb
  let Γ0 : Env := ⟨P, fun _ => Ty.none, gl, 0, fun _ _ _ _ => False, none, none, []⟩
  have m1 : MemR gl up (w.alloc (.cells (vs.map Value.string).toArray el)) I X β σ := MemR.alloc (Γ := Γ0) m _
  have hcell : ∀ (j : Nat), (w.alloc (.cells (vs.map Value.string).toArray el)).cell? ⟨B, j, none⟩ = (vs[j]?).map Value.string := fun j => by
    simp [World.cell?, hnew]
  refine ⟨_, I2, noSig, rfl, .data ?_, ⟨fun t g h => (by cases h), fun t t' g g' h => (by cases h)⟩, ⟨fun l d c hc => ?_, m1.inj, m1.keys, fun x v hx => ?_, fun g => (m1.glo g).mono hI, m1.xb, m1.gz⟩, ?_⟩
  · have hd := D.lst (I := I2) 1 vs.length (fun i => [.str (vs.getD i ByteArray.empty)]) B 0 vs.length (fun i _ => .string (vs.getD i ByteArray.empty)) (Nat.le_refl _) (fun i _ => rfl) (fun i j hi hj => by
      have : j = 0 := by omega
      subst this
      show (if _ then _ else _) = _
      rw [if_pos rfl]
      show (if _ then _ else _) = _
      rw [if_pos rfl]
      have e : 0 + i * 1 + 0 = i := by omega
      show (vs[0 + i * 1 + 0]?).map Value.string = _
      rw [e]
      simp [hi]) (fun i j _ _ => rfl) (fun i j x hi hx => by
      cases j with
      | zero => simp at hx; subst hx; exact .str _
      | succ j => simp at hx)
    exact hd
  · obtain ⟨b, arr, el', h1, h2, h3, h4, h5, h6, h7⟩ := m1.cell l d c hc
    have hlt : b < B := by
      obtain ⟨b', arr', el2, k1, k2, _⟩ := m.cell l d c hc
      rw [h1] at k1; cases k1
      exact heap_lt k2
    refine ⟨b, arr, el', h1, h2, h3, h4, fun j x hx => (h5 j x hx).mono hI (fun _ _ _ h => h) (fun _ _ h => h), fun j => ?_, h7⟩
    show (if _ then _ else _) = _
    rw [if_neg (by show ¬ b = B; omega)]
    exact h6 j
  · have hx2 : (if x.block = B then (if x.spot = none then (vs[x.off]?).map Value.string else none) else I x) = some v := hx
    clear hx
    split at hx2
    · rename_i hb'
      split at hx2
      · rename_i hs
        obtain ⟨b, off, sp⟩ := x
        simp only at hb' hs hx2
        subst hb'
        subst hs
        rw [hcell]; exact hx2
      · cases hx2
    · exact m1.im x v hx2
  · have he := Ext.alloc I X w (.cells (vs.map Value.string).toArray el) m.xb
    refine ⟨he.os, he.tape, he.output, he.size, he.keep, hI, fun x hx => ?_, he.fix⟩
    show (if _ then _ else _) = _
    rw [if_neg (by have := hX _ hx; omega)]
end Go.Proofs.YtkdlegfakefjgaaGreatDoor.Ix

namespace Go.Proofs.YtkdlegfakefjgaaGreatDoor.Ix
set_option linter.unusedVariables false
open Go.Lib
def splitL (c : UInt8) : List UInt8 → List (List UInt8)
  | [] => [[]]
  | b :: l => if b = c then [] :: splitL c l else match splitL c l with
    | [] => [[b]]
    | p :: r => (b :: p) :: r
theorem splitL_ne (c : UInt8) : ∀ l, splitL c l ≠ []
  | [] => nofun
  | b :: l => by
    unfold splitL
    split
    · nofun
    · split <;> nofun
theorem splitL_none {c : UInt8} : ∀ {l : List UInt8}, c ∉ l → splitL c l = [l]
  | [], _ => rfl
  | b :: l, h => by
    unfold splitL
    rw [if_neg (fun e => h (by simp [e])), splitL_none (fun hh => h (by simp [hh]))]
theorem splitL_hit {c : UInt8} : ∀ {l : List UInt8} {i : Nat}, l[i]? = some c → (∀ j, j < i → l[j]? ≠ some c) → splitL c l = l.take i :: splitL c (l.drop (i + 1))
  | [], i, h, _ => by simp at h
  | b :: l, 0, h, _ => by
    have hb : b = c := by simpa using h
    have e : splitL c (b :: l) = [] :: splitL c l := by
      show (if b = c then _ else _) = _
      rw [if_pos hb]
    rw [e]; rfl
  | b :: l, i + 1, h, hn => by
    have hb : b ≠ c := fun e => hn 0 (by omega) (by simp [e])
    have ih := splitL_hit (l := l) (i := i) (by simpa using h) (fun j hj hh => hn (j + 1) (by omega) (by simpa using hh))
    have e : splitL c (b :: l) = match splitL c l with
      | [] => [[b]]
      | p :: r => (b :: p) :: r := by
      show (if b = c then _ else _) = _
      rw [if_neg hb]
    rw [e, ih]
    rfl
theorem splitK_eq (c : UInt8) : ∀ (k : Nat) (l : List UInt8), l.count c = k → splitK [c] 0 k l = splitL c l
  | 0, l, h => by
    rw [splitL_none (fun hm => by have := List.count_pos_iff.2 hm; omega)]
    rfl
  | k + 1, l, h => by
    have hm : c ∈ l := List.count_pos_iff.1 (by omega)
    unfold splitK
    have hi := index_one l c
    cases hix : indexByte l c with
    | negSucc q =>
      have hge := indexByte_ge l c
      have e : indexByte l c = -1 := by rw [hix] at hge ⊢; omega
      have := indexByte_none e
      obtain ⟨j, hj⟩ := List.mem_iff_getElem?.1 hm
      exact absurd hj (this j)
    | ofNat i =>
      have hix' : indexByte l c = ((i : Nat) : Int) := hix
      obtain ⟨h1, h2⟩ := indexByte_some hix'
      rw [if_neg (by rw [hi, hix']; simp), hi, hix']
      rw [splitL_hit h1 h2]
      have hlt := (List.getElem?_eq_some_iff.1 h1).1
      have hc : (l.drop (i + 1)).count c = k := by
        have e : l = l.take i ++ c :: l.drop (i + 1) := by
          have h3 : l.drop i = c :: l.drop (i + 1) := by
            rw [List.drop_eq_getElem_cons hlt]
            congr 1
            exact (List.getElem?_eq_some_iff.1 h1).2
          rw [← h3, List.take_append_drop]
        have h4 : (l.take i).count c = 0 := by
          rw [List.count_eq_zero]
          intro hm
          obtain ⟨j, hj⟩ := List.mem_iff_getElem?.1 hm
          rw [List.getElem?_take] at hj
          split at hj
          · rename_i hji; exact h2 j hji hj
          · cases hj
        have h5 : l.count c = ((l.take i).count c + ((l.drop (i + 1)).count c + 1)) := by
          conv => lhs; rw [e]
          rw [List.count_append, List.count_cons_self]
        omega
      simp only [Int.toNat_natCast, Nat.add_zero, List.length_cons, List.length_nil, Nat.zero_add]
      rw [splitK_eq c k _ hc]
theorem splitB_eq (c : UInt8) (s : ByteArray) : (splitB ⟨#[c]⟩ 0 (countB s ⟨#[c]⟩) s) = (splitL c s.data.toList).map bytesS := by
  have h := splitB_data ⟨#[c]⟩ 0 (countB s ⟨#[c]⟩) s
  have hc : countB s ⟨#[c]⟩ = s.data.toList.count c := count_one c _
  rw [hc] at h ⊢
  rw [show (ByteArray.mk #[c]).data.toList = [c] from rfl, splitK_eq c _ _ rfl] at h
  rw [← h, List.map_map]
  conv => lhs; rw [← List.map_id (splitB _ _ _ _)]
  exact List.map_congr_left fun x _ => (bytesS_mk x).symm
theorem splitL_len (c : UInt8) : ∀ l : List UInt8, (splitL c l).length = l.count c + 1
  | [] => rfl
  | b :: l => by
    have ih := splitL_len c l
    unfold splitL
    split
    · rename_i e; subst e; simp [ih]
    · rename_i hb
      rw [List.count_cons_of_ne (fun e => hb e)]
      cases h : splitL c l with
      | nil => exact absurd h (splitL_ne c l)
      | cons p r => rw [h] at ih; simpa using ih
theorem splitL_mem {c : UInt8} : ∀ {l p : List UInt8}, p ∈ splitL c l → p.length ≤ l.length ∧ c ∉ p
  | [], p, h => by
    have : p = [] := by simpa [splitL] using h
    subst this; simp
  | b :: l, p, h => by
    unfold splitL at h
    split at h
    · rcases List.mem_cons.1 h with rfl | h
      · simp
      · have := splitL_mem h; exact ⟨by simp; omega, this.2⟩
    · rename_i hb
      split at h
      · rename_i e; exact absurd e (splitL_ne c l)
      · rename_i q r e
        rcases List.mem_cons.1 h with rfl | h
        · have := splitL_mem (c := c) (l := l) (p := q) (by rw [e]; simp)
          refine ⟨by simp; omega, fun hm => ?_⟩
          rcases List.mem_cons.1 hm with rfl | hm
          · exact hb rfl
          · exact this.2 hm
        · have := splitL_mem (c := c) (l := l) (p := p) (by rw [e]; simp [h])
          exact ⟨by simp; omega, this.2⟩
theorem splitL_le (c : UInt8) (l : List UInt8) (i : Nat) : ((splitL c l).getD i []).length ≤ l.length := by
  rw [List.getD_eq_getElem?_getD]
  cases h : (splitL c l)[i]? with
  | none => simp
  | some p => exact (splitL_mem (List.mem_of_getElem? h)).1
theorem splitL_no (c : UInt8) (l : List UInt8) (i : Nat) : c ∉ (splitL c l).getD i [] := by
  rw [List.getD_eq_getElem?_getD]
  cases h : (splitL c l)[i]? with
  | none => simp
  | some p => exact (splitL_mem (List.mem_of_getElem? h)).2
end Go.Proofs.YtkdlegfakefjgaaGreatDoor.Ix

namespace Go.Proofs.YtkdlegfakefjgaaGreatDoor.Ix
set_option linter.unusedVariables false
def dig (b : UInt8) : Bool := decide (48 ≤ b.toNat) && decide (b.toNat ≤ 57)
def valL (l : List UInt8) : Nat := l.foldl (fun n b => 10 * n + (b.toNat - 48)) 0
def intR (l : List UInt8) : Int × Bool := bif l.all dig && decide (l.length ≤ 9) then (((valL l : Nat) : Int), !l.isEmpty && (l.length == 1 || !(l.headD 0 == 48))) else (0, false)
theorem dig_iff {b : UInt8} : dig b = true ↔ 48 ≤ b.toNat ∧ b.toNat ≤ 57 := by simp [dig]
theorem valL_snoc (l : List UInt8) (b : UInt8) : valL (l ++ [b]) = 10 * valL l + (b.toNat - 48) := by simp [valL]
theorem valL_take {l : List UInt8} {p : Nat} {b : UInt8} (h : l[p]? = some b) : valL (l.take (p + 1)) = 10 * valL (l.take p) + (b.toNat - 48) := by
  rw [List.take_add_one, h]
  exact valL_snoc _ _
theorem valL_lt : ∀ (k : Nat) (l : List UInt8), l.length ≤ k → (∀ b ∈ l, dig b = true) → valL l < 10 ^ k := by
  intro k
  induction k with
  | zero => intro l h _; have : l = [] := List.length_eq_zero_iff.1 (by omega); subst this; decide
  | succ k ih =>
    intro l h hd
    rcases List.eq_nil_or_concat l with rfl | ⟨r, b, rfl⟩
    · exact Nat.pos_of_ne_zero (by simp)
    · rw [List.concat_eq_append] at h hd ⊢
      rw [valL_snoc]
      have h1 := ih r (by simp at h; omega) (fun x hx => hd x (by simp [hx]))
      have h2 := dig_iff.1 (hd b (by simp))
      rw [Nat.pow_succ]; omega
theorem intR_bad {l : List UInt8} (h : (l.all dig && decide (l.length ≤ 9)) = false) : intR l = (0, false) := by unfold intR; rw [h]; rfl
theorem intR_ok {l : List UInt8} (h1 : ∀ b ∈ l, dig b = true) (h2 : l.length ≤ 9) : intR l = (((valL l : Nat) : Int), !l.isEmpty && (l.length == 1 || !(l.headD 0 == 48))) := by
  unfold intR
  rw [show (l.all dig && decide (l.length ≤ 9)) = true by rw [List.all_eq_true.2 h1, decide_eq_true h2]; rfl]
  rfl
end Go.Proofs.YtkdlegfakefjgaaGreatDoor.Ix

namespace Go.Proofs.YtkdlegfakefjgaaGreatDoor.Ix
open Go.Proofs
set_option maxRecDepth 100000
set_option linter.unusedVariables false
set_option linter.unusedSimpArgs false
variable {gl : Nat → IV}
theorem c_IndexByte (up : List Ces) (s : ByteArray) (c : Int) : Cs gl n_strings_IndexByte up [.str s, .int .u8 c] (.int .i64 (Go.Lib.indexByte s.data.toList c.toNat.toUInt8)) up := by
  refine comp_of_below h_strings_IndexByte rfl rfl fun vals w I X β σ m hl ha => ?_
  obtain ⟨v, u, rfl⟩ := two_args hl
  have hv : v = .string s := noSig_str (ha 0 _ rfl)
  have hu : u = .int .u8 c := noSig_int (ha 1 _ rfl)
  subst hv; subst hu
  refine (Any.strings_IndexByte laysIndexByte s c w).mono ?_
  rintro e w' ⟨rfl, rfl⟩
  exact ⟨_, rfl, .int _ _, Go.RowKit.Below.refl _ _⟩
theorem four_args {vals : Array Value} (h : 4 = vals.size) : ∃ v u x y, vals = #[v, u, x, y] := by
  rcases vals with ⟨l⟩
  match l, h with
  | [v, u, x, y], _ => exact ⟨v, u, x, y, rfl⟩
theorem c_genSplit (up : List Ces) (s : ByteArray) (c : UInt8) (hs : s.size < 4294967281) :
    Cs gl n_strings_genSplit up [.str s, .str ⟨#[c]⟩, .int .i64 0, .int .i64 (-1)] (.lst none 1 (splitL c s.data.toList).length fun i => [.str (bytesS ((splitL c s.data.toList).getD i []))]) up := by
  have e : (IV.lst none 1 (splitL c s.data.toList).length fun i => [.str (bytesS ((splitL c s.data.toList).getD i []))]) = .lst none 1 ((splitL c s.data.toList).map bytesS).length fun i => [.str (((splitL c s.data.toList).map bytesS).getD i ByteArray.empty)] := by
    rw [List.length_map]
    congr 1
    funext i
    have : ((splitL c s.data.toList).map bytesS).getD i ByteArray.empty = bytesS ((splitL c s.data.toList).getD i []) := by
      rw [List.getD_eq_getElem?_getD, List.getD_eq_getElem?_getD, List.getElem?_map]
      cases (splitL c s.data.toList)[i]? <;> rfl
    rw [this]
  rw [e]
  refine comp_of_row h_strings_genSplit rfl rfl _ fun vals w I X β σ m hl ha => ?_
  obtain ⟨v0, v1, v2, v3, rfl⟩ := four_args hl
  have h0 : v0 = .string s := noSig_str (ha 0 _ rfl)
  have h1 : v1 = .string ⟨#[c]⟩ := noSig_str (ha 1 _ rfl)
  have h2 : v2 = .int .i64 0 := noSig_int (ha 2 _ rfl)
  have h3 : v3 = .int .i64 (-1) := noSig_int (ha 3 _ rfl)
  subst h0; subst h1; subst h2; subst h3
  have h1c : 1 ≤ (ByteArray.mk #[c]).size := Nat.le_refl 1
  have hle := Go.Lib.countB_le ⟨#[c]⟩ h1c s.size s (Nat.le_refl _)
  have hall := Go.Lib.splitB_all ⟨#[c]⟩ h1c 0 _ s rfl
  refine (Any.strings_genSplit_core laysGenSplit (by kernel_rfl) s ⟨#[c]⟩ 0 (-1) (Go.Lib.countB s ⟨#[c]⟩ + 1) w hs h1c (Nat.zero_le _) (fun x cc hx => ?_) ?_ (by decide) (by decide) (by rw [if_pos (by decide)]; omega)).mono ?_
  · refine (Any.strings_Index_one { laysGenSplit with } x c _).mono fun e w' ⟨he, hw⟩ => ⟨?_, hw⟩
    rw [he]
    show _ = Ending.returned (Value.int .i64 (Go.Lib.index x.data.toList [c]))
    rw [Go.Lib.index_one]
  · refine (Any.strings_Count_one { laysGenSplit with } s c w).mono fun e w' ⟨he, hw⟩ => ⟨?_, hw⟩
    rw [he]
    show _ = Ending.returned (Value.int .i64 ((Go.Lib.count s.data.toList [c] : Nat) : Int))
    rw [Go.Lib.count_one]
    rfl
  rintro e w' ⟨rfl, rfl⟩
  rw [Nat.add_sub_cancel]
  have hcells : Go.Lib.cellsOf (Go.Lib.splitB ⟨#[c]⟩ 0 (Go.Lib.countB s ⟨#[c]⟩) s) (Go.Lib.countB s ⟨#[c]⟩ + 1) = ((Go.Lib.splitB ⟨#[c]⟩ 0 (Go.Lib.countB s ⟨#[c]⟩) s).map Value.string).toArray := by rw [← hall]; exact Go.Lib.cellsOf_full _
  rw [hcells, ← hall, splitB_eq]
  exact ⟨_, rfl, rfl⟩
theorem c_Split (up : List Ces) (s : ByteArray) (c : UInt8) (hs : s.size < 4294967281) :
    Cs gl n_strings_Split up [.str s, .str ⟨#[c]⟩] (.lst none 1 (splitL c s.data.toList).length fun i => [.str (bytesS ((splitL c s.data.toList).getD i []))]) up := by
  refine mk h_strings_Split rfl rfl ?_
  have h := fun up => c_genSplit (gl := gl) up s c hs
  conv => whnf
  repeat first
    | (refine DRAW.seek ?_; repeat (first | refine TRYD.take ?_ | refine TRYD.next ?_); conv => whnf)
    | (refine HOLD.mk (by first | exact trivial | exact ⟨⟨rfl, rfl⟩, trivial⟩ | exact ⟨⟨rfl, rfl⟩, ⟨rfl, rfl⟩, trivial⟩) ?_; (conv => whnf))
    | (refine CALL0.by (h ..) rfl ?_; conv => whnf)
    | (refine CALLQ.mk _ _ _ (leL_refl _) (h ..) rfl ?_; conv => whnf)
  exact ⟨rfl, rfl⟩
theorem c_HasSuffix (up : List Ces) (l : List UInt8) (c : UInt8) (hl : l.length ≤ 1000000000) :
    Cs gl n_internal_stringslite_HasSuffix up [.str (bytesS l), .str (bytesS [c])] (.bool (l.getLast? == some c)) up := by
  refine mk h_internal_stringslite_HasSuffix rfl rfl ?_
  have hsz : (bytesS l).size = l.length := bytesS_size l
  have hsc : (bytesS [c]).size = 1 := bytesS_size [c]
  obtain ⟨S, hS⟩ : ∃ S, S = bytesS l := ⟨_, rfl⟩
  obtain ⟨C, hC⟩ : ∃ S, S = bytesS [c] := ⟨_, rfl⟩
  rw [← hS] at hsz ⊢
  rw [← hC] at hsc ⊢
  by_cases h0 : l = []
  · have q : decide ((S.size : Int) ≥ C.size) = false := by rw [hsz, hsc, h0]; rfl
    have e : (l.getLast? == some c) = false := by rw [h0]; rfl
    rw [e]
    conv => whnf
    split
    · rename_i h
      exact Bool.noConfusion ((q).symm.trans h)
    rename_i hN
    clear hN
    conv => whnf
    exact ⟨rfl, rfl⟩
  · have hpos : 0 < l.length := List.length_pos_iff.2 h0
    have q : decide ((S.size : Int) ≥ C.size) = true := by rw [hsz, hsc]; exact decide_eq_true (by omega)
    have hw : w64 ((S.size : Int) - C.size) = ((l.length - 1 : Nat) : Int) := by rw [hsz, hsc, w64, wrap_in] <;> omega
    have q1 : decide (0 ≤ w64 ((S.size : Int) - C.size)) = true := by rw [hw]; exact decide_eq_true (by omega)
    have q2 : decide (w64 ((S.size : Int) - C.size) ≤ S.size) = true := by rw [hw, hsz]; exact decide_eq_true (by omega)
    have q3 : decide ((S.size : Int) ≤ S.size) = true := decide_eq_true (Int.le_refl _)
    have hx : (S.extract (w64 ((S.size : Int) - C.size)).toNat (S.size : Int).toNat).toList = l.drop (l.length - 1) := by
      rw [hw, Go.Lib.toList_data, Go.Lib.extract_data, hsz, hS, bytesS_data]
      simp only [Int.toNat_natCast]
      exact List.take_of_length_le (by rw [List.length_drop]; omega)
    have hCl : C.toList = [c] := by rw [Go.Lib.toList_data, hC]
    have hd : l.drop (l.length - 1) = [l.getLast h0] := by
      have e := List.dropLast_concat_getLast h0
      have hl2 : l.length - 1 = l.dropLast.length := by simp
      conv => lhs; rw [← e]
      rw [List.length_append, List.length_singleton, Nat.add_sub_cancel]
      exact List.drop_left
    have e : (l.getLast? == some c) = ((S.extract (w64 ((S.size : Int) - C.size)).toNat (S.size : Int).toNat).toList == C.toList) := by
      rw [hx, hCl, hd, List.getLast?_eq_some_getLast h0]
      by_cases h : l.getLast h0 = c
      · simp [h]
      · have : ¬ (some (l.getLast h0) = some c) := fun e => h (Option.some.inj e)
        simp [h]
    rw [e]
    conv => whnf
    split
    rotate_left
    · rename_i h
      exact Bool.noConfusion ((q).symm.trans h)
    rename_i hN
    clear hN
    conv => whnf
    split
    rotate_left
    · rename_i h
      exact Bool.noConfusion ((q1).symm.trans h)
    rename_i hN
    clear hN
    conv => whnf
    split
    rotate_left
    · rename_i h
      exact Bool.noConfusion ((q2).symm.trans h)
    rename_i hN
    clear hN
    conv => whnf
    split
    rotate_left
    · rename_i h
      exact Bool.noConfusion ((q3).symm.trans h)
    rename_i hN
    clear hN
    conv => whnf
    exact ⟨rfl, rfl⟩
end Go.Proofs.YtkdlegfakefjgaaGreatDoor.Ix

namespace Go.Proofs.YtkdlegfakefjgaaGreatDoor.Ix
open Go.Proofs
set_option maxRecDepth 100000
set_option linter.unusedVariables false
set_option linter.unusedSimpArgs false
variable {gl : Nat → IV}
theorem extract_all0 (l : List UInt8) (k : Nat) : (bytesS l).extract 0 k = bytesS (l.take k) := by
  rw [Go.Lib.extract_eq]
  simp
theorem c_CutSuffix1 (up : List Ces) (l : List UInt8) (c : UInt8) (hl : l.length ≤ 1000000000) :
    Cs gl n_internal_stringslite_CutSuffix up [.str (bytesS l), .str (bytesS [c])] (bif l.getLast? == some c then .tup [.str (bytesS l.dropLast), .bool true] else .tup [.str (bytesS l), .bool false]) up := by
  refine mk h_internal_stringslite_CutSuffix rfl rfl ?_
  have hS := fun up => c_HasSuffix (gl := gl) up l c hl
  cases q : (l.getLast? == some c) with
  | false =>
    rw [q] at hS
    conv => whnf
    repeat first
      | (refine DRAW.seek ?_; repeat (first | refine TRYD.take ?_ | refine TRYD.next ?_); conv => whnf)
      | (refine HOLD.mk (by first | exact trivial | exact ⟨⟨rfl, rfl⟩, trivial⟩ | exact ⟨⟨rfl, rfl⟩, ⟨rfl, rfl⟩, trivial⟩) ?_; (conv => whnf))
      | (refine CALL0.by (hS ..) rfl ?_; conv => whnf)
      | (refine CALLQ.mk _ _ _ (leL_refl _) (hS ..) rfl ?_; conv => whnf)
    exact ⟨rfl, rfl⟩
  | true =>
    rw [q] at hS
    have hne : l ≠ [] := by rintro rfl; cases q
    have hpos : 0 < l.length := List.length_pos_iff.2 hne
    have hsz : (bytesS l).size = l.length := bytesS_size l
    have hsc : (bytesS [c]).size = 1 := bytesS_size [c]
    have hw : w64 (((bytesS l).size : Int) - (bytesS [c]).size) = ((l.length - 1 : Nat) : Int) := by rw [hsz, hsc, w64, wrap_in] <;> omega
    have q1 : decide (0 ≤ w64 (((bytesS l).size : Int) - (bytesS [c]).size)) = true := by rw [hw]; exact decide_eq_true (by omega)
    have q2 : decide (w64 (((bytesS l).size : Int) - (bytesS [c]).size) ≤ (bytesS l).size) = true := by rw [hw, hsz]; exact decide_eq_true (by omega)
    have hx : (bytesS l).extract 0 (w64 (((bytesS l).size : Int) - (bytesS [c]).size)).toNat = bytesS l.dropLast := by
      rw [hw, extract_all0, Int.toNat_natCast, List.dropLast_eq_take]
    conv => whnf
    repeat first
      | (refine DRAW.seek ?_; repeat (first | refine TRYD.take ?_ | refine TRYD.next ?_); conv => whnf)
      | (refine HOLD.mk (by first | exact trivial | exact ⟨⟨rfl, rfl⟩, trivial⟩ | exact ⟨⟨rfl, rfl⟩, ⟨rfl, rfl⟩, trivial⟩) ?_; (conv => whnf))
      | (refine CALL0.by (hS ..) rfl ?_; conv => whnf)
      | (refine CALLQ.mk _ _ _ (leL_refl _) (hS ..) rfl ?_; conv => whnf)
    split
    rotate_left
    · rename_i h
      exact Bool.noConfusion ((q1).symm.trans h)
    rename_i hN
    clear hN
    conv => whnf
    split
    rotate_left
    · rename_i h
      exact Bool.noConfusion ((q2).symm.trans h)
    rename_i hN
    clear hN
    conv => whnf
    exact ⟨congrArg (fun s => IV.tup [.str s, .bool true]) hx, rfl⟩
theorem c_CutSuffix (up : List Ces) (l : List UInt8) (c : UInt8) (hl : l.length ≤ 1000000000) :
    Cs gl n_strings_CutSuffix up [.str (bytesS l), .str (bytesS [c])] (bif l.getLast? == some c then .tup [.str (bytesS l.dropLast), .bool true] else .tup [.str (bytesS l), .bool false]) up := by
  refine mk h_strings_CutSuffix rfl rfl ?_
  have h := fun up => c_CutSuffix1 (gl := gl) up l c hl
  cases q : (l.getLast? == some c) with
  | false =>
    rw [q] at h
    conv => whnf
    repeat first
      | (refine DRAW.seek ?_; repeat (first | refine TRYD.take ?_ | refine TRYD.next ?_); conv => whnf)
      | (refine HOLD.mk (by first | exact trivial | exact ⟨⟨rfl, rfl⟩, trivial⟩ | exact ⟨⟨rfl, rfl⟩, ⟨rfl, rfl⟩, trivial⟩) ?_; (conv => whnf))
      | (refine CALL0.by (h ..) rfl ?_; conv => whnf)
      | (refine CALLQ.mk _ _ _ (leL_refl _) (h ..) rfl ?_; conv => whnf)
    exact ⟨rfl, rfl⟩
  | true =>
    rw [q] at h
    conv => whnf
    repeat first
      | (refine DRAW.seek ?_; repeat (first | refine TRYD.take ?_ | refine TRYD.next ?_); conv => whnf)
      | (refine HOLD.mk (by first | exact trivial | exact ⟨⟨rfl, rfl⟩, trivial⟩ | exact ⟨⟨rfl, rfl⟩, ⟨rfl, rfl⟩, trivial⟩) ?_; (conv => whnf))
      | (refine CALL0.by (h ..) rfl ?_; conv => whnf)
      | (refine CALLQ.mk _ _ _ (leL_refl _) (h ..) rfl ?_; conv => whnf)
    exact ⟨rfl, rfl⟩
theorem own_Lines (s : ByteArray) : CompO prog gl n_strings_Lines [.str s] n_strings_Lines_1 [[.str s]] := by
  refine own_of_body (Γ := Γs gl) (C := Cs gl) mixed0 tok0 ⟨fun _ _ _ _ _ h => h, fun _ _ _ _ h => h⟩ ⟨fun _ _ _ _ h => h, fun _ _ _ _ h => h⟩ h_strings_Lines rfl rfl ?_
  conv => whnf
  intro up
  conv => whnf
  exact ⟨rfl, [1], rfl, ⟨⟨_, rfl, rfl, rfl⟩, trivial⟩, rfl⟩
def lineF (P : List (List UInt8)) (k : Nat) : List UInt8 := if k + 1 < P.length then P.getD k [] ++ [10] else P.getD k []
def linesN (P : List (List UInt8)) : Nat := if P.getLastD [] = [] then P.length - 1 else P.length
def LinI (P : List (List UInt8)) (k : Nat) (r : List UInt8) : Prop := (splitL 10 r = P.drop k ∧ k < P.length) ∨ (k = P.length ∧ r = [] ∧ linesN P = k)
theorem drop_last {P : List (List UInt8)} {k : Nat} {r : List UInt8} (h : P.drop k = [r]) : P.length = k + 1 ∧ P.getLastD [] = r ∧ P.getD k [] = r := by
  have hlen : P.length - k = 1 := by rw [← List.length_drop, h]; rfl
  have hk : P[k]? = some r := by
    have : (P.drop k)[0]? = some r := by rw [h]; rfl
    simpa using this
  refine ⟨by omega, ?_, by rw [List.getD_eq_getElem?_getD, hk]; rfl⟩
  have hne : P ≠ [] := by rintro rfl; simp at hlen
  rw [List.getLastD_eq_getLast?, List.getLast?_eq_getElem?, show P.length - 1 = k by omega, hk]; rfl
theorem lin_end {P : List (List UInt8)} {k : Nat} (h : LinI P k []) : linesN P = k := by
  rcases h with ⟨h1, h2⟩ | ⟨_, _, h3⟩
  · obtain ⟨e1, e2, _⟩ := drop_last (show P.drop k = [[]] from h1.symm)
    unfold linesN
    rw [if_pos e2]; omega
  · exact h3
theorem lin_cut {P : List (List UInt8)} {k i : Nat} {r : List UInt8} (h : LinI P k r) (hi : Go.Lib.indexByte r 10 = (i : Int)) : k < linesN P ∧ lineF P k = r.take (i + 1) ∧ LinI P (k + 1) (r.drop (i + 1)) ∧ i < r.length := by
  obtain ⟨h1, h2⟩ := Go.Lib.indexByte_some hi
  have hlt := (List.getElem?_eq_some_iff.1 h1).1
  rcases h with ⟨g1, g2⟩ | ⟨_, rfl, _⟩
  · have hs := splitL_hit h1 h2
    rw [g1] at hs
    have hne := splitL_ne 10 (r.drop (i + 1))
    have hd : P.drop (k + 1) = splitL 10 (r.drop (i + 1)) := by
      rw [← List.drop_drop, hs]; rfl
    have hk : P[k]? = some (r.take i) := by
      have : (P.drop k)[0]? = some (r.take i) := by rw [hs]; rfl
      simpa using this
    have hk1 : k + 1 < P.length := by
      rcases Nat.lt_or_ge (k + 1) P.length with h | h
      · exact h
      · rw [List.drop_eq_nil_of_le h] at hd; exact absurd hd.symm hne
    refine ⟨?_, ?_, .inl ⟨hd.symm, hk1⟩, hlt⟩
    · unfold linesN; split <;> omega
    · unfold lineF
      rw [if_pos hk1, List.getD_eq_getElem?_getD, hk, List.take_add_one, h1]
      rfl
  · simp at hlt
theorem lin_rest {P : List (List UInt8)} {k : Nat} {r : List UInt8} (h : LinI P k r) (hr : r ≠ []) (hi : Go.Lib.indexByte r 10 = -1) : k < linesN P ∧ lineF P k = r ∧ LinI P (k + 1) [] := by
  have hn : (10 : UInt8) ∉ r := fun hm => by
    obtain ⟨j, hj⟩ := List.mem_iff_getElem?.1 hm
    exact Go.Lib.indexByte_none hi j hj
  rcases h with ⟨g1, g2⟩ | ⟨_, e, _⟩
  · rw [splitL_none hn] at g1
    obtain ⟨e1, e2, e3⟩ := drop_last g1.symm
    have hN : linesN P = k + 1 := by unfold linesN; rw [if_neg (by rw [e2]; exact hr)]; exact e1
    refine ⟨by omega, ?_, .inr ⟨e1.symm, rfl, hN⟩⟩
    unfold lineF
    rw [if_neg (by omega)]; exact e3
  · exact absurd e hr
theorem extract_rest (l : List UInt8) (k : Nat) : (bytesS l).extract k (bytesS l).size = bytesS (l.drop k) := by
  rw [Go.Lib.extract_eq, bytesS_size]
  simp only [bytesS_data]
  rw [List.take_of_length_le (by rw [List.length_drop]; omega)]
set_option maxHeartbeats 8000000 in
theorem lines_ivis (l : List UInt8) (hl : l.length ≤ 1000000000) :
    ivisO (CsL gl) (Γs gl) f_strings_Lines_1 [1] [[.str (bytesS l)]] (linesN (splitL 10 l)) (fun k => [.str (bytesS (lineF (splitL 10 l) k))]) := by
  obtain ⟨P, hP⟩ : ∃ P, P = splitL 10 l := ⟨_, rfl⟩
  rw [← hP]
  have h0 : LinI P 0 l := .inl ⟨by rw [hP]; rfl, by rw [hP, splitL_len]; omega⟩
  obtain ⟨N, hN⟩ : ∃ N, N = linesN P := ⟨_, rfl⟩
  rw [← hN]
  conv => whnf
  intro l0
  conv => whnf
  refine .mk (α := {x : Nat × List UInt8 // LinI P x.1 x.2 ∧ x.2.length ≤ 1000000000}) (fun x => ⟨[(1, .ptr 0 1 0), (0, .lit (.func (.yield l0) #[] #[]))], [(1, [.str (bytesS x.1.2)])], List.replicate x.1.1 []⟩) (fun x => x.1.2.length) ⟨(0, l), h0, hl⟩ ⟨?_, ?_, rfl, rfl⟩ ?_
  · exact ⟨leV_refl _, leV_refl _, trivial⟩
  · exact ⟨leL_refl _, trivial⟩
  rintro ⟨⟨k, r⟩, hI, hr⟩
  have hI : LinI P k r := hI
  have hr : r.length ≤ 1000000000 := hr
  have hsz : (bytesS r).size = r.length := bytesS_size r
  have hix := fun up => c_IndexByte (gl := gl) up (bytesS r) 10
  by_cases hne : r = []
  · subst hne
    have hk := lin_end hI
    conv => whnf
    show N ≤ (List.replicate k []).length
    rw [List.length_replicate]; omega
  · have hpos : 0 < r.length := List.length_pos_iff.2 hne
    have q0 : decide (((bytesS r).size : Int) > 0) = true := by rw [hsz]; exact decide_eq_true (by omega)
    obtain ⟨I, hIx⟩ : ∃ I, I = Go.Lib.indexByte r 10 := ⟨_, rfl⟩
    have hge := Go.Lib.indexByte_ge r 10
    rw [show Go.Lib.indexByte (bytesS r).data.toList (Int.toNat 10).toUInt8 = I by rw [bytesS_data]; exact hIx.symm] at hix
    obtain ⟨R, hR⟩ : ∃ R, R = bytesS r := ⟨_, rfl⟩
    rw [← hR] at hix hsz q0
    by_cases hneg : I = -1
    · have q1 : decide (I ≥ 0) = false := by rw [hneg]; rfl
      obtain ⟨k1, k2, k3⟩ := lin_rest hI hne (hIx.symm.trans hneg)
      show iwp _ _ _ _ ⟨[(1, .ptr 0 1 0), (0, .lit (.func (.yield l0) #[] #[]))], [(1, [.str (bytesS r)])], List.replicate k []⟩
      rw [← hR]
      conv => whnf
      split
      rotate_left
      · rename_i h
        exact Bool.noConfusion ((q0).symm.trans h)
      rename_i hN
      clear hN
      conv => whnf
      refine .mk _ _ _ _ _ (leL_refl _) ⟨hix _, rfl⟩ rfl ?_
      conv => whnf
      split
      · rename_i h
        exact Bool.noConfusion ((q1).symm.trans h)
      rename_i hN
      clear hN
      conv => whnf
      refine .mk rfl (by simp) (by simpa [← hN] using k1) (by simp [k2, hR]) rfl ?_
      intro bb
      cases bb
      · conv => whnf
        show N ≤ (List.replicate (N + 1) [] ++ List.replicate k []).length
        simp; omega
      · conv => whnf
        exact ⟨⟨(k + 1, []), k3, Nat.zero_le _⟩, ⟨⟨leV_refl _, leV_refl _, trivial⟩, ⟨leL_refl _, trivial⟩, rfl, rfl⟩, hpos⟩
    · obtain ⟨i, hi⟩ : ∃ i : Nat, I = i := ⟨I.toNat, by omega⟩
      have q1 : decide (I ≥ 0) = true := decide_eq_true (by omega)
      obtain ⟨k1, k2, k3, k4⟩ := lin_cut hI (hIx.symm.trans hi)
      have hw : w64 (I + 1) = ((i + 1 : Nat) : Int) := by rw [hi, w64, wrap_in] <;> omega
      have qa : decide (0 ≤ w64 (I + 1)) = true := by rw [hw]; exact decide_eq_true (by omega)
      have qb : decide (w64 (I + 1) ≤ (R.size : Int)) = true := by rw [hw, hsz]; exact decide_eq_true (by omega)
      have qc : decide ((R.size : Int) ≤ R.size) = true := decide_eq_true (Int.le_refl _)
      have e1 : R.extract 0 (w64 (I + 1)).toNat = bytesS (lineF P k) := by rw [hw, Int.toNat_natCast, hR, extract_all0, k2]
      have e2 : R.extract (w64 (I + 1)).toNat (R.size : Int).toNat = bytesS (r.drop (i + 1)) := by rw [hw, Int.toNat_natCast, Int.toNat_natCast, hR, extract_rest]
      show iwp _ _ _ _ ⟨[(1, .ptr 0 1 0), (0, .lit (.func (.yield l0) #[] #[]))], [(1, [.str (bytesS r)])], List.replicate k []⟩
      rw [← hR]
      conv => whnf
      split
      rotate_left
      · rename_i h
        exact Bool.noConfusion ((q0).symm.trans h)
      rename_i hN
      clear hN
      conv => whnf
      refine .mk _ _ _ _ _ (leL_refl _) ⟨hix _, rfl⟩ rfl ?_
      conv => whnf
      split
      rotate_left
      · rename_i h
        exact Bool.noConfusion ((q1).symm.trans h)
      rename_i hN
      clear hN
      conv => whnf
      refine .mk 9 (by kernel_rfl) ?_
      conv => whnf
      split
      rotate_left
      · rename_i h
        exact Bool.noConfusion ((qa).symm.trans h)
      rename_i hN
      clear hN
      conv => whnf
      split
      rotate_left
      · rename_i h
        exact Bool.noConfusion ((qb).symm.trans h)
      rename_i hN
      clear hN
      conv => whnf
      split
      rotate_left
      · rename_i h
        exact Bool.noConfusion ((qa).symm.trans h)
      rename_i hN
      clear hN
      conv => whnf
      split
      rotate_left
      · rename_i h
        exact Bool.noConfusion ((qb).symm.trans h)
      rename_i hN
      clear hN
      conv => whnf
      split
      rotate_left
      · rename_i h
        exact Bool.noConfusion ((qc).symm.trans h)
      rename_i hN
      clear hN
      conv => whnf
      refine .mk rfl (by simp) (by simpa [← hN] using k1) ?_ rfl ?_
      · show [IV.str (R.extract 0 (w64 (I + 1)).toNat)] = [.str (bytesS (lineF P (List.replicate k []).length))]
        rw [e1, List.length_replicate]
      intro bb
      cases bb
      · conv => whnf
        show N ≤ (List.replicate (N + 1) [] ++ List.replicate k []).length
        simp; omega
      · conv => whnf
        refine ⟨⟨(k + 1, r.drop (i + 1)), k3, by rw [List.length_drop]; omega⟩, ⟨⟨leV_refl _, leV_refl _, trivial⟩, ⟨⟨?_, trivial⟩, trivial⟩, rfl, rfl⟩, (by show (r.drop (i + 1)).length < r.length; rw [List.length_drop]; omega)⟩
        show IV.str (R.extract (w64 (I + 1)).toNat (R.size : Int).toNat) = _
        rw [e2]
theorem v_Lines (l : List UInt8) (hl : l.length ≤ 1000000000) : VisO prog gl n_strings_Lines_1 [[.str (bytesS l)]] (linesN (splitL 10 l)) (fun k => [.str (bytesS (lineF (splitL 10 l) k))]) :=
  vis_of_bodyO (Γ := Γs gl) (C := CsL gl) mixed0 tok0 ⟨fun _ _ _ _ _ h => h.1, fun _ _ _ _ h => h⟩ (fun _ _ _ _ _ h => h.2) h_strings_Lines_1 rfl rfl (by kernel_rfl) rfl rfl (lines_ivis l hl)
end Go.Proofs.YtkdlegfakefjgaaGreatDoor.Ix

namespace Go.Proofs.YtkdlegfakefjgaaGreatDoor.Ix
open Go.Proofs
set_option maxRecDepth 100000
set_option linter.unusedVariables false
set_option linter.unusedSimpArgs false
variable {gl : Nat → IV}
noncomputable abbrev Γi (gl : Nat → IV) : Env := ⟨prog, T, gl, 42, Vis prog gl, none, some [], []⟩
theorem heap_below {w w' : World} (h : Go.RowKit.Below w.heap.size w w') {k : Nat} {o : Obj} (hk : w.heap[k]? = some o) : w'.heap[k]? = some o := by
  rw [h.block k (heap_lt hk)]; exact hk
theorem rune_at (s : ByteArray) (p : Nat) (h : p < s.size) : ((dig (s[p]'h) = true ∧ Utf8.decode s p = ((s[p]'h).toNat, 1)) ∨ (dig (s[p]'h) = false ∧ ((Utf8.decode s p).1 < 48 ∨ 57 < (Utf8.decode s p).1))) := by
  by_cases ha : (s[p]'h).toNat < 128
  · have e := Go.decode_ascii s p h ha
    cases hd : dig (s[p]'h) with
    | true => exact .inl ⟨rfl, e⟩
    | false =>
      refine .inr ⟨rfl, ?_⟩
      rw [e]
      have : ¬ (48 ≤ (s[p]'h).toNat ∧ (s[p]'h).toNat ≤ 57) := fun hh => by rw [dig_iff.2 hh] at hd; cases hd
      omega
  · have e := (Go.decode_high s p h (by omega)).1
    refine .inr ⟨?_, .inr (by omega)⟩
    cases hd : dig (s[p]'h) with
    | true => have := dig_iff.1 hd; omega
    | false => rfl
theorem w32i {n : Int} (h : -2147483648 ≤ n) (h2 : n ≤ 2147483647) : IntKind.i32.wrap n = n := by
  unfold IntKind.wrap
  simp [IntKind.bits, IntKind.signed]
  omega
theorem run_range_str {P : Program} {ρ : Operand → Value} {w : World} {s : ByteArray} {x : Operand} {t : Nat} {o : Oper} (hu : P.underlying t = some .string) (ho : o.op = .range t x) (he : ρ x = .string s) :
    (execOp ρ o).run P w = .ok (.value (.pointer (some ⟨w.heap.size, 0, none⟩))) (w.alloc (.stringIter s 0)) := by
  simp [execOp, ho, he, Instr.range, run_underlying hu]
theorem run_next_str {P : Program} {ρ : Operand → Value} {w w' : World} {v u : Value} {x : Operand} {o : Oper} (ho : o.op = .next x true) (he : ρ x = v) (h : (Instr.next v true o.type).run P w = .ok u w') :
    (execOp ρ o).run P w = .ok (.value u) w' := by
  simp [execOp, ho, he, h]
theorem run_extract0 {P : Program} {ρ : Operand → Value} {w : World} {vs : Array Value} {v : Value} {x : Operand} {o : Oper} {i : Nat} (ho : o.op = .extract x i) (he : ρ x = .tuple vs) (hv : vs[i]? = some v) :
    (execOp ρ o).run P w = .ok (.value v) w := by
  simp [execOp, ho, he, Instr.extract, hv]
set_option maxHeartbeats 4000000 in
theorem c_integer (up : List Ces) (l : List UInt8) (hl : l.length ≤ 1000000000) :
    Cs gl n_control_integer up [.str (bytesS l)] (.tup [.int .i64 (intR l).1, .bool (intR l).2]) up := by
  refine comp_of_below h_control_integer rfl rfl fun vals w0 I X β σ m hlen ha => ?_
  obtain ⟨v0, rfl⟩ := one_arg hlen
  have hv0 : v0 = .string (bytesS l) := noSig_str (ha 0 _ rfl)
  subst hv0
  obtain ⟨s, hs⟩ : ∃ s, s = bytesS l := ⟨_, rfl⟩
  have hsz : s.size = l.length := by rw [hs]; exact bytesS_size l
  have hdat : s.data.toList = l := by rw [hs, bytesS_data]
  rw [← hs]
  refine (callsIn_wide (n := 1)).1 (callsIn_of_wp_marks (F := Fw none) h_control_integer rfl trivial ?_)
  have P := fun {c d : Code} {tm : Tms} {K : St → Prop} {R : Exit → Act → World → Prop} (hnr : noRange c = true) (h : iwp (Cs gl) (Γi gl) c (nrm K) ⟨tm, [], []⟩) {a : Act} {w : World} (hb : Go.RowKit.Below w0.heap.size w0 w)
    (htm : ∀ i, V I (fun _ _ => none) noSig (look tm i) (a.tmps.getD i undef)) (hnt : 42 ≤ a.tmps.size) (hd : a.defers = []) hk =>
    piece_seq (n := 1) (d := d) (R := R) (Γ := Γi gl) (C := Cs gl) mixed0 tok0 ⟨⟨fun _ _ _ _ _ h => h, fun _ _ _ _ h => h⟩, rfl⟩ rfl hnr h (m.below hb).im m.glo (m.below hb).gz htm hnt hd hk
  have leave : ∀ (a : Act) (w : World), a.defers = [] → a.tmps.getD 2 undef = .int .i64 (intR l).1 → a.tmps.getD 3 undef = .bool (intR l).2 → Go.RowKit.Below w0.heap.size w0 w →
      LeavesInM (Fw none) 1 prog f_control_integer a.tmps (fun e w' => ∃ v, e = .returned v ∧ D I (.tup [.int .i64 (intR l).1, .bool (intR l).2]) v ∧ Go.RowKit.Below w0.heap.size w0 w') a.defers .returning w := by
    intro a w hd h2 h3 hb
    rw [hd]
    refine ⟨.tuple #[.int .i64 (intR l).1, .bool (intR l).2], ?_, _, rfl, ?_, hb⟩
    · have hr : f_control_integer.results = #[.tmp 2, .tmp 3] := rfl
      rw [results_eq, hr]
      simp [resSem, h2, h3]
    · refine .tup _ _ rfl fun j x hx => ?_
      match j, hx with
      | 0, hx => simp at hx; subst hx; exact .int _ _
      | 1, hx => simp at hx; subst hx; exact .bool _
  refine P (K := fun _ => True) (tm := []) ?_ ?_ (.refl _ _) (fun i => .data (.dead _)) ?_ ?_ ?_
  · rfl
  · conv => whnf
    trivial
  · show 42 ≤ (#[Value.string s] ++ Array.replicate 41 undef).size
    simp
  · rfl
  intro a1 w1 _ b1 d1 z1 f1
  have g0 : (#[Value.string s] ++ Array.replicate (42 - #[Value.string s].size) undef).getD 0 undef = .string s := by simp [Array.getD_eq_getD_getElem?]
  have g1 : a1.tmps.getD 0 undef = .string s := (f1 0 (by rfl)).trans g0
  refine P (K := fun S => look S.tm 4 = .int .i64 0) (tm := []) ?_ ?_ b1 (fun i => .data (.dead _)) z1 d1 ?_
  · rfl
  · conv => whnf
    rfl
  rintro a2 w2 ⟨S', I', β', σ', hS, ht⟩ b2 d2 z2 f2
  have g2 : a2.tmps.getD 0 undef = .string s := (f2 0 (by rfl)).trans g1
  have q4 : a2.tmps.getD 4 undef = .int .i64 0 := by
    have h := ht 4
    rw [hS] at h
    exact h.int_inv
  replace b2 := b1.trans (b2.mono b1.size)
  clear f1 f2 g1 z1 d1 ht hS S' I' β' σ' b1
  refine wpIn_seq (wpIn_seq (wpIn_region ?_))
  refine op_val rfl rfl (fun c e => by cases e) (v := .string s) (w2 := w2) ?_ ?_
  · show Result.ok (Next.value (a2.tmps.getD 0 undef)) w2 = _
    rw [g2]
  have p7 : (a2.put (some 7) (.string s)).tmps.getD 7 undef = .string s := put_same (Nat.lt_of_lt_of_le (show 7 < 42 by decide) z2)
  refine op_val rfl rfl (fun c e => by cases e) (v := .pointer (some ⟨w2.heap.size, 0, none⟩)) (w2 := w2.alloc (.stringIter s 0)) (run_range_str (by kernel_rfl) rfl p7) ?_
  simp only [wpOpsIn]
  have b3 := b2.alloc b2.size (.stringIter s 0)
  have hit : (w2.alloc (.stringIter s 0)).heap[w2.heap.size]? = some (.stringIter s 0) := World.alloc_heap_new _ _
  have hB : w0.heap.size ≤ w2.heap.size := b2.size
  generalize hBB : w2.heap.size = B at hit hB
  generalize w2.alloc (.stringIter s 0) = w3 at b3 hit
  let LI : Nat → Act → World → Prop := fun p a w => Go.RowKit.Below w0.heap.size w0 w ∧ a.defers = [] ∧ 42 ≤ a.tmps.size ∧ a.tmps.getD 0 undef = .string s ∧ a.tmps.getD 8 undef = .pointer (some ⟨B, 0, none⟩) ∧
    a.tmps.getD 4 undef = .int .i64 (valL (l.take p) : Nat) ∧ w.heap[B]? = some (.stringIter s p)
  have hLI : LI 0 ((a2.put (some 7) (.string s)).put (some 8) (.pointer (some ⟨B, 0, none⟩))) w3 := by
    refine ⟨b3, d2, by simp only [put_size]; exact z2, ?_, put_same (by simp only [put_size]; exact Nat.lt_of_lt_of_le (show 8 < 42 by decide) z2), ?_, hit⟩
    · rw [put_other (by decide), put_other (by decide)]; exact g2
    · rw [put_other (by decide), put_other (by decide)]; exact q4
  show Code.wpIn (Fw none) 1 prog _ _ ((a2.put (some 7) (.string s)).put (some 8) (.pointer (some ⟨B, 0, none⟩))) w3
  refine wpIn_block (wpIn_loop_from (α := {p : Nat // p ≤ l.length ∧ (∀ b ∈ l.take p, dig b = true) ∧ (0 < p → l.length ≤ 9)}) (fun p => LI p.1) (fun p => l.length - p.1) ⟨0, Nat.zero_le _, (by simp), (by simp)⟩ hLI ?_)
  clear hLI hit b3 p7 q4 g2 z2 d2 b2
  rintro ⟨p, hp, hdg, hp9⟩ a w ⟨b1, d1, z1, q0, q8, q4, hit⟩
  by_cases hlt : p < l.length
  · have hps : p < s.size := by omega
    have hnx := Go.Lib.run_next_any_at (P := prog) w B s p 0 hit hps
    have hbyte : s[p]'hps = l[p] := by
      have := Go.Lib.data_getElem? s p hps
      rw [hdat, List.getElem?_eq_getElem hlt] at this
      exact (Option.some.inj this).symm
    obtain ⟨r, wd, hdec⟩ : ∃ r wd, Utf8.decode s p = (r, wd) := ⟨_, _, rfl⟩
    have hle := Go.decode_le s p
    have hrune := rune_at s p hps
    rw [hdec] at hnx hrune hle
    rw [hbyte] at hrune
    simp only at hrune hle hnx
    have hi2 := Go.Lib.iterAt_heap w B s p (p + wd) hit
    have b2 := Go.Lib.below_iterAt b1 hB s (p + wd)
    refine wpIn_seq (wpIn_region ?_)
    refine op_val rfl rfl (fun c e => by cases e) (v := .tuple #[.bool true, .int .i64 p, .int .i32 r]) (w2 := w.iterAt B s (p + wd)) (run_next_str rfl q8 hnx) ?_
    have p9 : (a.put (some 9) (.tuple #[.bool true, .int .i64 p, .int .i32 r])).tmps.getD 9 undef = .tuple #[.bool true, .int .i64 p, .int .i32 r] := put_same (Nat.lt_of_lt_of_le (show 9 < 42 by decide) z1)
    refine op_val rfl rfl (fun c e => by cases e) (v := .bool true) (w2 := w.iterAt B s (p + wd)) (run_extract0 rfl p9 rfl) ?_
    simp only [wpOpsIn]
    have z2 : 42 ≤ ((a.put (some 9) (.tuple #[.bool true, .int .i64 p, .int .i32 r])).put (some 10) (.bool true)).tmps.size := by simp only [put_size]; exact z1
    have d2 : ((a.put (some 9) (.tuple #[.bool true, .int .i64 p, .int .i32 r])).put (some 10) (.bool true)).defers = [] := d1
    have t10 : ((a.put (some 9) (.tuple #[.bool true, .int .i64 p, .int .i32 r])).put (some 10) (.bool true)).tmps.getD 10 undef = .bool true := put_same (by rw [put_size]; exact Nat.lt_of_lt_of_le (show 10 < 42 by decide) z1)
    have t9 : ((a.put (some 9) (.tuple #[.bool true, .int .i64 p, .int .i32 r])).put (some 10) (.bool true)).tmps.getD 9 undef = .tuple #[.bool true, .int .i64 p, .int .i32 r] := by rw [put_other (by decide)]; exact p9
    have t0 : ((a.put (some 9) (.tuple #[.bool true, .int .i64 p, .int .i32 r])).put (some 10) (.bool true)).tmps.getD 0 undef = .string s := by rw [put_other (by decide), put_other (by decide)]; exact q0
    have t8 : ((a.put (some 9) (.tuple #[.bool true, .int .i64 p, .int .i32 r])).put (some 10) (.bool true)).tmps.getD 8 undef = .pointer (some ⟨B, 0, none⟩) := by rw [put_other (by decide), put_other (by decide)]; exact q8
    have t4 : ((a.put (some 9) (.tuple #[.bool true, .int .i64 p, .int .i32 r])).put (some 10) (.bool true)).tmps.getD 4 undef = .int .i64 (valL (l.take p) : Nat) := by rw [put_other (by decide), put_other (by decide)]; exact q4
    show Code.wpIn (Fw none) 1 prog _ _ ((a.put (some 9) (.tuple #[.bool true, .int .i64 p, .int .i32 r])).put (some 10) (.bool true)) (w.iterAt B s (p + wd))
    generalize (a.put (some 9) (.tuple #[.bool true, .int .i64 p, .int .i32 r])).put (some 10) (.bool true) = a5 at z2 d2 t10 t9 t0 t8 t4
    generalize w.iterAt B s (p + wd) = w5 at hi2 b2
    clear p9 hnx hit b1 q0 q8 q4 z1 d1
    refine wpIn_seq (wpIn_cond t10 (wpIn_skip ?_))
    show Code.wpIn (Fw none) 1 prog _ _ a5 w5
    refine wpIn_block ?_
    have htm : ∀ i, V I (fun _ _ => none) noSig (look [(9, .tup [.bool true, .int .i64 p, .int .i32 r]), (4, .int .i64 (valL (l.take p) : Nat)), (0, .str s)] i) (a5.tmps.getD i undef) := by
      intro i
      rw [look_cons]
      split
      · rename_i e; subst e; rw [t9]
        refine .data (.tup _ _ rfl fun j x hx => ?_)
        match j, hx with
        | 0, hx => simp at hx; subst hx; exact .bool _
        | 1, hx => simp at hx; subst hx; exact .int _ _
        | 2, hx => simp at hx; subst hx; exact .int _ _
      · rw [look_cons]
        split
        · rename_i e; subst e; rw [t4]; exact .data (.int _ _)
        · rw [look_cons]
          split
          · rename_i e; subst e; rw [t0]; exact .data (.str _)
          · exact .data (.dead _)
    by_cases hok : dig l[p] = true ∧ l.length ≤ 9
    · obtain ⟨hd1, hl9⟩ := hok
      obtain ⟨hr, hwd⟩ : r = l[p].toNat ∧ wd = 1 := by
        rcases hrune with ⟨_, h⟩ | ⟨h, _⟩
        · exact ⟨congrArg Prod.fst h, congrArg Prod.snd h⟩
        · rw [hd1] at h; cases h
      have hdd := dig_iff.1 hd1
      subst hwd
      have k1 : decide ((r : Int) < 48) = false := decide_eq_false (by omega)
      have k2 : decide ((r : Int) > 57) = false := decide_eq_false (by omega)
      have k3 : decide ((s.size : Int) > 9) = false := decide_eq_false (by omega)
      have hval := valL_take (List.getElem?_eq_getElem hlt)
      have hbound := valL_lt 9 (l.take p) (by rw [List.length_take]; omega) hdg
      have e1 : w64 (w64 (10 * (valL (l.take p) : Nat)) + w64 (IntKind.i32.wrap ((r : Int) - 48))) = (valL (l.take (p + 1)) : Nat) := by
        rw [w32i (by omega) (by omega), hval]
        have : w64 (10 * ((valL (l.take p) : Nat) : Int)) = 10 * (valL (l.take p) : Nat) := by rw [w64, wrap_in] <;> omega
        rw [this]
        have : w64 ((r : Int) - 48) = (r : Int) - 48 := by rw [w64, wrap_in] <;> omega
        rw [this, w64, wrap_in] <;> omega
      refine wpIn_mono (piece (Γ := Γi gl) (C := Cs gl) (Q := nrm fun S => look S.tm 4 = .int .i64 (valL (l.take (p + 1)) : Nat)) (tm := [(9, .tup [.bool true, .int .i64 p, .int .i32 r]), (4, .int .i64 (valL (l.take p) : Nat)), (0, .str s)]) mixed0 tok0 ⟨⟨fun _ _ _ _ _ h => h, fun _ _ _ _ h => h⟩, rfl⟩ rfl ?_ ?_ (m.below b2).im m.glo (m.below b2).gz htm z2 d2) ?_
      · rfl
      · conv => whnf
        split
        · rename_i h
          exact Bool.noConfusion ((k1).symm.trans h)
        rename_i hN
        clear hN
        conv => whnf
        split
        · rename_i h
          exact Bool.noConfusion ((k2).symm.trans h)
        rename_i hN
        clear hN
        conv => whnf
        split
        · rename_i h
          exact Bool.noConfusion ((k3).symm.trans h)
        rename_i hN
        clear hN
        conv => whnf
        exact congrArg (IV.int .i64) e1
      rintro e a6 w6 ⟨hq, b6, d6, z6, f6⟩
      cases e with
      | normal =>
        obtain ⟨S', I', β', σ', hS, ht⟩ := hq
        have hS : look S'.tm 4 = .int .i64 (valL (l.take (p + 1)) : Nat) := hS
        refine ⟨⟨p + 1, hlt, fun b hb => ?_, fun _ => hl9⟩, ⟨b2.trans (b6.mono b2.size), d6, z6, (f6 0 (by rfl)).trans t0, (f6 8 (by rfl)).trans t8, ?_, heap_below b6 hi2⟩, ?_⟩
        · rw [List.take_add_one, List.getElem?_eq_getElem hlt] at hb
          rcases List.mem_append.1 hb with hb | hb
          · exact hdg b hb
          · simp at hb; rw [hb]; exact hd1
        · have h := ht 4
          rw [hS] at h
          exact h.int_inv
        · show l.length - (p + 1) < l.length - p
          omega
      | ret => obtain ⟨_, _, _, _, h, _⟩ := hq; exact h.elim
      | exit id => obtain ⟨_, _, _, _, h, _⟩ := hq; exact h.elim
      | goto l => exact hq.elim
      | panic c => exact hq.elim
      | outgrown => exact hq.elim
    · have hbad : intR l = (0, false) := by
        refine intR_bad ?_
        rcases Bool.eq_false_or_eq_true (l.all dig && decide (l.length ≤ 9)) with h | h
        · rw [Bool.and_eq_true] at h
          exact absurd ⟨List.all_eq_true.1 h.1 _ (List.getElem_mem hlt), of_decide_eq_true h.2⟩ hok
        · exact h
      rw [hbad] at leave
      refine wpIn_mono (piece (Γ := Γi gl) (C := Cs gl) (Q := fun e S => match e with | .ret => look S.tm 2 = .int .i64 0 ∧ look S.tm 3 = .bool false | _ => False) (tm := [(9, .tup [.bool true, .int .i64 p, .int .i32 r]), (4, .int .i64 (valL (l.take p) : Nat)), (0, .str s)]) mixed0 tok0 ⟨⟨fun _ _ _ _ _ h => h, fun _ _ _ _ h => h⟩, rfl⟩ rfl ?_ ?_ (m.below b2).im m.glo (m.below b2).gz htm z2 d2) ?_
      · rfl
      · cases k1 : decide ((r : Int) < 48) with
        | true =>
          conv => whnf
          split
          rotate_left
          · rename_i h
            exact Bool.noConfusion ((k1).symm.trans h)
          rename_i hN
          clear hN
          conv => whnf
          exact ⟨rfl, rfl⟩
        | false =>
        cases k2 : decide ((r : Int) > 57) with
        | true =>
          conv => whnf
          split
          · rename_i h
            exact Bool.noConfusion ((k1).symm.trans h)
          rename_i hN
          clear hN
          conv => whnf
          split
          rotate_left
          · rename_i h
            exact Bool.noConfusion ((k2).symm.trans h)
          rename_i hN
          clear hN
          conv => whnf
          exact ⟨rfl, rfl⟩
        | false =>
          have n1 := of_decide_eq_false k1
          have n2 := of_decide_eq_false k2
          have k3 : decide ((s.size : Int) > 9) = true := by
            refine decide_eq_true ?_
            rcases hrune with ⟨h, _⟩ | ⟨_, h⟩
            · have : ¬ l.length ≤ 9 := fun hh => hok ⟨h, hh⟩
              omega
            · omega
          conv => whnf
          split
          · rename_i h
            exact Bool.noConfusion ((k1).symm.trans h)
          rename_i hN
          clear hN
          conv => whnf
          split
          · rename_i h
            exact Bool.noConfusion ((k2).symm.trans h)
          rename_i hN
          clear hN
          conv => whnf
          split
          rotate_left
          · rename_i h
            exact Bool.noConfusion ((k3).symm.trans h)
          rename_i hN
          clear hN
          conv => whnf
          exact ⟨rfl, rfl⟩
      rintro e a6 w6 ⟨hq, b6, d6, z6, f6⟩
      cases e with
      | ret =>
        obtain ⟨S', I', β', σ', ⟨h2, h3⟩, ht⟩ := hq
        have e2 := ht 2
        have e3 := ht 3
        rw [h2] at e2
        rw [h3] at e3
        rw [hbad]
        exact leave a6 w6 d6 e2.int_inv e3.bool_inv (b2.trans (b6.mono b2.size))
      | normal => obtain ⟨_, _, _, _, h, _⟩ := hq; exact h.elim
      | exit id => obtain ⟨_, _, _, _, h, _⟩ := hq; exact h.elim
      | goto l => exact hq.elim
      | panic c => exact hq.elim
      | outgrown => exact hq.elim
  · have hpe : p = l.length := by omega
    subst hpe
    have hnx := Go.Lib.run_next_end_at (P := prog) w B s l.length 0 hit (by omega)
    refine wpIn_seq (wpIn_region ?_)
    refine op_val rfl rfl (fun c e => by cases e) (v := .tuple #[.bool false]) (w2 := w) (run_next_str rfl q8 hnx) ?_
    have p9 : (a.put (some 9) (.tuple #[.bool false])).tmps.getD 9 undef = .tuple #[.bool false] := put_same (Nat.lt_of_lt_of_le (show 9 < 42 by decide) z1)
    refine op_val rfl rfl (fun c e => by cases e) (v := .bool false) (w2 := w) (run_extract0 rfl p9 rfl) ?_
    simp only [wpOpsIn]
    have z2 : 42 ≤ ((a.put (some 9) (.tuple #[.bool false])).put (some 10) (.bool false)).tmps.size := by simp only [put_size]; exact z1
    have d2 : ((a.put (some 9) (.tuple #[.bool false])).put (some 10) (.bool false)).defers = [] := d1
    have t10 : ((a.put (some 9) (.tuple #[.bool false])).put (some 10) (.bool false)).tmps.getD 10 undef = .bool false := put_same (by rw [put_size]; exact Nat.lt_of_lt_of_le (show 10 < 42 by decide) z1)
    have t0 : ((a.put (some 9) (.tuple #[.bool false])).put (some 10) (.bool false)).tmps.getD 0 undef = .string s := by rw [put_other (by decide), put_other (by decide)]; exact q0
    have t4 : ((a.put (some 9) (.tuple #[.bool false])).put (some 10) (.bool false)).tmps.getD 4 undef = .int .i64 (valL l : Nat) := by rw [put_other (by decide), put_other (by decide), q4, List.take_length]
    show Code.wpIn (Fw none) 1 prog _ _ ((a.put (some 9) (.tuple #[.bool false])).put (some 10) (.bool false)) w
    generalize (a.put (some 9) (.tuple #[.bool false])).put (some 10) (.bool false) = a5 at z2 d2 t10 t0 t4
    clear p9 hnx hit q0 q8 q4 z1 d1
    rw [List.take_length] at hdg
    refine wpIn_seq (wpIn_cond t10 (wpIn_exit ?_))
    show Code.wpIn (Fw none) 1 prog _ _ a5 w
    have htm : ∀ i, V I (fun _ _ => none) noSig (look [(4, .int .i64 (valL l : Nat)), (0, .str s)] i) (a5.tmps.getD i undef) := by
      intro i
      rw [look_cons]
      split
      · rename_i e; subst e; rw [t4]; exact .data (.int _ _)
      · rw [look_cons]
        split
        · rename_i e; subst e; rw [t0]; exact .data (.str _)
        · exact .data (.dead _)
    have hres : l.length ≤ 9 := by
      rcases Nat.eq_zero_or_pos l.length with h | h
      · omega
      · exact hp9 h
    have hR := intR_ok hdg hres
    refine wpIn_mono (piece (Γ := Γi gl) (C := Cs gl) (Q := fun e S => match e with | .ret => look S.tm 2 = .int .i64 (intR l).1 ∧ look S.tm 3 = .bool (intR l).2 | _ => False) (tm := [(4, .int .i64 (valL l : Nat)), (0, .str s)]) mixed0 tok0 ⟨⟨fun _ _ _ _ _ h => h, fun _ _ _ _ h => h⟩, rfl⟩ rfl ?_ ?_ (m.below b1).im m.glo (m.below b1).gz htm z2 d2) ?_
    · rfl
    · rw [hR]
      cases k1 : (!(s.toList == ByteArray.empty.toList)) with
      | false =>
        have hnil : l = [] := by
          have : (s.toList == ByteArray.empty.toList) = true := by simpa using k1
          rw [beq_iff_eq, Go.Lib.toList_data, Go.Lib.toList_data, hdat] at this
          exact this
        conv => whnf
        refine DRAW.seek ?_
        repeat (first | refine TRYD.take ?_ | refine TRYD.next ?_)
        conv => whnf
        split
        · rename_i h
          exact Bool.noConfusion ((k1).symm.trans h)
        rename_i hN
        clear hN
        conv => whnf
        exact ⟨rfl, by rw [hnil]; rfl⟩
      | true =>
        have hne : l ≠ [] := fun e => by
          have : (s.toList == ByteArray.empty.toList) = true := by rw [beq_iff_eq, Go.Lib.toList_data, Go.Lib.toList_data, hdat, e]; rfl
          rw [this] at k1; cases k1
        have hpos : 0 < l.length := List.length_pos_iff.2 hne
        have he : l.isEmpty = false := by cases l <;> simp_all
        cases k2 : ((s.size : Int) == 1) with
        | true =>
          have h1 : l.length = 1 := by have := beq_iff_eq.1 k2; omega
          conv => whnf
          refine DRAW.seek ?_
          repeat (first | refine TRYD.take ?_ | refine TRYD.next ?_)
          conv => whnf
          split
          rotate_left
          · rename_i h
            exact Bool.noConfusion ((k1).symm.trans h)
          rename_i hN
          clear hN
          conv => whnf
          split
          rotate_left
          · rename_i h
            exact Bool.noConfusion ((k2).symm.trans h)
          rename_i hN
          clear hN
          conv => whnf
          exact ⟨rfl, by show IV.bool true = .bool _; rw [he, h1]; rfl⟩
        | false =>
          have h1 : (l.length == 1) = false := by
            have : ¬ ((s.size : Int) = 1) := by simpa using k2
            rw [beq_eq_false_iff_ne]; omega
          have k3 : decide ((0 : Int) < s.size) = true := decide_eq_true (by omega)
          conv => whnf
          refine DRAW.seek ?_
          repeat (first | refine TRYD.take ?_ | refine TRYD.next ?_)
          conv => whnf
          split
          rotate_left
          · rename_i h
            exact Bool.noConfusion ((k1).symm.trans h)
          rename_i hN
          clear hN
          conv => whnf
          split
          · rename_i h
            exact Bool.noConfusion ((k2).symm.trans h)
          rename_i hN
          clear hN
          conv => whnf
          split
          rotate_left
          · rename_i h
            exact Bool.noConfusion ((k3).symm.trans h)
          rename_i hN
          clear hN
          conv => whnf
          refine ⟨rfl, ?_⟩
          show IV.bool (((s.data.toList.getD 0 0).toNat : Int) != 48) = .bool _
          rw [he, h1, hdat]
          refine congrArg IV.bool ?_
          cases l with
          | nil => simp at hpos
          | cons x r =>
            show (((x.toNat : Nat) : Int) != 48) = _
            by_cases hx : x = 48
            · subst hx; rfl
            · have : ¬ ((x.toNat : Nat) : Int) = 48 := fun h => hx (by
                apply UInt8.toNat_inj.1
                have : x.toNat = 48 := by omega
                rw [this]; rfl)
              have h3 : (x == 48) = false := by simpa using hx
              simp [h3, this]
    rintro e a6 w6 ⟨hq, b6, d6, z6, f6⟩
    cases e with
    | ret =>
      obtain ⟨S', I', β', σ', ⟨h2, h3⟩, ht⟩ := hq
      have e2 := ht 2
      have e3 := ht 3
      rw [h2] at e2
      rw [h3] at e3
      exact leave a6 w6 d6 e2.int_inv e3.bool_inv (b1.trans (b6.mono b1.size))
    | normal => obtain ⟨_, _, _, _, h, _⟩ := hq; exact h.elim
    | exit id => obtain ⟨_, _, _, _, h, _⟩ := hq; exact h.elim
    | goto l => exact hq.elim
    | panic c => exact hq.elim
    | outgrown => exact hq.elim
end Go.Proofs.YtkdlegfakefjgaaGreatDoor.Ix

namespace Go.Proofs.YtkdlegfakefjgaaGreatDoor.Ix
open Go.Proofs
set_option maxRecDepth 100000
set_option linter.unusedVariables false
set_option linter.unusedSimpArgs false
variable {gl : Nat → IV}
abbrev blade0 : ByteArray := ⟨#[48]⟩
abbrev blade1 : ByteArray := ⟨#[49]⟩
abbrev blade2 : ByteArray := ⟨#[50]⟩
abbrev bladeN : ByteArray := ⟨#[45]⟩
def ac0 : Ac := ⟨ByteArray.empty, 0, 0, 0, 0⟩
noncomputable def wordsR (w : Nat → List UInt8) : Ac × Bool :=
  let k := idxS (bytesS (w 4)) [blade0, blade1, blade2] 0
  (⟨bytesS (w 0), (intR (w 1)).1, (intR (w 2)).1, (intR (w 3)).1, k⟩, (((decide (k ≥ 0) || eqS (bytesS (w 4)) bladeN) && (intR (w 1)).2) && (intR (w 2)).2) && (intR (w 3)).2)
noncomputable def parsedR (P : List (List UInt8)) : Ac × Bool := bif ((P.length : Int) != 5) || eqS (bytesS (P.getD 0 [])) ByteArray.empty then (ac0, false) else wordsR fun i => P.getD i []
theorem c_IndexB (up : List Ces) (x : ByteArray) : Cs gl n_slices_Index_string_string up [.lst none 1 3 (litF 1 [.str blade0, .str blade1, .str blade2]), .str x] (.int .i64 (idxS x [blade0, blade1, blade2] 0)) up := by
  refine Comp.le ?_ (c_Index (gl := gl) up [blade0, blade1, blade2] (by decide) x)
  refine ⟨⟨.inl rfl, rfl, rfl, fun i hi => ?_⟩, leV_refl _, trivial⟩
  match i, hi with
  | 0, _ => rfl
  | 1, _ => rfl
  | 2, _ => rfl
def fineF (f0 : Bool) (b : Nat → Bool) : Nat → Bool
  | 0 => f0
  | i + 1 => fineF f0 b i && b (i + 1)
def numA (n : Nat → Int) : Nat → Nat → Int
  | 0, _ => 0
  | 1, 0 => n 1
  | 1, _ => 0
  | 2, 0 => n 1
  | 2, 1 => n 2
  | 2, _ => 0
  | _, 0 => n 1
  | _, 1 => n 2
  | _, _ => n 3
def numC (s : ByteArray) (n : Nat → Int) (k : Int) (i : Nat) : List IV := [.str s, .int .i64 (numA n i 0), .int .i64 (numA n i 1), .int .i64 (numA n i 2), .int .i64 k]
set_option maxHeartbeats 8000000 in
theorem c_parsed5 (up : List Ces) (s : ByteArray) (w : Nat → List UInt8) (hw : ∀ i, (w i).length ≤ 1000000000) (q0 : eqS (bytesS (w 0)) ByteArray.empty = false)
    (hS : ∀ up, Cs gl n_strings_Split up [.str s, .str ⟨#[32]⟩] (.lst none 1 5 fun i => [.str (bytesS (w i))]) up) :
    Cs gl n_control_parsed up [.str s] (.tup [(wordsR w).1.iv, .bool (wordsR w).2]) up := by
  obtain ⟨x, hx⟩ : ∃ x : Nat → ByteArray, x = fun i => bytesS (w i) := ⟨_, rfl⟩
  have hn := fun up i => c_integer (gl := gl) up (w i) (hw i)
  obtain ⟨n, hnn⟩ : ∃ n : Nat → Int, n = fun i => (intR (w i)).1 := ⟨_, rfl⟩
  obtain ⟨b, hbb⟩ : ∃ b : Nat → Bool, b = fun i => (intR (w i)).2 := ⟨_, rfl⟩
  have hn : ∀ up i, Cs gl n_control_integer up [.str (x i)] (.tup [.int .i64 (n i), .bool (b i)]) up := fun up i => by rw [hx, hnn, hbb]; exact hn up i
  have hS : ∀ up, Cs gl n_strings_Split up [.str s, .str ⟨#[32]⟩] (.lst none 1 5 fun i => [.str (x i)]) up := by rw [hx]; exact hS
  have hI := fun up => c_IndexB (gl := gl) up (x 4)
  have q0 : eqS (x 0) ByteArray.empty = false := by rw [hx]; exact q0
  have hR : wordsR w = (⟨x 0, n 1, n 2, n 3, idxS (x 4) [blade0, blade1, blade2] 0⟩, (((decide (idxS (x 4) [blade0, blade1, blade2] 0 ≥ 0) || eqS (x 4) bladeN) && b 1) && b 2) && b 3) := by rw [hx, hnn, hbb]; rfl
  rw [hR]
  obtain ⟨k, hk⟩ : ∃ k, k = idxS (x 4) [blade0, blade1, blade2] 0 := ⟨_, rfl⟩
  rw [← hk] at hI ⊢
  clear hR hk hx hnn hbb
  cases q1 : decide (k ≥ 0) with
  | true =>
    obtain ⟨F, hF⟩ : ∃ F, F = fineF true b := ⟨_, rfl⟩
    have hFs : ∀ i, F (i + 1) = (F i && b (i + 1)) := fun i => by rw [hF]; rfl
    have hF0 : IV.bool true = IV.bool (F 0) := by rw [hF]; rfl
    have hfin : ((((true || eqS (x 4) bladeN) && b 1) && b 2) && b 3) = F 3 := by rw [hF]; rfl
    refine mk h_control_parsed rfl rfl ?_
    rw [hfin]
    conv => whnf
    repeat first
      | (refine DRAW.seek ?_; repeat (first | refine TRYD.take ?_ | refine TRYD.next ?_); conv => whnf)
      | (refine HOLD.mk (by first | exact trivial | exact ⟨⟨rfl, rfl⟩, trivial⟩ | exact ⟨⟨rfl, rfl⟩, ⟨rfl, rfl⟩, trivial⟩) ?_; (conv => whnf))
      | (refine CALL0.by (hS ..) rfl ?_; conv => whnf)
      | (refine CALLQ.mk _ _ _ (leL_refl _) (hS ..) rfl ?_; conv => whnf)
    split
    · rename_i h
      exact Bool.noConfusion ((q0).symm.trans h)
    rename_i hN
    clear hN
    conv => whnf
    repeat first
      | (refine DRAW.seek ?_; repeat (first | refine TRYD.take ?_ | refine TRYD.next ?_); conv => whnf)
      | (refine HOLD.mk (by first | exact trivial | exact ⟨⟨rfl, rfl⟩, trivial⟩ | exact ⟨⟨rfl, rfl⟩, ⟨rfl, rfl⟩, trivial⟩) ?_; (conv => whnf))
      | (refine CALL0.by (hI ..) rfl ?_; conv => whnf)
      | (refine CALLQ.mk _ _ _ (leL_refl _) (hI ..) rfl ?_; conv => whnf)
    split
    rotate_left
    · rename_i h
      exact Bool.noConfusion ((q1).symm.trans h)
    rename_i hN
    clear hN
    conv => whnf
    refine .mk (α := {i : Nat // i ≤ 3}) (fun i => ⟨[(45, .int .i64 i.1), (44, .agg [.ptr 0 5 1, .ptr 0 5 2, .ptr 0 5 3]), (4, .lst none 1 5 fun i => [.str (x i)]), (6, .bool (F i.1)), (5, .ptr 0 5 0), (2, .ptr 0 2 0)], [(5, numC (x 0) n k i.1), (2, ac0.cs)], up⟩) (fun i => 3 - i.1) ⟨0, by decide⟩ ⟨⟨leV_refl _, leV_refl _, leV_refl _, hF0, leV_refl _, leV_refl _, trivial⟩, ⟨?_, ?_, trivial⟩, rfl, rfl⟩ ?_
    · exact ⟨rfl, rfl, rfl, rfl, rfl, trivial⟩
    · exact ⟨rfl, rfl, rfl, rfl, rfl, trivial⟩
    rintro ⟨i, hi⟩
    have hn1 := fun up => hn up 1
    have hn2 := fun up => hn up 2
    have hn3 := fun up => hn up 3
    match i, hi with
    | 0, hi =>
      cases qf : F 0 with
      | true =>
        conv => whnf
        repeat first
          | (refine DRAW.seek ?_; repeat (first | refine TRYD.take ?_ | refine TRYD.next ?_); conv => whnf)
          | (refine HOLD.mk (by first | exact trivial | exact ⟨⟨rfl, rfl⟩, trivial⟩ | exact ⟨⟨rfl, rfl⟩, ⟨rfl, rfl⟩, trivial⟩) ?_; (conv => whnf))
          | (refine CALL0.by (hn1 ..) rfl ?_; conv => whnf)
          | (refine CALLQ.mk _ _ _ (leL_refl _) (hn1 ..) rfl ?_; conv => whnf)
        refine ⟨⟨1, by decide⟩, ⟨⟨leV_refl _, leV_refl _, leV_refl _, ?_, leV_refl _, leV_refl _, trivial⟩, (by exact ⟨⟨rfl, rfl, rfl, rfl, rfl, trivial⟩, ⟨rfl, rfl, rfl, rfl, rfl, trivial⟩, trivial⟩), rfl, rfl⟩, (by show 3 - 1 < 3 - 0; decide)⟩
        show IV.bool (b 1) = IV.bool (F 1)
        rw [hFs 0, qf]; rfl
      | false =>
        conv => whnf
        repeat first
          | (refine DRAW.seek ?_; repeat (first | refine TRYD.take ?_ | refine TRYD.next ?_); conv => whnf)
          | (refine HOLD.mk (by first | exact trivial | exact ⟨⟨rfl, rfl⟩, trivial⟩ | exact ⟨⟨rfl, rfl⟩, ⟨rfl, rfl⟩, trivial⟩) ?_; (conv => whnf))
          | (refine CALL0.by (hn1 ..) rfl ?_; conv => whnf)
          | (refine CALLQ.mk _ _ _ (leL_refl _) (hn1 ..) rfl ?_; conv => whnf)
        refine ⟨⟨1, by decide⟩, ⟨⟨leV_refl _, leV_refl _, leV_refl _, ?_, leV_refl _, leV_refl _, trivial⟩, (by exact ⟨⟨rfl, rfl, rfl, rfl, rfl, trivial⟩, ⟨rfl, rfl, rfl, rfl, rfl, trivial⟩, trivial⟩), rfl, rfl⟩, (by show 3 - 1 < 3 - 0; decide)⟩
        show IV.bool false = IV.bool (F 1)
        rw [hFs 0, qf]; rfl
    | 1, hi =>
      cases qf : F 1 with
      | true =>
        conv => whnf
        repeat first
          | (refine DRAW.seek ?_; repeat (first | refine TRYD.take ?_ | refine TRYD.next ?_); conv => whnf)
          | (refine HOLD.mk (by first | exact trivial | exact ⟨⟨rfl, rfl⟩, trivial⟩ | exact ⟨⟨rfl, rfl⟩, ⟨rfl, rfl⟩, trivial⟩) ?_; (conv => whnf))
          | (refine CALL0.by (hn2 ..) rfl ?_; conv => whnf)
          | (refine CALLQ.mk _ _ _ (leL_refl _) (hn2 ..) rfl ?_; conv => whnf)
        refine ⟨⟨2, by decide⟩, ⟨⟨leV_refl _, leV_refl _, leV_refl _, ?_, leV_refl _, leV_refl _, trivial⟩, (by exact ⟨⟨rfl, rfl, rfl, rfl, rfl, trivial⟩, ⟨rfl, rfl, rfl, rfl, rfl, trivial⟩, trivial⟩), rfl, rfl⟩, (by show 3 - 2 < 3 - 1; decide)⟩
        show IV.bool (b 2) = IV.bool (F 2)
        rw [hFs 1, qf]; rfl
      | false =>
        conv => whnf
        repeat first
          | (refine DRAW.seek ?_; repeat (first | refine TRYD.take ?_ | refine TRYD.next ?_); conv => whnf)
          | (refine HOLD.mk (by first | exact trivial | exact ⟨⟨rfl, rfl⟩, trivial⟩ | exact ⟨⟨rfl, rfl⟩, ⟨rfl, rfl⟩, trivial⟩) ?_; (conv => whnf))
          | (refine CALL0.by (hn2 ..) rfl ?_; conv => whnf)
          | (refine CALLQ.mk _ _ _ (leL_refl _) (hn2 ..) rfl ?_; conv => whnf)
        refine ⟨⟨2, by decide⟩, ⟨⟨leV_refl _, leV_refl _, leV_refl _, ?_, leV_refl _, leV_refl _, trivial⟩, (by exact ⟨⟨rfl, rfl, rfl, rfl, rfl, trivial⟩, ⟨rfl, rfl, rfl, rfl, rfl, trivial⟩, trivial⟩), rfl, rfl⟩, (by show 3 - 2 < 3 - 1; decide)⟩
        show IV.bool false = IV.bool (F 2)
        rw [hFs 1, qf]; rfl
    | 2, hi =>
      cases qf : F 2 with
      | true =>
        conv => whnf
        repeat first
          | (refine DRAW.seek ?_; repeat (first | refine TRYD.take ?_ | refine TRYD.next ?_); conv => whnf)
          | (refine HOLD.mk (by first | exact trivial | exact ⟨⟨rfl, rfl⟩, trivial⟩ | exact ⟨⟨rfl, rfl⟩, ⟨rfl, rfl⟩, trivial⟩) ?_; (conv => whnf))
          | (refine CALL0.by (hn3 ..) rfl ?_; conv => whnf)
          | (refine CALLQ.mk _ _ _ (leL_refl _) (hn3 ..) rfl ?_; conv => whnf)
        refine ⟨⟨3, by decide⟩, ⟨⟨leV_refl _, leV_refl _, leV_refl _, ?_, leV_refl _, leV_refl _, trivial⟩, (by exact ⟨⟨rfl, rfl, rfl, rfl, rfl, trivial⟩, ⟨rfl, rfl, rfl, rfl, rfl, trivial⟩, trivial⟩), rfl, rfl⟩, (by show 3 - 3 < 3 - 2; decide)⟩
        show IV.bool (b 3) = IV.bool (F 3)
        rw [hFs 2, qf]; rfl
      | false =>
        conv => whnf
        repeat first
          | (refine DRAW.seek ?_; repeat (first | refine TRYD.take ?_ | refine TRYD.next ?_); conv => whnf)
          | (refine HOLD.mk (by first | exact trivial | exact ⟨⟨rfl, rfl⟩, trivial⟩ | exact ⟨⟨rfl, rfl⟩, ⟨rfl, rfl⟩, trivial⟩) ?_; (conv => whnf))
          | (refine CALL0.by (hn3 ..) rfl ?_; conv => whnf)
          | (refine CALLQ.mk _ _ _ (leL_refl _) (hn3 ..) rfl ?_; conv => whnf)
        refine ⟨⟨3, by decide⟩, ⟨⟨leV_refl _, leV_refl _, leV_refl _, ?_, leV_refl _, leV_refl _, trivial⟩, (by exact ⟨⟨rfl, rfl, rfl, rfl, rfl, trivial⟩, ⟨rfl, rfl, rfl, rfl, rfl, trivial⟩, trivial⟩), rfl, rfl⟩, (by show 3 - 3 < 3 - 2; decide)⟩
        show IV.bool false = IV.bool (F 3)
        rw [hFs 2, qf]; rfl
    | 3, hi =>
      conv => whnf
      exact ⟨rfl, rfl⟩
  | false =>
    obtain ⟨F, hF⟩ : ∃ F, F = fineF (eqS (x 4) bladeN) b := ⟨_, rfl⟩
    have hFs : ∀ i, F (i + 1) = (F i && b (i + 1)) := fun i => by rw [hF]; rfl
    have hF0 : IV.bool (eqS (x 4) bladeN) = IV.bool (F 0) := by rw [hF]; rfl
    have hfin : ((((false || eqS (x 4) bladeN) && b 1) && b 2) && b 3) = F 3 := by rw [hF]; rfl
    refine mk h_control_parsed rfl rfl ?_
    rw [hfin]
    conv => whnf
    repeat first
      | (refine DRAW.seek ?_; repeat (first | refine TRYD.take ?_ | refine TRYD.next ?_); conv => whnf)
      | (refine HOLD.mk (by first | exact trivial | exact ⟨⟨rfl, rfl⟩, trivial⟩ | exact ⟨⟨rfl, rfl⟩, ⟨rfl, rfl⟩, trivial⟩) ?_; (conv => whnf))
      | (refine CALL0.by (hS ..) rfl ?_; conv => whnf)
      | (refine CALLQ.mk _ _ _ (leL_refl _) (hS ..) rfl ?_; conv => whnf)
    split
    · rename_i h
      exact Bool.noConfusion ((q0).symm.trans h)
    rename_i hN
    clear hN
    conv => whnf
    repeat first
      | (refine DRAW.seek ?_; repeat (first | refine TRYD.take ?_ | refine TRYD.next ?_); conv => whnf)
      | (refine HOLD.mk (by first | exact trivial | exact ⟨⟨rfl, rfl⟩, trivial⟩ | exact ⟨⟨rfl, rfl⟩, ⟨rfl, rfl⟩, trivial⟩) ?_; (conv => whnf))
      | (refine CALL0.by (hI ..) rfl ?_; conv => whnf)
      | (refine CALLQ.mk _ _ _ (leL_refl _) (hI ..) rfl ?_; conv => whnf)
    split
    · rename_i h
      exact Bool.noConfusion ((q1).symm.trans h)
    rename_i hN
    clear hN
    conv => whnf
    refine .mk (α := {i : Nat // i ≤ 3}) (fun i => ⟨[(45, .int .i64 i.1), (44, .agg [.ptr 0 5 1, .ptr 0 5 2, .ptr 0 5 3]), (4, .lst none 1 5 fun i => [.str (x i)]), (6, .bool (F i.1)), (5, .ptr 0 5 0), (2, .ptr 0 2 0)], [(5, numC (x 0) n k i.1), (2, ac0.cs)], up⟩) (fun i => 3 - i.1) ⟨0, by decide⟩ ⟨⟨leV_refl _, leV_refl _, leV_refl _, hF0, leV_refl _, leV_refl _, trivial⟩, ⟨?_, ?_, trivial⟩, rfl, rfl⟩ ?_
    · exact ⟨rfl, rfl, rfl, rfl, rfl, trivial⟩
    · exact ⟨rfl, rfl, rfl, rfl, rfl, trivial⟩
    rintro ⟨i, hi⟩
    have hn1 := fun up => hn up 1
    have hn2 := fun up => hn up 2
    have hn3 := fun up => hn up 3
    match i, hi with
    | 0, hi =>
      cases qf : F 0 with
      | true =>
        conv => whnf
        repeat first
          | (refine DRAW.seek ?_; repeat (first | refine TRYD.take ?_ | refine TRYD.next ?_); conv => whnf)
          | (refine HOLD.mk (by first | exact trivial | exact ⟨⟨rfl, rfl⟩, trivial⟩ | exact ⟨⟨rfl, rfl⟩, ⟨rfl, rfl⟩, trivial⟩) ?_; (conv => whnf))
          | (refine CALL0.by (hn1 ..) rfl ?_; conv => whnf)
          | (refine CALLQ.mk _ _ _ (leL_refl _) (hn1 ..) rfl ?_; conv => whnf)
        refine ⟨⟨1, by decide⟩, ⟨⟨leV_refl _, leV_refl _, leV_refl _, ?_, leV_refl _, leV_refl _, trivial⟩, (by exact ⟨⟨rfl, rfl, rfl, rfl, rfl, trivial⟩, ⟨rfl, rfl, rfl, rfl, rfl, trivial⟩, trivial⟩), rfl, rfl⟩, (by show 3 - 1 < 3 - 0; decide)⟩
        show IV.bool (b 1) = IV.bool (F 1)
        rw [hFs 0, qf]; rfl
      | false =>
        conv => whnf
        repeat first
          | (refine DRAW.seek ?_; repeat (first | refine TRYD.take ?_ | refine TRYD.next ?_); conv => whnf)
          | (refine HOLD.mk (by first | exact trivial | exact ⟨⟨rfl, rfl⟩, trivial⟩ | exact ⟨⟨rfl, rfl⟩, ⟨rfl, rfl⟩, trivial⟩) ?_; (conv => whnf))
          | (refine CALL0.by (hn1 ..) rfl ?_; conv => whnf)
          | (refine CALLQ.mk _ _ _ (leL_refl _) (hn1 ..) rfl ?_; conv => whnf)
        refine ⟨⟨1, by decide⟩, ⟨⟨leV_refl _, leV_refl _, leV_refl _, ?_, leV_refl _, leV_refl _, trivial⟩, (by exact ⟨⟨rfl, rfl, rfl, rfl, rfl, trivial⟩, ⟨rfl, rfl, rfl, rfl, rfl, trivial⟩, trivial⟩), rfl, rfl⟩, (by show 3 - 1 < 3 - 0; decide)⟩
        show IV.bool false = IV.bool (F 1)
        rw [hFs 0, qf]; rfl
    | 1, hi =>
      cases qf : F 1 with
      | true =>
        conv => whnf
        repeat first
          | (refine DRAW.seek ?_; repeat (first | refine TRYD.take ?_ | refine TRYD.next ?_); conv => whnf)
          | (refine HOLD.mk (by first | exact trivial | exact ⟨⟨rfl, rfl⟩, trivial⟩ | exact ⟨⟨rfl, rfl⟩, ⟨rfl, rfl⟩, trivial⟩) ?_; (conv => whnf))
          | (refine CALL0.by (hn2 ..) rfl ?_; conv => whnf)
          | (refine CALLQ.mk _ _ _ (leL_refl _) (hn2 ..) rfl ?_; conv => whnf)
        refine ⟨⟨2, by decide⟩, ⟨⟨leV_refl _, leV_refl _, leV_refl _, ?_, leV_refl _, leV_refl _, trivial⟩, (by exact ⟨⟨rfl, rfl, rfl, rfl, rfl, trivial⟩, ⟨rfl, rfl, rfl, rfl, rfl, trivial⟩, trivial⟩), rfl, rfl⟩, (by show 3 - 2 < 3 - 1; decide)⟩
        show IV.bool (b 2) = IV.bool (F 2)
        rw [hFs 1, qf]; rfl
      | false =>
        conv => whnf
        repeat first
          | (refine DRAW.seek ?_; repeat (first | refine TRYD.take ?_ | refine TRYD.next ?_); conv => whnf)
          | (refine HOLD.mk (by first | exact trivial | exact ⟨⟨rfl, rfl⟩, trivial⟩ | exact ⟨⟨rfl, rfl⟩, ⟨rfl, rfl⟩, trivial⟩) ?_; (conv => whnf))
          | (refine CALL0.by (hn2 ..) rfl ?_; conv => whnf)
          | (refine CALLQ.mk _ _ _ (leL_refl _) (hn2 ..) rfl ?_; conv => whnf)
        refine ⟨⟨2, by decide⟩, ⟨⟨leV_refl _, leV_refl _, leV_refl _, ?_, leV_refl _, leV_refl _, trivial⟩, (by exact ⟨⟨rfl, rfl, rfl, rfl, rfl, trivial⟩, ⟨rfl, rfl, rfl, rfl, rfl, trivial⟩, trivial⟩), rfl, rfl⟩, (by show 3 - 2 < 3 - 1; decide)⟩
        show IV.bool false = IV.bool (F 2)
        rw [hFs 1, qf]; rfl
    | 2, hi =>
      cases qf : F 2 with
      | true =>
        conv => whnf
        repeat first
          | (refine DRAW.seek ?_; repeat (first | refine TRYD.take ?_ | refine TRYD.next ?_); conv => whnf)
          | (refine HOLD.mk (by first | exact trivial | exact ⟨⟨rfl, rfl⟩, trivial⟩ | exact ⟨⟨rfl, rfl⟩, ⟨rfl, rfl⟩, trivial⟩) ?_; (conv => whnf))
          | (refine CALL0.by (hn3 ..) rfl ?_; conv => whnf)
          | (refine CALLQ.mk _ _ _ (leL_refl _) (hn3 ..) rfl ?_; conv => whnf)
        refine ⟨⟨3, by decide⟩, ⟨⟨leV_refl _, leV_refl _, leV_refl _, ?_, leV_refl _, leV_refl _, trivial⟩, (by exact ⟨⟨rfl, rfl, rfl, rfl, rfl, trivial⟩, ⟨rfl, rfl, rfl, rfl, rfl, trivial⟩, trivial⟩), rfl, rfl⟩, (by show 3 - 3 < 3 - 2; decide)⟩
        show IV.bool (b 3) = IV.bool (F 3)
        rw [hFs 2, qf]; rfl
      | false =>
        conv => whnf
        repeat first
          | (refine DRAW.seek ?_; repeat (first | refine TRYD.take ?_ | refine TRYD.next ?_); conv => whnf)
          | (refine HOLD.mk (by first | exact trivial | exact ⟨⟨rfl, rfl⟩, trivial⟩ | exact ⟨⟨rfl, rfl⟩, ⟨rfl, rfl⟩, trivial⟩) ?_; (conv => whnf))
          | (refine CALL0.by (hn3 ..) rfl ?_; conv => whnf)
          | (refine CALLQ.mk _ _ _ (leL_refl _) (hn3 ..) rfl ?_; conv => whnf)
        refine ⟨⟨3, by decide⟩, ⟨⟨leV_refl _, leV_refl _, leV_refl _, ?_, leV_refl _, leV_refl _, trivial⟩, (by exact ⟨⟨rfl, rfl, rfl, rfl, rfl, trivial⟩, ⟨rfl, rfl, rfl, rfl, rfl, trivial⟩, trivial⟩), rfl, rfl⟩, (by show 3 - 3 < 3 - 2; decide)⟩
        show IV.bool false = IV.bool (F 3)
        rw [hFs 2, qf]; rfl
    | 3, hi =>
      conv => whnf
      exact ⟨rfl, rfl⟩
theorem c_parsed (up : List Ces) (p : List UInt8) (hp : p.length ≤ 1000000000) :
    Cs gl n_control_parsed up [.str (bytesS p)] (.tup [(parsedR (splitL 32 p)).1.iv, .bool (parsedR (splitL 32 p)).2]) up := by
  have hS := fun up => c_Split (gl := gl) up (bytesS p) 32 (by rw [bytesS_size]; omega)
  rw [bytesS_data] at hS
  have hw : ∀ i, ((splitL 32 p).getD i []).length ≤ 1000000000 := fun i => Nat.le_trans (splitL_le 32 p i) hp
  obtain ⟨P, hP⟩ : ∃ P, P = splitL 32 p := ⟨_, rfl⟩
  rw [← hP] at hS hw ⊢
  clear hP
  unfold parsedR
  cases q : ((P.length : Int) != 5) with
  | true =>
    rw [Bool.true_or, cond_true]
    refine mk h_control_parsed rfl rfl ?_
    conv => whnf
    repeat first
      | (refine DRAW.seek ?_; repeat (first | refine TRYD.take ?_ | refine TRYD.next ?_); conv => whnf)
      | (refine HOLD.mk (by first | exact trivial | exact ⟨⟨rfl, rfl⟩, trivial⟩ | exact ⟨⟨rfl, rfl⟩, ⟨rfl, rfl⟩, trivial⟩) ?_; (conv => whnf))
      | (refine CALL0.by (hS ..) rfl ?_; conv => whnf)
      | (refine CALLQ.mk _ _ _ (leL_refl _) (hS ..) rfl ?_; conv => whnf)
    split
    rotate_left
    · rename_i h
      exact Bool.noConfusion ((q).symm.trans h)
    rename_i hN
    clear hN
    conv => whnf
    exact ⟨rfl, rfl⟩
  | false =>
    have hlen : P.length = 5 := by
      have : (P.length : Int) = 5 := by simpa using q
      omega
    rw [hlen] at hS
    rw [Bool.false_or]
    cases q0 : eqS (bytesS (P.getD 0 [])) ByteArray.empty with
    | true =>
      rw [cond_true]
      refine mk h_control_parsed rfl rfl ?_
      conv => whnf
      repeat first
        | (refine DRAW.seek ?_; repeat (first | refine TRYD.take ?_ | refine TRYD.next ?_); conv => whnf)
        | (refine HOLD.mk (by first | exact trivial | exact ⟨⟨rfl, rfl⟩, trivial⟩ | exact ⟨⟨rfl, rfl⟩, ⟨rfl, rfl⟩, trivial⟩) ?_; (conv => whnf))
        | (refine CALL0.by (hS ..) rfl ?_; conv => whnf)
        | (refine CALLQ.mk _ _ _ (leL_refl _) (hS ..) rfl ?_; conv => whnf)
      split
      rotate_left
      · rename_i h
        exact Bool.noConfusion ((q0).symm.trans h)
      rename_i hN
      clear hN
      conv => whnf
      exact ⟨rfl, rfl⟩
    | false =>
      rw [cond_false]
      exact c_parsed5 up (bytesS p) (fun i => P.getD i []) hw q0 hS
end Go.Proofs.YtkdlegfakefjgaaGreatDoor.Ix

namespace Go.Proofs.YtkdlegfakefjgaaGreatDoor.Ix
open Go.Proofs
set_option maxRecDepth 100000
set_option linter.unusedVariables false
set_option linter.unusedSimpArgs false
variable {gl : Nat → IV}
def fb (g : Nat → Bool) : Nat → Nat → Nat
  | 0, i => i
  | n + 1, i => bif g i then fb g n (i + 1) else i
theorem fb_all {g : Nat → Bool} : ∀ {n i : Nat}, (∀ j, i ≤ j → j < i + n → g j = true) → fb g n i = i + n
  | 0, i, _ => rfl
  | n + 1, i, h => by
    unfold fb
    rw [h i (Nat.le_refl _) (by omega), cond_true, fb_all (fun j h1 h2 => h j (by omega) (by omega))]
    omega
theorem fb_at {g : Nat → Bool} : ∀ {n i k : Nat}, i ≤ k → k < i + n → g k = false → (∀ j, i ≤ j → j < k → g j = true) → fb g n i = k
  | 0, i, k, h1, h2, _, _ => by omega
  | n + 1, i, k, h1, h2, h3, h4 => by
    unfold fb
    rcases Nat.eq_or_lt_of_le h1 with rfl | h
    · rw [h3, cond_false]
    · rw [h4 i (Nat.le_refl _) h, cond_true]
      exact fb_at (by omega) (by omega) h3 fun j h5 h6 => h4 j (by omega) h6
noncomputable def lineA (P : List (List UInt8)) (k : Nat) : Ac × Bool := parsedR (splitL 32 (P.getD k []))
noncomputable def lineG (P : List (List UInt8)) (k : Nat) : Bool := decide (k + 1 < P.length) && (lineA P k).2
noncomputable def parseR (P : List (List UInt8)) : IV :=
  let b := fb (lineG P) (linesN P) 0
  bif decide (b < linesN P) then .tup [.nilS, .int .i64 b, .int .i64 26] else
  bif actsE (linesN P) (fun k => (lineA P k).1) != 0 then .tup [.nilS, .int .i64 (linesN P), .int .i64 (actsE (linesN P) fun k => (lineA P k).1)] else
  .tup [.lst (some 39) 5 (linesN P) fun k => (lineA P k).1.cs, .int .i64 0, .int .i64 0]
set_option maxHeartbeats 16000000 in
theorem c_Parse (up : List Ces) (hk : gl g_control_kinds = kindsI) (l : List UInt8) (hl : l.length ≤ 1000000) :
    Cs gl n_control_Parse up [.str (bytesS l)] (parseR (splitL 10 l)) up := by
  have hV := v_Lines (gl := gl) l (by omega)
  have hpl : ∀ i, ((splitL 10 l).getD i []).length ≤ 1000000 := fun i => Nat.le_trans (splitL_le 10 l i) hl
  have hno := splitL_no 10 l
  have hsz : (bytesS l).size = l.length := bytesS_size l
  obtain ⟨P, hP⟩ : ∃ P, P = splitL 10 l := ⟨_, rfl⟩
  rw [← hP] at hV hpl hno ⊢
  obtain ⟨s, hs⟩ : ∃ s, s = bytesS l := ⟨_, rfl⟩
  rw [← hs] at hV hsz ⊢
  have q0 : decide ((s.size : Int) > 1000000) = false := decide_eq_false (by omega)
  obtain ⟨N, hN⟩ : ∃ N, N = linesN P := ⟨_, rfl⟩
  rw [← hN] at hV
  refine mk h_control_Parse rfl rfl ?_
  conv => whnf
  split
  · rename_i h
    exact Bool.noConfusion ((q0).symm.trans h)
  rename_i hN
  clear hN
  conv => whnf
  refine .own [1000] _ _ _ (leL_refl _) (own_Lines s) rfl rfl ?_
  conv => whnf
  let F : Nat → List IV := fun k => (lineA P k).1.cs
  have hNle : N ≤ 1000001 := by
    have h1 : P.length ≤ l.length + 1 := by rw [hP, splitL_len]; have := List.count_le_length (a := (10 : UInt8)) (l := l); omega
    have h2 : linesN P ≤ P.length := by unfold linesN; split <;> omega
    omega
  have hgoodP : ∀ k, k < N → lineG P k = true → k + 1 < P.length := fun k _ h => by
    unfold lineG at h
    rw [Bool.and_eq_true] at h
    exact of_decide_eq_true h.1
  refine .own n_strings_Lines_1 [1000] [[.str s]] N _ rfl ⟨⟨_, rfl, rfl, rfl⟩, trivial⟩ rfl hV (by kernel_rfl) (fun i _ => rfl) (α := {k : Nat // k ≤ N ∧ ∀ j, j < k → lineG P j = true}) (fun k => ⟨[(6, .ptr 0 6 0), (5, .ptr 0 5 0), (4, .ptr 0 4 0), (3, .ptr 0 3 0), (2, .ptr 0 2 0)],
    [(6, [.int .i64 k.1]), (5, [.lst (some 39) 5 k.1 F]), (4, [.int .i64 0]), (3, [.int .i64 0]), (2, [.nilS])], up⟩) (fun k => k.1) ⟨0, Nat.zero_le _, fun j h => absurd h (Nat.not_lt_zero _)⟩ ⟨?_, ?_, rfl, rfl⟩ rfl rfl (fun _ => rfl) ?_ ?_
  · exact ⟨leV_refl _, leV_refl _, leV_refl _, leV_refl _, leV_refl _, trivial⟩
  · exact ⟨leL_refl _, ⟨rfl, trivial⟩, leL_refl _, leL_refl _, leL_refl _, trivial⟩
  · rintro ⟨k, hkN, hg⟩ hlt
    have hlt : k < N := hlt
    have hw : w64 ((k : Int) + 1) = ((k + 1 : Nat) : Int) := by rw [w64, wrap_in] <;> omega
    have hC : ∀ up, Cs gl n_strings_CutSuffix up [.str (bytesS (lineF P k)), .str ⟨#[10]⟩] (.tup [.str (bytesS (P.getD k [])), .bool (decide (k + 1 < P.length))]) up := fun up => by
      have h := c_CutSuffix (gl := gl) up (lineF P k) 10 (by
        unfold lineF
        have := hpl k
        split
        · rw [List.length_append]; simp only [List.length_cons, List.length_nil]; omega
        · omega)
      by_cases hk1 : k + 1 < P.length
      · rw [decide_eq_true hk1]
        have e : lineF P k = P.getD k [] ++ [10] := by unfold lineF; rw [if_pos hk1]
        rw [e] at h ⊢
        have e2 : (P.getD k [] ++ [(10 : UInt8)]).getLast? = some 10 := by simp
        rw [e2, show ((some (10 : UInt8)) == some 10) = true from rfl, cond_true, List.dropLast_concat] at h
        exact h
      · rw [decide_eq_false hk1]
        have e : lineF P k = P.getD k [] := by unfold lineF; rw [if_neg hk1]
        rw [e] at h ⊢
        rw [show ((P.getD k []).getLast? == some (10 : UInt8)) = false by
          rw [beq_eq_false_iff_ne]
          intro e
          exact hno k (List.mem_of_getLast? e), cond_false] at h
        exact h
    have hPa : ∀ up, Cs gl n_control_parsed up [.str (bytesS (P.getD k []))] (.tup [(lineA P k).1.iv, .bool (lineA P k).2]) up := fun up => c_parsed up _ (by have := hpl k; omega)
    obtain ⟨b1, hb1⟩ : ∃ b, b = decide (k + 1 < P.length) := ⟨_, rfl⟩
    obtain ⟨b2, hb2⟩ : ∃ b, b = (lineA P k).2 := ⟨_, rfl⟩
    obtain ⟨a, ha⟩ : ∃ a, a = (lineA P k).1 := ⟨_, rfl⟩
    have hgk : lineG P k = (b1 && b2) := by rw [hb1, hb2]; rfl
    have hbad : (b1 && b2) = false → parseR P = .tup [.nilS, .int .i64 k, .int .i64 26] := fun h => by
      have e : fb (lineG P) (linesN P) 0 = k := fb_at (Nat.zero_le _) (by rw [← hN]; omega) (hgk.trans h) (fun j _ hj => hg j hj)
      unfold parseR
      simp only [e]
      rw [← hN, decide_eq_true hlt, cond_true]
    rw [← hb1] at hC
    rw [← hb2, ← ha] at hPa
    cases b1 with
    | false =>
      conv => whnf
      repeat first
        | (refine CALL0.by (hC ..) rfl ?_; conv => whnf)
        | (refine CALLQ.mk _ _ _ (leL_refl _) (hC ..) rfl ?_; conv => whnf)
        | (refine CALL0.by (hPa ..) rfl ?_; conv => whnf)
        | (refine CALLQ.mk _ _ _ (leL_refl _) (hPa ..) rfl ?_; conv => whnf)
      refine DRAW.mkH 1 [6] [] [0] (by decide +kernel) ?_
      conv => whnf
      conv => whnf
      repeat first
        | (refine DRAW.seek ?_; repeat (first | refine TRYD.take ?_ | refine TRYD.next ?_); conv => whnf)
        | (refine HOLD.mk (by first | exact trivial | exact ⟨⟨rfl, rfl⟩, trivial⟩ | exact ⟨⟨rfl, rfl⟩, ⟨rfl, rfl⟩, trivial⟩) ?_; (conv => whnf))
      exact ⟨(hbad rfl).symm, rfl⟩
    | true =>
      cases b2 with
      | false =>
        conv => whnf
        repeat first
          | (refine CALL0.by (hC ..) rfl ?_; conv => whnf)
          | (refine CALLQ.mk _ _ _ (leL_refl _) (hC ..) rfl ?_; conv => whnf)
          | (refine CALL0.by (hPa ..) rfl ?_; conv => whnf)
          | (refine CALLQ.mk _ _ _ (leL_refl _) (hPa ..) rfl ?_; conv => whnf)
        refine DRAW.mkH 1 [6] [] [0] (by decide +kernel) ?_
        conv => whnf
        conv => whnf
        repeat first
          | (refine DRAW.seek ?_; repeat (first | refine TRYD.take ?_ | refine TRYD.next ?_); conv => whnf)
          | (refine HOLD.mk (by first | exact trivial | exact ⟨⟨rfl, rfl⟩, trivial⟩ | exact ⟨⟨rfl, rfl⟩, ⟨rfl, rfl⟩, trivial⟩) ?_; (conv => whnf))
        exact ⟨(hbad rfl).symm, rfl⟩
      | true =>
        conv => whnf
        repeat first
          | (refine CALL0.by (hC ..) rfl ?_; conv => whnf)
          | (refine CALLQ.mk _ _ _ (leL_refl _) (hC ..) rfl ?_; conv => whnf)
          | (refine CALL0.by (hPa ..) rfl ?_; conv => whnf)
          | (refine CALLQ.mk _ _ _ (leL_refl _) (hPa ..) rfl ?_; conv => whnf)
        split
        rotate_left
        · rename_i h
          have h' : decide (k + 1 ≤ 1073741824) = false := h
          simp at h' <;> omega
        conv => whnf
        refine ⟨⟨k + 1, hlt, fun j hj => ?_⟩, rfl, ⟨leV_refl _, leV_refl _, leV_refl _, leV_refl _, leV_refl _, trivial⟩, ⟨⟨leV_int hw, trivial⟩, ⟨⟨.inr rfl, rfl, rfl, fun j hj => ?_⟩, trivial⟩, leL_refl _, leL_refl _, leL_refl _, trivial⟩, rfl, rfl⟩
        · rcases Nat.lt_or_ge j k with h | h
          · exact hg j h
          · rw [show j = k by omega]; exact hgk
        · show (if j < k then F j else litF 5 a.cs (j - k)) = F j
          split
          · rfl
          · have : j = k := by have : j < k + 1 := hj; omega
            subst this
            rw [Nat.sub_self, ha]; rfl
  · rintro ⟨k, hkN, hg⟩ he
    have he : k = N := he
    subst he
    have e : fb (lineG P) (linesN P) 0 = k := by rw [← hN, fb_all (fun j _ hj => hg j (by omega))]; omega
    have hp := fun up => c_printable (gl := gl) up hk k (by omega) (fun j => (lineA P j).1)
    obtain ⟨E, hE⟩ : ∃ E, E = actsE k fun j => (lineA P j).1 := ⟨_, rfl⟩
    have hR : parseR P = bif E != 0 then .tup [.nilS, .int .i64 k, .int .i64 E] else .tup [.lst (some 39) 5 k F, .int .i64 0, .int .i64 0] := by
      unfold parseR
      simp only [e]
      rw [← hN, decide_eq_false (Nat.lt_irrefl k), cond_false, ← hE]
    rw [← hE] at hp
    rw [hR]
    cases q : (E != 0) with
    | true =>
      conv => whnf
      repeat first
        | (refine CALL0.by (hp ..) rfl ?_; conv => whnf)
        | (refine CALLQ.mk _ _ _ (leL_refl _) (hp ..) rfl ?_; conv => whnf)
      split
      rotate_left
      · rename_i h
        exact Bool.noConfusion ((q).symm.trans h)
      rename_i hN
      clear hN
      conv => whnf
      refine DRAW.mkH 2 [6] [] [0, 1] (by decide +kernel) ?_
      conv => whnf
      conv => whnf
      repeat first
        | (refine DRAW.seek ?_; repeat (first | refine TRYD.take ?_ | refine TRYD.next ?_); conv => whnf)
        | (refine HOLD.mk (by first | exact trivial | exact ⟨⟨rfl, rfl⟩, trivial⟩ | exact ⟨⟨rfl, rfl⟩, ⟨rfl, rfl⟩, trivial⟩) ?_; (conv => whnf))
      exact ⟨rfl, rfl⟩
    | false =>
      conv => whnf
      repeat first
        | (refine CALL0.by (hp ..) rfl ?_; conv => whnf)
        | (refine CALLQ.mk _ _ _ (leL_refl _) (hp ..) rfl ?_; conv => whnf)
      split
      · rename_i h
        exact Bool.noConfusion ((q).symm.trans h)
      rename_i hN
      clear hN
      conv => whnf
      exact ⟨rfl, rfl⟩
end Go.Proofs.YtkdlegfakefjgaaGreatDoor.Ix

namespace Go.Proofs.YtkdlegfakefjgaaGreatDoor.Ix
open Go.Proofs
set_option maxRecDepth 100000
set_option linter.unusedVariables false
set_option linter.unusedSimpArgs false
theorem splitL_app {c : UInt8} {a b : List UInt8} (h : c ∉ a) : splitL c (a ++ c :: b) = a :: splitL c b := by
  have := splitL_hit (c := c) (l := a ++ c :: b) (i := a.length) (by simp) (fun j hj hh => by
    rw [List.getElem?_append_left hj] at hh
    exact h (List.mem_of_getElem? hh))
  rw [this]
  simp
theorem num_all : ((List.range 101).all fun n => (Go.Lib.itoa (n : Int)).all dig && ((intR (Go.Lib.itoa (n : Int))).1 == (n : Int) && (intR (Go.Lib.itoa (n : Int))).2)) = true := by decide +kernel
theorem num_ok {x : Int} (h : 0 ≤ x ∧ x ≤ 100) : (∀ b ∈ Go.Lib.itoa x, dig b = true) ∧ (intR (Go.Lib.itoa x)).1 = x ∧ (intR (Go.Lib.itoa x)).2 = true := by
  obtain ⟨n, rfl⟩ : ∃ n : Nat, x = n := ⟨x.toNat, by omega⟩
  have h1 := List.all_eq_true.1 num_all n (List.mem_range.2 (by omega))
  simp only [Bool.and_eq_true, List.all_eq_true, beq_iff_eq] at h1
  exact h1
theorem dig_no {l : List UInt8} (h : ∀ b ∈ l, dig b = true) {c : UInt8} (hc : dig c = false) : c ∉ l := fun hm => by rw [h c hm] at hc; cases hc
theorem kind_clean {x : ByteArray} (h : x ∈ kindsL) : (10 : UInt8) ∉ x.data.toList ∧ (32 : UInt8) ∉ x.data.toList ∧ x ≠ ByteArray.empty := by
  have hs : ∀ y : ByteArray, y.size ≠ 0 → y ≠ ByteArray.empty := fun y hy e => hy (by rw [e]; rfl)
  unfold kindsL at h
  simp only [List.mem_cons, List.not_mem_nil, or_false] at h
  rcases h with rfl | rfl | rfl | rfl | rfl | rfl <;> exact ⟨by decide +kernel, by decide +kernel, hs _ (by decide +kernel)⟩
def lineT (a : Ac) : List UInt8 := a.kind.data.toList ++ 32 :: (Go.Lib.itoa a.wind ++ 32 :: (Go.Lib.itoa a.pitch ++ 32 :: (Go.Lib.itoa a.tor ++ 32 :: a.blade)))
theorem line_T (a : Ac) : a.line = lineT a ++ [10] := by unfold Ac.line lineT; simp
theorem blade_ok {a : Ac} (h : -1 ≤ a.stuck ∧ a.stuck ≤ 2) : (10 : UInt8) ∉ a.blade ∧ (32 : UInt8) ∉ a.blade ∧ idxS (bytesS a.blade) [blade0, blade1, blade2] 0 = a.stuck ∧ (decide (a.stuck ≥ 0) || eqS (bytesS a.blade) bladeN) = true := by
  unfold Ac.blade
  obtain ⟨h1, h2⟩ := h
  have : a.stuck = -1 ∨ a.stuck = 0 ∨ a.stuck = 1 ∨ a.stuck = 2 := by omega
  rcases this with e | e | e | e <;> rw [e, idx_run, eqS_eq] <;> exact ⟨by decide +kernel, by decide +kernel, by decide +kernel, by decide +kernel⟩
theorem lineT_ok {a : Ac} (h : a.plainOk) : (10 : UInt8) ∉ lineT a ∧ parsedR (splitL 32 (lineT a)) = (a, true) := by
  obtain ⟨k1, k2, k3⟩ := kind_clean (idxS_mem (Int.le_refl _) h.kind)
  obtain ⟨w1, w2, w3⟩ := num_ok h.wind
  obtain ⟨p1, p2, p3⟩ := num_ok h.pitch
  obtain ⟨t1, t2, t3⟩ := num_ok h.tor
  obtain ⟨b1, b2, b3, b4⟩ := blade_ok h.stuck
  have d10 : dig 10 = false := by decide
  have d32 : dig 32 = false := by decide
  refine ⟨?_, ?_⟩
  · unfold lineT
    intro hm
    simp only [List.mem_append, List.mem_cons] at hm
    rcases hm with h | h | h | h | h | h | h | h | h
    · exact k1 h
    · exact absurd h (by decide)
    · exact dig_no w1 d10 h
    · exact absurd h (by decide)
    · exact dig_no p1 d10 h
    · exact absurd h (by decide)
    · exact dig_no t1 d10 h
    · exact absurd h (by decide)
    · exact b1 h
  · unfold lineT
    rw [splitL_app k2, splitL_app (dig_no w1 d32), splitL_app (dig_no p1 d32), splitL_app (dig_no t1 d32), splitL_none b2]
    have e0 : eqS (bytesS a.kind.data.toList) ByteArray.empty = false := by
      cases q : eqS (bytesS a.kind.data.toList) ByteArray.empty with
      | false => rfl
      | true => rw [bytesS_mk] at q; exact absurd (eqS_iff.1 q) k3
    unfold parsedR
    rw [show ((([a.kind.data.toList, Go.Lib.itoa a.wind, Go.Lib.itoa a.pitch, Go.Lib.itoa a.tor, a.blade] : List (List UInt8)).length : Int) != 5) = false from rfl,
      show ([a.kind.data.toList, Go.Lib.itoa a.wind, Go.Lib.itoa a.pitch, Go.Lib.itoa a.tor, a.blade] : List (List UInt8)).getD 0 [] = a.kind.data.toList from rfl, e0]
    rw [Bool.or_self, cond_false]
    unfold wordsR
    show (Ac.mk (bytesS a.kind.data.toList) (intR (Go.Lib.itoa a.wind)).1 (intR (Go.Lib.itoa a.pitch)).1 (intR (Go.Lib.itoa a.tor)).1 (idxS (bytesS a.blade) [blade0, blade1, blade2] 0),
      (((decide (idxS (bytesS a.blade) [blade0, blade1, blade2] 0 ≥ 0) || eqS (bytesS a.blade) bladeN) && (intR (Go.Lib.itoa a.wind)).2) && (intR (Go.Lib.itoa a.pitch)).2) && (intR (Go.Lib.itoa a.tor)).2) = _
    rw [b3, b4, bytesS_mk, w2, w3, p2, p3, t2, t3]
    rfl
theorem acts_split {l : Nat → Ac} : ∀ (n : Nat) (r : List UInt8), (∀ i, i < n → (l i).plainOk) → splitL 10 (actsS l n ++ r) = ((List.range n).map fun i => lineT (l i)) ++ splitL 10 r
  | 0, r, _ => rfl
  | n + 1, r, h => by
    have e : actsS l (n + 1) ++ r = actsS l n ++ (lineT (l n) ++ 10 :: r) := by
      show (actsS l n ++ (l n).line) ++ r = _
      rw [line_T]; simp
    rw [e, acts_split n _ (fun i hi => h i (by omega)), splitL_app (lineT_ok (h n (by omega))).1, List.range_succ, List.map_append]
    simp
theorem parse_print {n : Nat} {l : Nat → Ac} (h : actsE n l = 0) :
    parseR (splitL 10 (actsS l n)) = .tup [.lst (some 39) 5 n fun k => (lineA (splitL 10 (actsS l n)) k).1.cs, .int .i64 0, .int .i64 0] ∧ ∀ k, k < n → (lineA (splitL 10 (actsS l n)) k).1 = l k := by
  obtain ⟨hn, hl⟩ := actsE_ok h
  have hP := acts_split n [] hl
  rw [List.append_nil] at hP
  obtain ⟨P, hPe⟩ : ∃ P, P = splitL 10 (actsS l n) := ⟨_, rfl⟩
  rw [← hPe] at hP ⊢
  have hlen : P.length = n + 1 := by rw [hP]; simp [splitL]
  have hN : linesN P = n := by
    unfold linesN
    have : P.getLastD [] = [] := by rw [hP]; simp [splitL]
    rw [if_pos this]; omega
  have hA : ∀ k, k < n → lineA P k = (l k, true) := fun k hk => by
    unfold lineA
    have : P.getD k [] = lineT (l k) := by
      rw [hP, List.getD_eq_getElem?_getD, List.getElem?_append_left (by simpa using hk)]
      simp [hk]
    rw [this]
    exact (lineT_ok (hl k hk)).2
  have hfb : fb (lineG P) n 0 = 0 + n := fb_all fun j _ hj => by
    unfold lineG
    rw [hA j (by omega), decide_eq_true (by omega)]; rfl
  rw [Nat.zero_add] at hfb
  have hE : actsE n (fun k => (lineA P k).1) = 0 := by
    unfold actsE at h ⊢
    cases q : decide ((n : Int) > 1024) with
    | true => rw [q] at h; cases h
    | false =>
      rw [q, cond_false, firstS_zero] at h
      rw [cond_false, firstS_zero]
      intro j h1 h2
      show (lineA P j).1.checkE 100 100 100 = 0
      rw [hA j (by omega)]
      exact h j h1 h2
  refine ⟨?_, fun k hk => by rw [hA k hk]⟩
  unfold parseR
  simp only
  rw [hN, hfb, decide_eq_false (Nat.lt_irrefl n), cond_false, hE]
  rfl
end Go.Proofs.YtkdlegfakefjgaaGreatDoor.Ix

namespace Go.Proofs.YtkdlegfakefjgaaGreatDoor.Ix
open Go.Proofs
set_option maxRecDepth 100000
set_option linter.unusedVariables false
set_option linter.unusedSimpArgs false
variable {gl : Nat → IV}
theorem rule4_eq (s : Sta) (m : Mc) : s.rule4 m = (decide (atA m.fea [s.p0, s.p1, s.p2] < 3) || s.stuck != -1) := by
  unfold Sta.rule4
  congr 1
  simp only [atA]
  by_cases h0 : s.p0 = m.fea <;> by_cases h1 : s.p1 = m.fea <;> by_cases h2 : s.p2 = m.fea <;> simp [h0, h1, h2]
noncomputable abbrev Sta.ruleN (s : Sta) (m : Mc) (a : Ac) : Nat → Bool := s.ruleB m a fun k => (s.behindW m a).num m k
theorem start_rule {s : Sta} {m : Mc} (h : eqS s.mode sIdle = true) : (s.allowedN m (plainA sStart) == 4) = s.ruleN m (plainA sStart) 3 := by
  have e : s.allowedN m (plainA sStart) = firstT (s.ruleN m (plainA sStart)) 7 0 := rfl
  have k0 : eqS sStart sTick = false := kinds_ne (eqS_iff.2 rfl) (by decide)
  have k1 : eqS sStart sBrake = false := kinds_ne (eqS_iff.2 rfl) (by decide)
  have k2 : eqS sStart sStop = false := kinds_ne (eqS_iff.2 rfl) (by decide)
  have k3 : eqS sStart sRest = false := kinds_ne (eqS_iff.2 rfl) (by decide)
  have k4 : eqS sStart ByteArray.empty = false := kinds_ne (eqS_iff.2 rfl) (by decide)
  have r0 : s.ruleN m (plainA sStart) 0 = false := by
    show (inK sStart sStart sRepair && (!eqS s.mode sIdle)) = false
    rw [h]; simp
  have r1 : s.ruleN m (plainA sStart) 1 = false := by
    show (inK sStart sTick sStop && _) = false
    rw [inK_eq, k0, k2]; rfl
  have r2 : s.ruleN m (plainA sStart) 2 = false := by
    show (inK sStart sBrake sRest && _) = false
    rw [inK_eq, k1, k3]; rfl
  have r4 : s.ruleN m (plainA sStart) 4 = false := by
    show (inK sStart sRest ByteArray.empty && _) = false
    rw [inK_eq, k3, k4]; rfl
  have r5 : s.ruleN m (plainA sStart) 5 = false := by
    show (inK sStart sTick sBrake && _) = false
    rw [inK_eq, k0, k1]; rfl
  have r6 : s.ruleN m (plainA sStart) 6 = false := by
    show (inK sStart sTick sBrake && _) = false
    rw [inK_eq, k0, k1]; rfl
  rw [e]
  simp only [firstT]
  rw [r0, r1, r2, r4, r5, r6]
  cases s.ruleN m (plainA sStart) 3 <;> rfl
end Go.Proofs.YtkdlegfakefjgaaGreatDoor.Ix

namespace Go.Proofs.YtkdlegfakefjgaaGreatDoor.Ix
open Go.Proofs
set_option maxRecDepth 100000
set_option linter.unusedVariables false
set_option linter.unusedSimpArgs false
variable {gl : Nat → IV}
end Go.Proofs.YtkdlegfakefjgaaGreatDoor.Ix

namespace Go.Proofs.YtkdlegfakefjgaaGreatDoor.Ix
open Go.Proofs
set_option linter.unusedVariables false
set_option linter.unusedSimpArgs false
theorem fea_most {m : Mc} (hm : m.ok) {v : Int} (hv : 0 ≤ v ∧ v ≤ m.lim) (k : Int) (h1 : -1 ≤ k) (h2 : k ≤ 2) : ∀ n, ((atS m.fea v).stepW m k n).p0 = m.fea ∧ ((atS m.fea v).stepW m k n).p1 = m.fea ∧ ((atS m.fea v).stepW m k n).p2 = m.fea ∧ ((atS m.fea v).stepW m k n).speed ≤ v ∧ (atS m.fea v).most m k n = v
  | 0 => ⟨rfl, rfl, rfl, Int.le_refl _, rfl⟩
  | n + 1 => by
    obtain ⟨a, b, c, d, e⟩ := fea_most hm hv k h1 h2 n
    have hl := hm.lim
    have hf := hm.fea
    have hr := hm.rate
    have hw := hm.wind
    have h2w := hm.two
    have hs := atS_rng hm (a := m.fea) ⟨by omega, Int.le_refl _⟩ hv
    have hb := (stepW_bnd hm h1 h2 hs (mu_start hm hs (by show v ≤ 10000; omega) k) n).1
    have e2 := braked_eq hm hb m.wind k (by omega)
    have g : (atS m.fea v).stepW m k (n + 1) = ((atS m.fea v).stepW m k n).brakedW m m.wind k := rfl
    have q0 : ∀ i : Int, stepP m k i m.fea = m.fea := fun i => by unfold stepP; split <;> omega
    rw [a, b, c, q0, q0, q0] at e2
    rw [g, e2]
    have hsp : max 0 (((atS m.fea v).stepW m k n).speed + m.wind - m.fea - m.fea - m.fea) ≤ v := by omega
    refine ⟨rfl, rfl, rfl, hsp, ?_⟩
    show maxW ((atS m.fea v).most m k n) ((atS m.fea v).stepW m k (n + 1)).speed = v
    rw [g, e2, e, maxW_eq]
    show max v (max 0 _) = v
    omega
theorem fea_safe {m : Mc} (hm : m.ok) {v : Int} (hv : 0 ≤ v ∧ v ≤ m.lim) : (atS m.fea v).safeN m = true := by
  rw [safeN_iff]
  intro k hk
  right
  unfold Sta.pk
  rw [(fea_most hm hv (k : Nat) (by omega) (by omega) _).2.2.2.2]
  omega
end Go.Proofs.YtkdlegfakefjgaaGreatDoor.Ix

namespace Go.Proofs.YtkdlegfakefjgaaGreatDoor.Ix
open Go.Proofs
set_option linter.unusedVariables false
set_option linter.unusedSimpArgs false
structure Sta.good (s : Sta) (m : Mc) : Prop where
  err : s.err m = 0
  safe : eqS s.mode sRun = true → s.safeN m = true
theorem Sta.good.inv {s : Sta} {m : Mc} (h : s.good m) : s.inv m := by
  obtain ⟨_, hr, hl, hs, _⟩ := Sta.err_rng h.err
  exact ⟨hr, hl, hs⟩
theorem err_mk {m : Mc} (hm : m.ok) {s : Sta} (hi : s.inv m) (ht : 0 ≤ s.tor ∧ s.tor ≤ m.tor) (hk : s.known = true) (hf : s.fits m = true) : s.err m = 0 := by
  unfold Sta.err Sta.err1 Sta.err2
  rw [orE_zero, orL_zero, orL_zero]
  simp only [List.mem_cons, List.not_mem_nil, or_false, forall_eq_or_imp, forall_eq, withinS_zero]
  rw [hk, hf]
  exact ⟨⟨Mc.err_of hm, rfl, hi.rng.speed.1, hi.lim⟩, hi.rng.p0, hi.rng.p1, hi.rng.p2, ht, hi.stuck, rfl⟩
theorem ne_run_idle : eqS sRun sIdle = false := kinds_ne (eqS_iff.2 rfl) (by decide)
theorem ne_stop_idle : eqS sStop sIdle = false := kinds_ne (eqS_iff.2 rfl) (by decide)
theorem ne_stop_run : eqS sStop sRun = false := kinds_ne (eqS_iff.2 rfl) (by decide)
theorem ne_idle_run : eqS sIdle sRun = false := kinds_ne (eqS_iff.2 rfl) (by decide)
theorem eq_self (a : ByteArray) : eqS a a = true := eqS_iff.2 rfl
theorem known_run {s : Sta} (h : s.mode = sRun) : s.known = true := by
  rw [known_has, hasW_modes, h, eq_self]; simp
theorem known_stop {s : Sta} (h : s.mode = sStop) : s.known = true := by
  rw [known_has, hasW_modes, h, eq_self]; simp
theorem known_idle {s : Sta} (h : s.mode = sIdle) : s.known = true := by
  rw [known_has, hasW_modes, h, eq_self]; simp
theorem fits_run {s : Sta} {m : Mc} (h : s.mode = sRun) : s.fits m = true := by
  unfold Sta.fits
  simp only [eqS_beq]
  rw [h, ne_run_idle, eq_self]; rfl
theorem fits_stop {s : Sta} {m : Mc} (h : s.mode = sStop) (ht : s.tor = 0) : s.fits m = true := by
  unfold Sta.fits
  simp only [eqS_beq]
  rw [h, ne_stop_idle, ne_stop_run, eq_self, ht]; rfl
theorem fits_idle {s : Sta} {m : Mc} (h : s.mode = sIdle) (h1 : s.speed = 0) (h2 : s.tor = 0) (h3 : 2 ≤ atA m.fea [s.p0, s.p1, s.p2]) : s.fits m = true := by
  unfold Sta.fits
  simp only [eqS_beq]
  rw [h, eq_self, h1, h2, decide_eq_true (show atA m.fea [s.p0, s.p1, s.p2] ≥ 2 from h3)]; rfl
theorem fits_inv {s : Sta} {m : Mc} (h : s.fits m = true) : (eqS s.mode sIdle = true → s.speed = 0 ∧ s.tor = 0 ∧ 2 ≤ atA m.fea [s.p0, s.p1, s.p2]) ∧ (eqS s.mode sStop = true → s.tor = 0) := by
  unfold Sta.fits at h
  simp only [eqS_beq] at h
  constructor
  · intro hi
    rw [hi, cond_true, Bool.and_eq_true, Bool.and_eq_true] at h
    exact ⟨by simpa using h.1, by simpa using h.2.1, of_decide_eq_true h.2.2⟩
  · intro hi
    have e1 : eqS s.mode sIdle = false := kinds_ne hi (by decide)
    have e2 : eqS s.mode sRun = false := kinds_ne hi (by decide)
    rw [e1, e2, hi] at h
    simpa using h
theorem begin_good {m : Mc} (hm : m.ok) : (beginS m).good m := by
  have ht := hm.tor
  refine ⟨err_mk hm (begin_inv hm) ⟨Int.le_refl _, ht.1⟩ (known_idle rfl) (fits_idle rfl rfl rfl ?_), fun h => ?_⟩
  · show 2 ≤ atA m.fea [m.fea, m.fea, m.fea]
    simp [atA]
  · have h : eqS sIdle sRun = true := h
    rw [ne_idle_run] at h; cases h
theorem rule_mode {s : Sta} {m : Mc} {a : Ac} (h : s.allowedN m a = 0) : ((eqS a.kind sStart = true ∨ eqS a.kind sRepair = true) → eqS s.mode sIdle = true) ∧ ((eqS a.kind sTick = true ∨ eqS a.kind sStop = true) → eqS s.mode sRun = true) ∧ ((eqS a.kind sBrake = true ∨ eqS a.kind sRest = true) → eqS s.mode sStop = true) := by
  have h0 : (inK a.kind sStart sRepair && (!eqS s.mode sIdle)) = false := allowed_zero h 0 (by decide)
  have h1 : (inK a.kind sTick sStop && (!eqS s.mode sRun)) = false := allowed_zero h 1 (by decide)
  have h2 : (inK a.kind sBrake sRest && (!eqS s.mode sStop)) = false := allowed_zero h 2 (by decide)
  rw [inK_eq] at h0 h1 h2
  refine ⟨fun k => ?_, fun k => ?_, fun k => ?_⟩
  · rw [show (eqS a.kind sStart || eqS a.kind sRepair) = true by rcases k with k | k <;> simp [k], Bool.true_and] at h0
    simpa using h0
  · rw [show (eqS a.kind sTick || eqS a.kind sStop) = true by rcases k with k | k <;> simp [k], Bool.true_and] at h1
    simpa using h1
  · rw [show (eqS a.kind sBrake || eqS a.kind sRest) = true by rcases k with k | k <;> simp [k], Bool.true_and] at h2
    simpa using h2
theorem atA_three {f a b c : Int} : 3 ≤ atA f [a, b, c] ↔ a = f ∧ b = f ∧ c = f := by
  simp only [atA]
  by_cases h0 : a = f <;> by_cases h1 : b = f <;> by_cases h2 : c = f <;> simp [h0, h1, h2]
theorem behind_good {m : Mc} (hm : m.ok) {s : Sta} (hs : s.good m) {a : Ac} (ha : a.ok m) (h : s.allowedN m a = 0) : (s.behindW m a).good m := by
  have hinv := behind_inv hm hs.inv ha h
  obtain ⟨_, hr, hl, hst, htor, hkn, hft⟩ := Sta.err_rng hs.err
  obtain ⟨f1, f2⟩ := fits_inv hft
  obtain ⟨r1, r2, r3⟩ := rule_mode h
  have ht := hm.tor
  cases q1 : eqS a.kind sStart with
  | true =>
    have e : s.behindW m a = { s with mode := sRun } := by unfold Sta.behindW; rw [q1]; rfl
    have hi := r1 (.inl q1)
    obtain ⟨g1, g2, g3⟩ := f1 hi
    have h3 : (inK a.kind sStart ByteArray.empty && s.rule4 m) = false := allowed_zero h 3 (by decide)
    rw [inK_eq, q1, Bool.true_or, Bool.true_and, rule4_eq, Bool.or_eq_false_iff] at h3
    have a3 : 3 ≤ atA m.fea [s.p0, s.p1, s.p2] := by have := of_decide_eq_false h3.1; omega
    obtain ⟨p0, p1, p2⟩ := atA_three.1 a3
    have hsk : s.stuck = -1 := by simpa using h3.2
    have e2 : s.behindW m a = atS m.fea 0 := by
      rw [e]
      show (⟨sRun, s.speed, s.p0, s.p1, s.p2, s.tor, s.stuck⟩ : Sta) = ⟨sRun, 0, m.fea, m.fea, m.fea, 0, -1⟩
      rw [g1, g2, p0, p1, p2, hsk]
    have hl := hm.lim
    refine ⟨err_mk hm hinv (by rw [e]; exact htor) (known_run (by rw [e])) (fits_run (by rw [e])), fun _ => ?_⟩
    rw [e2]
    exact fea_safe hm ⟨Int.le_refl _, by omega⟩
  | false =>
  cases q2 : eqS a.kind sTick with
  | true =>
    have e : s.behindW m a = Sta.laterW { s.movedW m a.pitch a.stuck with tor := a.tor } a.wind := by unfold Sta.behindW; rw [q1, q2]; rfl
    have hi := eqS_iff.1 (r2 (.inl q2))
    have em : (s.behindW m a).mode = sRun := by rw [e]; exact hi
    have et : (s.behindW m a).tor = a.tor := by rw [e]; rfl
    refine ⟨err_mk hm hinv (by rw [et]; exact ha.tor) (known_run em) (fits_run em), fun _ => ?_⟩
    have h6 : (inK a.kind sTick sBrake && s.rule7 m a (fun k => (s.behindW m a).num m k)) = false := allowed_zero h 6 (by decide)
    rw [inK_eq, q2, Bool.true_or, Bool.true_and] at h6
    unfold Sta.rule7 at h6
    rw [q2, Bool.or_eq_false_iff, Bool.true_and] at h6
    have := h6.2
    unfold Sta.safeN
    simpa using this
  | false =>
  cases q3 : eqS a.kind sStop with
  | true =>
    have e : s.behindW m a = { s with mode := sStop, tor := 0 } := by unfold Sta.behindW; rw [q1, q2, q3]; rfl
    refine ⟨err_mk hm hinv (by rw [e]; exact ⟨Int.le_refl _, ht.1⟩) (known_stop (by rw [e])) (fits_stop (by rw [e]) (by rw [e])), fun hrun => ?_⟩
    rw [e] at hrun
    have hrun : eqS sStop sRun = true := hrun
    rw [ne_stop_run] at hrun; cases hrun
  | false =>
  cases q4 : eqS a.kind sBrake with
  | true =>
    have e : s.behindW m a = s.brakedW m a.wind a.stuck := by unfold Sta.behindW; rw [q1, q2, q3, q4]; rfl
    refine ⟨err_mk hm hinv (by rw [e]; exact ⟨Int.le_refl _, ht.1⟩) (known_stop (by rw [e]; rfl)) (fits_stop (by rw [e]; rfl) (by rw [e]; rfl)), fun hrun => ?_⟩
    rw [e] at hrun
    have hrun : eqS sStop sRun = true := hrun
    rw [ne_stop_run] at hrun; cases hrun
  | false =>
  cases q5 : eqS a.kind sRest with
  | true =>
    have e : s.behindW m a = { s with mode := sIdle } := by unfold Sta.behindW; rw [q1, q2, q3, q4, q5]; rfl
    have h4 : (inK a.kind sRest ByteArray.empty && s.rule5 m) = false := allowed_zero h 4 (by decide)
    rw [inK_eq, q5, Bool.true_or, Bool.true_and] at h4
    unfold Sta.rule5 at h4
    rw [Bool.or_eq_false_iff] at h4
    have hsp : s.speed = 0 := by simpa using h4.1
    have hfe : 2 ≤ atA m.fea [s.p0, s.p1, s.p2] := by have := of_decide_eq_false h4.2; omega
    have ht0 := f2 (r3 (.inr q5))
    refine ⟨err_mk hm hinv (by rw [e]; exact htor) (known_idle (by rw [e])) (fits_idle (by rw [e]) (by rw [e]; exact hsp) (by rw [e]; exact ht0) (by rw [e]; exact hfe)), fun hrun => ?_⟩
    rw [e] at hrun
    have hrun : eqS sIdle sRun = true := hrun
    rw [ne_idle_run] at hrun; cases hrun
  | false =>
  cases q6 : eqS a.kind sRepair with
  | true =>
    have e : s.behindW m a = { s with p0 := m.fea, p1 := m.fea, p2 := m.fea, stuck := -1 } := by unfold Sta.behindW; rw [q1, q2, q3, q4, q5, q6]; rfl
    have hi := r1 (.inr q6)
    obtain ⟨g1, g2, g3⟩ := f1 hi
    have hmode := eqS_iff.1 hi
    refine ⟨err_mk hm hinv (by rw [e]; exact htor) (known_idle (by rw [e]; exact hmode)) (fits_idle (by rw [e]; exact hmode) (by rw [e]; exact g1) (by rw [e]; exact g2) (by rw [e]; show 2 ≤ atA m.fea [m.fea, m.fea, m.fea]; simp [atA])), fun hrun => ?_⟩
    rw [e] at hrun
    have hrun : eqS s.mode sRun = true := hrun
    rw [hmode, ne_idle_run] at hrun; cases hrun
  | false =>
    have e : s.behindW m a = s := by unfold Sta.behindW; rw [q1, q2, q3, q4, q5, q6]; rfl
    rw [e]
    exact hs
end Go.Proofs.YtkdlegfakefjgaaGreatDoor.Ix

namespace Go.Proofs.YtkdlegfakefjgaaGreatDoor.Ix
open Go.Proofs
set_option linter.unusedVariables false
set_option linter.unusedSimpArgs false
theorem most_at (s : Sta) (m : Mc) (k : Int) : ∀ n, (s.stepW m k n).speed ≤ s.most m k n
  | 0 => Int.le_refl _
  | n + 1 => by
    show (s.stepW m k (n + 1)).speed ≤ maxW _ _
    rw [maxW_eq]; omega
theorem stepW_pk {m : Mc} (hm : m.ok) {s : Sta} (hs : s.rng m) (hsp : s.speed ≤ 10000) {k : Int} (h1 : -1 ≤ k) (h2 : k ≤ 2) (n : Nat) : (s.stepW m k n).speed ≤ s.pk m k := by
  have a := most_at s m k n
  rcases Nat.le_total (s.num m k) n with h | h
  · rw [pk_at hm hs hsp h1 h2 h] at a; exact a
  · have mono : ∀ d, s.most m k n ≤ s.most m k (n + d) := fun d => by
      induction d with
      | zero => exact Int.le_refl _
      | succ d ih =>
        show _ ≤ maxW (s.most m k (n + d)) _
        rw [maxW_eq]; omega
    have := mono (s.num m k - n)
    rw [show n + (s.num m k - n) = s.num m k by omega] at this
    unfold Sta.pk
    omega
theorem fire {f : Nat → Bool} (h0 : f 0 = false) (h1 : f 1 = false) (h2 : f 2 = false) (h3 : f 3 = false) (h5 : f 5 = false) (h6 : f 6 = false) : firstT f 7 0 = bif f 4 then 5 else 0 := by
  simp only [firstT]
  rw [h0, h1, h2, h3, h5, h6]
  cases f 4 <;> rfl
theorem brake_allowed {m : Mc} {s : Sta} (h : s.mode = sStop) {w k b : Int} (hk : k = b ∨ k = -1) (hst : s.stuck = -1 ∨ s.stuck = b) (hl : (s.brakedW m w k).speed ≤ m.lim) : s.allowedN m ⟨sBrake, w, 0, 0, k⟩ = 0 ∧ s.behindW m ⟨sBrake, w, 0, 0, k⟩ = s.brakedW m w k := by
  have k0 : eqS sBrake sStart = false := kinds_ne (eqS_iff.2 rfl) (by decide)
  have k1 : eqS sBrake sRepair = false := kinds_ne (eqS_iff.2 rfl) (by decide)
  have k2 : eqS sBrake sTick = false := kinds_ne (eqS_iff.2 rfl) (by decide)
  have k3 : eqS sBrake sStop = false := kinds_ne (eqS_iff.2 rfl) (by decide)
  have k4 : eqS sBrake ByteArray.empty = false := kinds_ne (eqS_iff.2 rfl) (by decide)
  have k5 : eqS sBrake sRest = false := kinds_ne (eqS_iff.2 rfl) (by decide)
  have eb : s.behindW m ⟨sBrake, w, 0, 0, k⟩ = s.brakedW m w k := by
    unfold Sta.behindW
    simp only
    rw [k0, k2, k3, eq_self]; rfl
  refine ⟨?_, eb⟩
  have e : s.allowedN m ⟨sBrake, w, 0, 0, k⟩ = firstT (s.ruleN m ⟨sBrake, w, 0, 0, k⟩) 7 0 := rfl
  rw [e, fire]
  · show (bif inK sBrake sRest ByteArray.empty && _ then (5 : Int) else 0) = 0
    rw [inK_eq, k5, k4]; rfl
  · show (inK sBrake sStart sRepair && _) = false
    rw [inK_eq, k0, k1]; rfl
  · show (inK sBrake sTick sStop && _) = false
    rw [inK_eq, k2, k3]; rfl
  · show (inK sBrake sBrake sRest && (!eqS s.mode sStop)) = false
    rw [h, eq_self sStop]; simp
  · show (inK sBrake sStart ByteArray.empty && _) = false
    rw [inK_eq, k0, k4]; rfl
  · show (inK sBrake sTick sBrake && s.rule6 ⟨sBrake, w, 0, 0, k⟩) = false
    have : s.rule6 ⟨sBrake, w, 0, 0, k⟩ = false := by
      unfold Sta.rule6
      rcases hk with rfl | rfl
      · rcases hst with e | e <;> rw [e] <;> simp
      · simp
    rw [this]; simp
  · show (inK sBrake sTick sBrake && s.rule7 m ⟨sBrake, w, 0, 0, k⟩ fun i => (s.behindW m ⟨sBrake, w, 0, 0, k⟩).num m i) = false
    have : (s.rule7 m ⟨sBrake, w, 0, 0, k⟩ fun i => (s.behindW m ⟨sBrake, w, 0, 0, k⟩).num m i) = false := by
      unfold Sta.rule7
      rw [eb, decide_eq_false (show ¬ (s.brakedW m w k).speed > m.lim by omega)]
      show (false || (eqS sBrake sTick && _)) = false
      rw [k2]; rfl
    rw [this]; simp
theorem stop_allowed {m : Mc} {s : Sta} (h : s.mode = sRun) : s.allowedN m (plainA sStop) = 0 ∧ s.behindW m (plainA sStop) = { s with mode := sStop, tor := 0 } := by
  have k0 : eqS sStop sStart = false := kinds_ne (eqS_iff.2 rfl) (by decide)
  have k1 : eqS sStop sRepair = false := kinds_ne (eqS_iff.2 rfl) (by decide)
  have k2 : eqS sStop sTick = false := kinds_ne (eqS_iff.2 rfl) (by decide)
  have k3 : eqS sStop sBrake = false := kinds_ne (eqS_iff.2 rfl) (by decide)
  have k4 : eqS sStop ByteArray.empty = false := kinds_ne (eqS_iff.2 rfl) (by decide)
  have k5 : eqS sStop sRest = false := kinds_ne (eqS_iff.2 rfl) (by decide)
  refine ⟨?_, ?_⟩
  · have e : s.allowedN m (plainA sStop) = firstT (s.ruleN m (plainA sStop)) 7 0 := rfl
    rw [e, fire]
    · show (bif inK sStop sRest ByteArray.empty && _ then (5 : Int) else 0) = 0
      rw [inK_eq, k5, k4]; rfl
    · show (inK sStop sStart sRepair && _) = false
      rw [inK_eq, k0, k1]; rfl
    · show (inK sStop sTick sStop && (!eqS s.mode sRun)) = false
      rw [h, eq_self sRun]; simp
    · show (inK sStop sBrake sRest && _) = false
      rw [inK_eq, k3, k5]; rfl
    · show (inK sStop sStart ByteArray.empty && _) = false
      rw [inK_eq, k0, k4]; rfl
    · show (inK sStop sTick sBrake && _) = false
      rw [inK_eq, k2, k3]; rfl
    · show (inK sStop sTick sBrake && _) = false
      rw [inK_eq, k2, k3]; rfl
  · unfold Sta.behindW
    show (bif eqS sStop sStart then _ else bif eqS sStop sTick then _ else bif eqS sStop sStop then _ else _) = _
    rw [k0, k2, eq_self sStop]; rfl
end Go.Proofs.YtkdlegfakefjgaaGreatDoor.Ix

namespace Go.Proofs.YtkdlegfakefjgaaGreatDoor.Ix
open Go.Proofs
set_option linter.unusedVariables false
set_option linter.unusedSimpArgs false
theorem most_succ {s t : Sta} {m : Mc} {k : Int} (h : ∀ n, t.stepW m k n = s.stepW m k (n + 1)) : ∀ n, t.most m k n ≤ s.most m k (n + 1)
  | 0 => by
    have e := congrArg Sta.speed (h 0)
    show t.speed ≤ maxW s.speed (s.stepW m k (0 + 1)).speed
    rw [maxW_eq]
    exact Int.le_trans (Int.le_of_eq e) (Int.le_max_right _ _)
  | n + 1 => by
    have ih := most_succ h n
    have e := congrArg Sta.speed (h (n + 1))
    show maxW (t.most m k n) (t.stepW m k (n + 1)).speed ≤ maxW (s.most m k (n + 1)) (s.stepW m k (n + 1 + 1)).speed
    rw [maxW_eq, maxW_eq]
    exact Int.max_le.2 ⟨Int.le_trans ih (Int.le_max_left _ _), Int.le_trans (Int.le_of_eq e) (Int.le_max_right _ _)⟩
theorem pk_shift {m : Mc} (hm : m.ok) {s : Sta} (hs : s.rng m) (hsp : s.speed ≤ 10000) {k : Int} (h1 : -1 ≤ k) (h2 : k ≤ 2) (h1' : (s.stepW m k 1).rng m) (hsp' : (s.stepW m k 1).speed ≤ 10000) : (s.stepW m k 1).pk m k ≤ s.pk m k := by
  rw [← pk_at hm h1' hsp' h1 h2 (Nat.le_max_left ((s.stepW m k 1).num m k) (s.num m k)), ← pk_at hm hs hsp h1 h2 (n := max ((s.stepW m k 1).num m k) (s.num m k) + 1) (by omega)]
  exact most_succ (fun n => (stepW_succ s m k n).symm) _
structure Sta.great (s : Sta) (m : Mc) : Prop where
  good : s.good m
  stop : s.mode = sStop → ∀ k : Nat, k < 3 → (s.stuck ≠ -1 ∧ s.stuck ≠ k) ∨ s.pk m k ≤ m.lim
theorem brake_keeps {m : Mc} (hm : m.ok) {s : Sta} (hs : s.inv m) (hp : ∀ k : Nat, k < 3 → (s.stuck ≠ -1 ∧ s.stuck ≠ k) ∨ s.pk m k ≤ m.lim) {w : Int} (hw : 0 ≤ w ∧ w ≤ m.wind) :
    (s.brakedW m w s.stuck).stuck = s.stuck ∧ (s.brakedW m w s.stuck).speed ≤ m.lim ∧ ∀ k : Nat, k < 3 → (s.stuck ≠ -1 ∧ s.stuck ≠ k) ∨ (s.brakedW m w s.stuck).pk m k ≤ m.lim := by
  have hl := hm.lim
  have hwi := hm.wind
  have hsl := hs.lim
  have hst := hs.stuck
  have e := braked_eq hm hs.rng w s.stuck (by omega)
  have est : (s.brakedW m w s.stuck).stuck = s.stuck := by
    rw [e]; show (if s.stuck = -1 then s.stuck else s.stuck) = s.stuck
    split <;> rfl
  have one : ∀ k : Nat, k < 3 → s.stuck = k ∨ s.stuck = -1 → s.pk m k ≤ m.lim → (s.brakedW m w s.stuck).speed ≤ m.lim ∧ (s.brakedW m w s.stuck).pk m k ≤ m.lim := fun k hk hkk hpk => by
    have hle : (s.brakedW m w s.stuck).le (s.stepW m k 1) := step_le hm hm rfl rfl hs.rng hs.rng s.le_refl (by omega) hkk
    have hr1 := step_rng hm hs.rng (by omega) w s.stuck (by omega)
    have hr2 : (s.stepW m k 1).rng m := step_rng hm hs.rng (by omega) m.wind k (by omega)
    have hp1 := stepW_pk hm hs.rng (by omega) (k := (k : Int)) (by omega) (by omega) 1
    have hsp : (s.brakedW m w s.stuck).speed ≤ (s.stepW m k 1).speed := hle.1
    have h1 := pk_shift hm hs.rng (by omega) (k := (k : Int)) (by omega) (by omega) hr2 (by omega)
    have h2 := pk_le hm hm rfl rfl (Int.le_refl _) (k := (k : Int)) (k' := (k : Int)) (by omega) (by omega) (by omega) (by omega) (.inl rfl) hr1 hr2 (by omega) (by omega) hle
    exact ⟨by omega, by omega⟩
  refine ⟨est, ?_, fun k hk => ?_⟩
  · by_cases h : s.stuck = -1
    · rcases hp 0 (by decide) with h2 | h2
      · exact absurd h h2.1
      · exact (one 0 (by decide) (.inr h) h2).1
    · have hk : s.stuck = ((s.stuck.toNat : Nat) : Int) := by omega
      rcases hp s.stuck.toNat (by omega) with h2 | h2
      · exact absurd hk h2.2
      · exact (one s.stuck.toNat (by omega) (.inl hk) h2).1
  · rcases hp k hk with h | h
    · exact .inl h
    · by_cases hkk : s.stuck = k ∨ s.stuck = -1
      · exact .inr (one k hk hkk h).2
      · left
        exact ⟨fun a => hkk (.inr a), fun a => hkk (.inl a)⟩
theorem start_is {s : Sta} {m : Mc} (h : eqS s.mode sIdle = true) : s.allowedN m (plainA sStart) = bif s.ruleN m (plainA sStart) 3 then 4 else 0 := by
  have e : s.allowedN m (plainA sStart) = firstT (s.ruleN m (plainA sStart)) 7 0 := rfl
  have k0 : eqS sStart sTick = false := kinds_ne (eqS_iff.2 rfl) (by decide)
  have k1 : eqS sStart sBrake = false := kinds_ne (eqS_iff.2 rfl) (by decide)
  have k2 : eqS sStart sStop = false := kinds_ne (eqS_iff.2 rfl) (by decide)
  have k3 : eqS sStart sRest = false := kinds_ne (eqS_iff.2 rfl) (by decide)
  have k4 : eqS sStart ByteArray.empty = false := kinds_ne (eqS_iff.2 rfl) (by decide)
  have r0 : s.ruleN m (plainA sStart) 0 = false := by
    show (inK sStart sStart sRepair && (!eqS s.mode sIdle)) = false
    rw [h]; simp
  have r1 : s.ruleN m (plainA sStart) 1 = false := by
    show (inK sStart sTick sStop && _) = false
    rw [inK_eq, k0, k2]; rfl
  have r2 : s.ruleN m (plainA sStart) 2 = false := by
    show (inK sStart sBrake sRest && _) = false
    rw [inK_eq, k1, k3]; rfl
  have r4 : s.ruleN m (plainA sStart) 4 = false := by
    show (inK sStart sRest ByteArray.empty && _) = false
    rw [inK_eq, k3, k4]; rfl
  have r5 : s.ruleN m (plainA sStart) 5 = false := by
    show (inK sStart sTick sBrake && _) = false
    rw [inK_eq, k0, k1]; rfl
  have r6 : s.ruleN m (plainA sStart) 6 = false := by
    show (inK sStart sTick sBrake && _) = false
    rw [inK_eq, k0, k1]; rfl
  rw [e]
  simp only [firstT]
  rw [r0, r1, r2, r4, r5, r6]
  cases s.ruleN m (plainA sStart) 3 <;> rfl
theorem repair_is {s : Sta} {m : Mc} (h : eqS s.mode sIdle = true) : s.allowedN m (plainA sRepair) = 0 := by
  have e : s.allowedN m (plainA sRepair) = firstT (s.ruleN m (plainA sRepair)) 7 0 := rfl
  have k9 : eqS sRepair sStart = false := kinds_ne (eqS_iff.2 rfl) (by decide)
  have k0 : eqS sRepair sTick = false := kinds_ne (eqS_iff.2 rfl) (by decide)
  have k1 : eqS sRepair sBrake = false := kinds_ne (eqS_iff.2 rfl) (by decide)
  have k2 : eqS sRepair sStop = false := kinds_ne (eqS_iff.2 rfl) (by decide)
  have k3 : eqS sRepair sRest = false := kinds_ne (eqS_iff.2 rfl) (by decide)
  have k4 : eqS sRepair ByteArray.empty = false := kinds_ne (eqS_iff.2 rfl) (by decide)
  have r0 : s.ruleN m (plainA sRepair) 0 = false := by
    show (inK sRepair sStart sRepair && (!eqS s.mode sIdle)) = false
    rw [h]; simp
  have r1 : s.ruleN m (plainA sRepair) 1 = false := by
    show (inK sRepair sTick sStop && _) = false
    rw [inK_eq, k0, k2]; rfl
  have r2 : s.ruleN m (plainA sRepair) 2 = false := by
    show (inK sRepair sBrake sRest && _) = false
    rw [inK_eq, k1, k3]; rfl
  have r4 : s.ruleN m (plainA sRepair) 4 = false := by
    show (inK sRepair sRest ByteArray.empty && _) = false
    rw [inK_eq, k3, k4]; rfl
  have r5 : s.ruleN m (plainA sRepair) 5 = false := by
    show (inK sRepair sTick sBrake && _) = false
    rw [inK_eq, k0, k1]; rfl
  have r6 : s.ruleN m (plainA sRepair) 6 = false := by
    show (inK sRepair sTick sBrake && _) = false
    rw [inK_eq, k0, k1]; rfl
  have r3 : s.ruleN m (plainA sRepair) 3 = false := by
    show (inK sRepair sStart ByteArray.empty && _) = false
    rw [inK_eq, k9, k4]; rfl
  rw [e]
  simp only [firstT]
  rw [r0, r1, r2, r3, r4, r5, r6]; rfl
end Go.Proofs.YtkdlegfakefjgaaGreatDoor.Ix

namespace Go.Proofs.YtkdlegfakefjgaaGreatDoor.Ix
open Go.Proofs
set_option linter.unusedVariables false
set_option linter.unusedSimpArgs false
theorem run_not_stop : sRun ≠ sStop := fun h => by have := eqS_iff.2 h; rw [show eqS sRun sStop = false from kinds_ne (eqS_iff.2 rfl) (by decide)] at this; cases this
theorem idle_not_stop : sIdle ≠ sStop := fun h => by have := eqS_iff.2 h; rw [show eqS sIdle sStop = false from kinds_ne (eqS_iff.2 rfl) (by decide)] at this; cases this
theorem stop_great {m : Mc} (hm : m.ok) {s : Sta} (hs : s.great m) (hmo : s.mode = sRun) : (s.behindW m (plainA sStop)).great m := by
  obtain ⟨al, bh⟩ := stop_allowed (m := m) hmo
  have hg := behind_good hm hs.good (plain_ok hm sStop) al
  refine ⟨hg, fun _ k hk => ?_⟩
  have hsafe := safeN_iff.1 (hs.good.safe (eqS_iff.2 hmo)) k hk
  have hi := hs.good.inv
  have hl := hm.lim
  have hil := hi.lim
  rw [bh]
  rcases hsafe with h | h
  · exact .inl h
  · right
    have hle : ({ s with mode := sStop, tor := 0 } : Sta).le s := ⟨Int.le_refl _, Int.le_refl _, Int.le_refl _, Int.le_refl _⟩
    have := pk_le hm hm rfl rfl (Int.le_refl _) (k := (k : Nat)) (k' := (k : Nat)) (by omega) (by omega) (by omega) (by omega) (.inl rfl) (s := { s with mode := sStop, tor := 0 }) ⟨hi.rng.speed, hi.rng.p0, hi.rng.p1, hi.rng.p2⟩ hi.rng (by show s.speed ≤ _; omega) (by omega) hle
    omega
theorem behind_great {m : Mc} (hm : m.ok) {s : Sta} (hs : s.great m) {a : Ac} (ha : a.ok m) (al : s.allowedN m a = 0) (hmode : (s.behindW m a).mode ≠ sStop) : (s.behindW m a).great m :=
  ⟨behind_good hm hs.good ha al, fun h => absurd h hmode⟩
theorem brake_great {m : Mc} (hm : m.ok) {s : Sta} (hs : s.great m) (hmo : s.mode = sStop) {w : Int} (hw : 0 ≤ w ∧ w ≤ m.wind) : s.allowedN m ⟨sBrake, w, 0, 0, s.stuck⟩ = 0 ∧ (s.behindW m ⟨sBrake, w, 0, 0, s.stuck⟩).great m := by
  have hi := hs.good.inv
  have hf := hm.fea
  have ht := hm.tor
  obtain ⟨k1, k2, k3⟩ := brake_keeps hm hi (hs.stop hmo) hw
  obtain ⟨al, bh⟩ := brake_allowed (m := m) hmo (w := w) (k := s.stuck) (b := s.stuck) (.inl rfl) (.inr rfl) k2
  refine ⟨al, behind_good hm hs.good ⟨hw, ⟨Int.le_refl _, by show (0 : Int) ≤ _; omega⟩, ⟨Int.le_refl _, by show (0 : Int) ≤ _; omega⟩, hi.stuck⟩ al, fun _ k hk => ?_⟩
  rw [bh, k1]
  exact k3 k hk
theorem propose_great {m : Mc} (hm : m.ok) {s : Sta} (hs : s.great m) {w : Int} (hw : 0 ≤ w ∧ w ≤ m.wind) : s.allowedN m (s.proposeW m w) = 0 ∧ (s.proposeW m w).ok m ∧ (s.behindW m (s.proposeW m w)).great m := by
  have hi := hs.good.inv
  have hl := hm.lim
  have hil := hi.lim
  have hf := hm.fea
  have ht := hm.tor
  have hsp : 0 ≤ s.speed ∧ s.speed ≤ 10000 := ⟨hi.rng.speed.1, by omega⟩
  have tick : ∀ p, 0 ≤ p ∧ p ≤ m.fea → s.allowedN m (s.tickA w p (s.torW m)) = 0 → s.allowedN m (s.tickA w p (s.torW m)) = 0 ∧ (s.tickA w p (s.torW m)).ok m ∧ (s.behindW m (s.tickA w p (s.torW m))).great m := fun p hp al => by
    have ha := tick_ok hm hsp hi.stuck hw hp
    refine ⟨al, ha, behind_great hm hs ha al ?_⟩
    have hr := (rule_mode al).2.1 (.inl (eqS_iff.2 rfl))
    have k0 : eqS sTick sStart = false := kinds_ne (eqS_iff.2 rfl) (by decide)
    have : (s.behindW m (s.tickA w p (s.torW m))).mode = s.mode := by
      unfold Sta.behindW
      show (bif eqS sTick sStart then _ else bif eqS sTick sTick then _ else _ : Sta).mode = _
      rw [k0, eq_self]; rfl
    rw [this, eqS_iff.1 hr]
    exact run_not_stop
  unfold Sta.proposeW
  cases q1 : eqS s.mode sIdle with
  | true =>
    have hid := eqS_iff.1 q1
    rw [start_rule q1]
    have e := start_is (m := m) q1
    cases q2 : s.ruleN m (plainA sStart) 3 with
    | true =>
      have al := repair_is (m := m) q1
      refine ⟨al, plain_ok hm _, behind_great hm hs (plain_ok hm _) al ?_⟩
      have k0 : eqS sRepair sStart = false := kinds_ne (eqS_iff.2 rfl) (by decide)
      have k1 : eqS sRepair sTick = false := kinds_ne (eqS_iff.2 rfl) (by decide)
      have k2 : eqS sRepair sStop = false := kinds_ne (eqS_iff.2 rfl) (by decide)
      have k3 : eqS sRepair sBrake = false := kinds_ne (eqS_iff.2 rfl) (by decide)
      have k4 : eqS sRepair sRest = false := kinds_ne (eqS_iff.2 rfl) (by decide)
      have : (s.behindW m (plainA sRepair)).mode = s.mode := by
        unfold Sta.behindW
        show (bif eqS sRepair sStart then _ else bif eqS sRepair sTick then _ else bif eqS sRepair sStop then _ else bif eqS sRepair sBrake then _ else bif eqS sRepair sRest then _ else bif eqS sRepair sRepair then _ else _ : Sta).mode = _
        rw [k0, k1, k2, k3, k4, eq_self]; rfl
      show (s.behindW m (plainA sRepair)).mode ≠ sStop
      rw [this, hid]
      exact idle_not_stop
    | false =>
      rw [q2] at e
      refine ⟨e, plain_ok hm _, behind_great hm hs (plain_ok hm _) e ?_⟩
      have : (s.behindW m (plainA sStart)).mode = sRun := by
        unfold Sta.behindW
        show (bif eqS sStart sStart then _ else _ : Sta).mode = _
        rw [eq_self]; rfl
      show (s.behindW m (plainA sStart)).mode ≠ sStop
      rw [this]
      exact run_not_stop
  | false =>
  cases q3 : eqS s.mode sStop with
  | true =>
    have hmo := eqS_iff.1 q3
    cases q4 : (s.allowedN m (plainA sRest) == 0) with
    | true =>
      have al : s.allowedN m (plainA sRest) = 0 := by simpa using q4
      refine ⟨al, plain_ok hm _, behind_great hm hs (plain_ok hm _) al ?_⟩
      have : (s.behindW m (plainA sRest)).mode = sIdle := by
        have k0 : eqS sRest sStart = false := kinds_ne (eqS_iff.2 rfl) (by decide)
        have k1 : eqS sRest sTick = false := kinds_ne (eqS_iff.2 rfl) (by decide)
        have k2 : eqS sRest sStop = false := kinds_ne (eqS_iff.2 rfl) (by decide)
        have k3 : eqS sRest sBrake = false := kinds_ne (eqS_iff.2 rfl) (by decide)
        unfold Sta.behindW
        show (bif eqS sRest sStart then _ else bif eqS sRest sTick then _ else bif eqS sRest sStop then _ else bif eqS sRest sBrake then _ else bif eqS sRest sRest then _ else _ : Sta).mode = _
        rw [k0, k1, k2, k3, eq_self]; rfl
      show (s.behindW m (plainA sRest)).mode ≠ sStop
      rw [this]
      exact idle_not_stop
    | false =>
      obtain ⟨al, hg⟩ := brake_great hm hs hmo hw
      exact ⟨al, ⟨hw, ⟨Int.le_refl _, by show (0 : Int) ≤ _; omega⟩, ⟨Int.le_refl _, by show (0 : Int) ≤ _; omega⟩, hi.stuck⟩, hg⟩
  | false =>
    cases q5 : (s.allowedN m (s.tickA w (s.pitchW m) (s.torW m)) == 0) with
    | true => exact tick _ (pitch_rng hm s) (by simpa using q5)
    | false =>
    cases q6 : (s.allowedN m (s.tickA w m.fea (s.torW m)) == 0) with
    | true => exact tick _ ⟨by omega, Int.le_refl _⟩ (by simpa using q6)
    | false =>
      have hmo : s.mode = sRun := by
        obtain ⟨_, _, _, _, _, hk, _⟩ := Sta.err_rng hs.good.err
        rw [known_has, hasW_modes, q1, q3] at hk
        exact eqS_iff.1 (by simpa using hk)
      exact ⟨(stop_allowed (m := m) hmo).1, plain_ok hm _, stop_great hm hs hmo⟩
end Go.Proofs.YtkdlegfakefjgaaGreatDoor.Ix

namespace Go.Proofs.YtkdlegfakefjgaaGreatDoor.Ix
set_option linter.unusedVariables false
theorem flatR_get {e n : Nat} {f : Nat → List IV} {i j : Nat} {x : IV} (hi : i < n) (hj : j < e) (hx : (f i)[j]? = some x) : (flatR e n f)[i * e + j]? = some x := by
  have hlt : i * e + j < n * e := by
    have := Nat.mul_le_mul_right e (show i + 1 ≤ n by omega)
    rw [Nat.add_mul] at this; omega
  have he : 0 < e := by omega
  have e1 : (i * e + j) / e = i := by rw [Nat.mul_comm, Nat.mul_add_div he, Nat.div_eq_of_lt hj]; rfl
  have e2 : (i * e + j) % e = j := by rw [Nat.mul_comm, Nat.mul_add_mod, Nat.mod_eq_of_lt hj]
  simp only [flatR, List.getElem?_map, List.getElem?_range hlt, Option.map_some, e1, e2, hx, Option.getD_some]
theorem flat_nth {e n : Nat} {f : Nat → List IV} {junk : List IV} {i j : Nat} {x : IV} (hi : i < n) (hj : j < e) (hx : (f i)[j]? = some x) : nthI (flatR e n f ++ junk) (i * e + j) = some x := by
  have hlt : i * e + j < n * e := by
    have := Nat.mul_le_mul_right e (show i + 1 ≤ n by omega)
    rw [Nat.add_mul] at this; omega
  rw [nthI_eq, List.getElem?_append_left (by rw [flatR_len]; exact hlt)]
  exact flatR_get hi hj hx
theorem lay_one : ∀ (l : List IV) (k : Nat) (v : IV), k < l.length → lay l k [v] = some (l.set k v)
  | [], k, v, h => by simp at h
  | x :: r, 0, v, _ => by
    have : lay r 0 [] = some r := by cases r <;> rfl
    simp [lay, this]
  | x :: r, k + 1, v, h => by
    simp only [lay]
    rw [lay_one r k v (by simpa using h)]
    rfl
def setRow (f : Nat → List IV) (i j : Nat) (v : IV) : Nat → List IV := fun k => if k = i then (f i).set j v else f k
theorem flatR_set {e n : Nat} {f : Nat → List IV} {i j : Nat} {v : IV} (hi : i < n) (hj : j < e) (hl : (f i).length = e) : (flatR e n f).set (i * e + j) v = flatR e n (setRow f i j v) := by
  have he : 0 < e := by omega
  apply List.ext_getElem?
  intro k
  rw [List.getElem?_set]
  by_cases hk : k < n * e
  · have hkn : k / e < n := (Nat.div_lt_iff_lt_mul he).2 hk
    have hke : k % e < e := Nat.mod_lt _ he
    have hdm : k / e * e + k % e = k := by rw [Nat.mul_comm]; exact Nat.div_add_mod k e
    have hR : (flatR e n (setRow f i j v))[k]? = some (((setRow f i j v) (k / e))[k % e]?.getD .dead) := by
      simp only [flatR, List.getElem?_map, List.getElem?_range hk, Option.map_some]
    rw [hR]
    by_cases hq : i * e + j = k
    · have e1 : k / e = i := by rw [← hq, Nat.mul_comm, Nat.mul_add_div he, Nat.div_eq_of_lt hj]; rfl
      have e2 : k % e = j := by rw [← hq, Nat.mul_comm, Nat.mul_add_mod, Nat.mod_eq_of_lt hj]
      rw [if_pos hq, if_pos (by rw [flatR_len, hq]; exact hk), e1, e2]
      simp only [setRow, if_true]
      rw [List.getElem?_set_self (by omega)]
      rfl
    · rw [if_neg hq]
      simp only [flatR, List.getElem?_map, List.getElem?_range hk, Option.map_some]
      by_cases hki : k / e = i
      · have hjk : j ≠ k % e := fun h => hq (by rw [← hki, h]; exact hdm)
        simp only [setRow, if_pos hki]
        rw [List.getElem?_set_ne hjk, hki]
      · simp only [setRow, if_neg hki]
  · have h1 : (flatR e n f)[k]? = none := List.getElem?_eq_none (by rw [flatR_len]; omega)
    have h2 : (flatR e n (setRow f i j v))[k]? = none := List.getElem?_eq_none (by rw [flatR_len]; omega)
    rw [h1, h2]
    split
    · split
      · rename_i hq hlt
        rw [flatR_len, hq] at hlt
        omega
      · rfl
    · rfl
theorem flat_lay {e n : Nat} {f : Nat → List IV} {junk : List IV} {i j : Nat} {v : IV} (hi : i < n) (hj : j < e) (hl : (f i).length = e) : lay (flatR e n f ++ junk) (i * e + j) [v] = some (flatR e n (setRow f i j v) ++ junk) := by
  have hlt : i * e + j < n * e := by
    have := Nat.mul_le_mul_right e (show i + 1 ≤ n by omega)
    rw [Nat.add_mul] at this; omega
  rw [lay_one _ _ _ (by rw [List.length_append, flatR_len]; omega), List.set_append_left _ _ (by rw [flatR_len]; exact hlt), flatR_set hi hj hl]
theorem clL_of {t : List Nat} : ∀ {l : List IV}, (∀ x ∈ l, clV t x = true) → clL t l = true
  | [], _ => by simp [clL]
  | x :: r, h => by
    simp only [clL, Bool.and_eq_true]
    exact ⟨h x (by simp), clL_of fun y hy => h y (by simp [hy])⟩
theorem allInt_cl {t : List Nat} : ∀ {l : List IV}, allInt l = true → ∀ x ∈ l, clV t x = true
  | .int k v :: r, h, x, hx => by
    simp only [List.mem_cons] at hx
    rcases hx with rfl | hx
    · simp [clV]
    · exact allInt_cl (by simpa [allInt] using h) x hx
theorem flat_cl {t : List Nat} {e n m : Nat} {f : Nat → List IV} (hi : ∀ i, i < n → allInt (f i) = true) : clL t (flatR e n f ++ List.replicate m .dead) = true := by
  refine clL_of fun x hx => ?_
  rw [List.mem_append] at hx
  rcases hx with hx | hx
  · simp only [flatR, List.mem_map, List.mem_range] at hx
    obtain ⟨k, hk, rfl⟩ := hx
    have he : 0 < e := by
      rcases Nat.eq_zero_or_pos e with h | h
      · rw [h, Nat.mul_zero] at hk; omega
      · exact h
    have hkn : k / e < n := (Nat.div_lt_iff_lt_mul he).2 hk
    cases hq : (f (k / e))[k % e]? with
    | none => simp [clV]
    | some y =>
      have := allInt_cl (t := t) (hi _ hkn) y (List.mem_of_getElem? hq)
      simpa using this
  · rw [List.mem_replicate] at hx
    rw [hx.2]
    simp [clV]
end Go.Proofs.YtkdlegfakefjgaaGreatDoor.Ix

namespace Go.Proofs.YtkdlegfakefjgaaGreatDoor.Ix
set_option linter.unusedVariables false
end Go.Proofs.YtkdlegfakefjgaaGreatDoor.Ix

namespace Go.Proofs.YtkdlegfakefjgaaGreatDoor.Ix
open Go.Proofs
set_option maxRecDepth 100000
set_option linter.unusedVariables false
set_option linter.unusedSimpArgs false
variable {gl : Nat → IV}
theorem flat_nth0 {e n : Nat} {f : Nat → List IV} {i j : Nat} {x : IV} (hi : i < n) (hj : j < e) (hx : (f i)[j]? = some x) : nthI (flatR e n f) (i * e + j) = some x := by
  have := flat_nth (junk := []) hi hj hx
  simpa using this
theorem flat_lay0 {e n : Nat} {f : Nat → List IV} {i j : Nat} {v : IV} (hi : i < n) (hj : j < e) (hl : (f i).length = e) : lay (flatR e n f) (i * e + j) [v] = some (flatR e n (setRow f i j v)) := by
  have := flat_lay (junk := []) (v := v) hi hj hl
  simpa using this
theorem flat_cl0 {t : List Nat} {e n : Nat} {f : Nat → List IV} (hi : ∀ i, i < n → allInt (f i) = true) : clL t (flatR e n f) = true := by
  have := flat_cl (t := t) (e := e) (m := 0) hi
  simpa using this
theorem c_mapped0 (up : List Ces) (n : Nat) (hn : n ≤ 1000000) (f φ : Nat → Int) (k : Nat) (hk : ∀ up i, i < n → Cs gl k up [.int .i64 (f i)] (.int .i64 (φ i)) up) :
    Cs gl n_control_mapped_int_api_Errno up [.lst none 1 n fun i => [.int .i64 (f i)], .fn k [] []] (.lst (some 19) 1 n fun i => [.int .i64 (φ i)]) up := by
  refine mk h_control_mapped_int_api_Errno rfl rfl ?_
  conv => whnf
  refine .mk (α := {i : Nat // i ≤ n}) (fun i => ⟨[(10, .int .i64 i.1), (9, .int .i64 n), (8, .lst none 1 n fun i => [.int .i64 (f i)]), (5, .lst (some 19) 1 i.1 fun i => [.int .i64 (φ i)]), (1, .fn k [] [])], [], up⟩) (fun i => n - i.1) ⟨0, Nat.zero_le _⟩ ⟨?_, trivial, rfl, rfl⟩ ?_
  · exact ⟨leV_refl _, leV_refl _, leV_refl _, rfl, leV_refl _, trivial⟩
  rintro ⟨i, hi⟩
  have hw : w64 ((i : Int) + 1) = ((i + 1 : Nat) : Int) := by rw [w64, wrap_in] <;> omega
  by_cases hlt : i < n
  · have q : decide ((i : Int) < n) = true := decide_eq_true (by omega)
    conv => whnf
    split
    rotate_left
    · rename_i h
      exact Bool.noConfusion ((q).symm.trans h)
    rename_i hN
    clear hN
    conv => whnf
    split
    rotate_left
    · rename_i h
      exact Bool.noConfusion ((q).symm.trans h)
    rename_i hN
    clear hN
    conv => whnf
    refine .mk _ _ _ _ _ (leL_refl _) (hk _ i hlt) rfl ?_
    conv => whnf
    split
    rotate_left
    · rename_i h
      have h' : decide (i + 1 ≤ 1073741824) = false := h
      simp at h' <;> omega
    conv => whnf
    refine ⟨⟨i + 1, hlt⟩, ⟨⟨leV_int hw, leV_refl _, leV_refl _, ⟨.inr rfl, rfl, rfl, fun j hj => ?_⟩, leV_refl _, trivial⟩, trivial, rfl, rfl⟩, (by show n - (i + 1) < n - i; omega)⟩
    show (if j < i then [IV.int .i64 (φ j)] else litF 1 [.int .i64 (φ i)] (j - i)) = [IV.int .i64 (φ j)]
    split
    · rfl
    · have : j = i := by have : j < i + 1 := hj; omega
      subst this; rw [Nat.sub_self]; rfl
  · have q : decide ((i : Int) < n) = false := decide_eq_false (by omega)
    have : i = n := by omega
    subst this
    conv => whnf
    split
    · rename_i h
      exact Bool.noConfusion ((q).symm.trans h)
    rename_i hN
    clear hN
    conv => whnf
    exact ⟨rfl, rfl⟩
theorem c_f105 (up : List Ces) (x : Int) : Cs gl n_control_Ramps_1 up [.int .i64 x] (.int .i64 (withinS x 0 999999999)) up := by
  refine mk h_control_Ramps_1 rfl rfl ?_
  conv => whnf
  refine .mk _ _ _ _ _ (leL_refl _) (c_within _ _ _ _) rfl ?_
  conv => whnf
  exact ⟨rfl, rfl⟩
def rampF (w : Nat → Int) (n : Nat) (M : Int) (i : Nat) : Int := if i < n then withinS (w i) 0 999999999 else withinS M 0 999999999
def rampE (n : Nat) (w : Nat → Int) (M : Int) : Int := bif decide ((n : Int) > 1024) then 5 else firstS (rampF w n M) (n + 1) 0
def steepB (w : Nat → Int) (M : Int) (i : Nat) : Bool := decide (maxW (w64 (w i - w (i - 1))) (w64 (0 - (w64 (w i - w (i - 1))))) > M)
def rampN (w : Nat → Int) (M : Int) : Nat → Nat → Int
  | 0, _ => -1
  | k + 1, i => bif steepB w M i then (i : Int) else rampN w M k (i + 1)
def stF (w : Nat → Int) (p i : Nat) : List IV := [.int .i64 (if p < i then w64 (w i - w (i - 1)) else w i)]
theorem st_nth {w : Nat → Int} {n p i : Nat} (hi : i < n) (hp : i ≤ p) : nthI (flatR 1 n (stF w p)) (i * 1 + 0) = some (.int .i64 (w i)) :=
  flat_nth0 hi (by decide) (by simp [stF, show ¬ p < i by omega])
theorem st_nth1 {w : Nat → Int} {n p i : Nat} (hi : i < n) (hp : p < i) : nthI (flatR 1 n (stF w p)) (i * 1 + 0) = some (.int .i64 (w64 (w i - w (i - 1)))) :=
  flat_nth0 hi (by decide) (by simp [stF, hp])
theorem st_lay {w : Nat → Int} {n p : Nat} (hi : p + 1 < n) : lay (flatR 1 n (stF w (p + 1))) ((p + 1) * 1 + 0) [.int .i64 (w64 (w (p + 1) - w p))] = some (flatR 1 n (stF w p)) := by
  rw [flat_lay0 (e := 1) (f := stF w (p + 1)) hi (by decide) rfl]
  refine congrArg (fun g => some (flatR 1 n g)) ?_
  funext z
  unfold setRow
  by_cases hz : z = p + 1
  · subst hz; simp [stF]
  · rw [if_neg hz]
    unfold stF
    by_cases h : p < z
    · rw [if_pos h, if_pos (by omega)]
    · rw [if_neg h, if_neg (by omega)]
theorem st_start (w : Nat → Int) {n N : Nat} (hN : n = N + 1) : leL (flatR 1 n fun i => [.int .i64 (w i)]) (flatR 1 n (stF w N)) := by
  subst hN
  rw [show (flatR 1 (N + 1) fun i => [IV.int .i64 (w i)]) = flatR 1 (N + 1) (stF w N) from ?_]
  · exact leL_refl _
  unfold flatR
  refine List.map_congr_left fun k hk => ?_
  rw [List.mem_range] at hk
  unfold stF
  rw [if_neg (by rw [Nat.div_one]; omega)]
set_option maxHeartbeats 8000000 in
theorem c_Ramps (up : List Ces) (n : Nat) (hn : n ≤ 10000000) (w : Nat → Int) (M : Int) :
    Cs gl n_control_Ramps up [.lst none 1 n fun i => [.int .i64 (w i)], .int .i64 M] (bif rampE n w M != 0 then .tup [.int .i64 0, .int .i64 (rampE n w M)] else .tup [.int .i64 (rampN w M (n - 1) 1), .int .i64 0]) up := by
  refine mk h_control_Ramps rfl rfl ?_
  unfold rampE
  cases q0 : decide ((n : Int) > 1024) with
  | true =>
    conv => whnf
    split
    rotate_left
    · rename_i h
      exact Bool.noConfusion ((q0).symm.trans h)
    rename_i hN
    clear hN
    conv => whnf
    exact ⟨rfl, rfl⟩
  | false =>
  rw [cond_false]
  have hn2 := of_decide_eq_false q0
  have hm := fun up => c_mapped0 (gl := gl) up n (by omega) w (fun i => withinS (w i) 0 999999999) n_control_Ramps_1 (fun up i _ => c_f105 up (w i))
  have hg := fun up => c_f105 (gl := gl) up M
  obtain ⟨E, hE⟩ : ∃ E, E = firstS (rampF w n M) (n + 1) 0 := ⟨_, rfl⟩
  have hF := fun up => c_first (gl := gl) up (n + 1) (by omega) (rampF w n M)
  rw [← hE] at hF ⊢
  have hFirst : ∀ (o : Option Nat) (k : Nat) (F : Nat → List IV), k = n + 1 → (∀ i, i < n + 1 → F i = [.int .i64 (rampF w n M i)]) → leL [.lst o 1 k F] [.lst none 1 (n + 1) fun i => [.int .i64 (rampF w n M i)]] := fun o k F hk hF => by
    subst hk
    exact ⟨⟨.inl rfl, rfl, rfl, hF⟩, trivial⟩
  have hel : ∀ i, i < n + 1 → (if i < n then [IV.int .i64 (withinS (w i) 0 999999999)] else litF 1 [.int .i64 (withinS M 0 999999999)] (i - n)) = [.int .i64 (rampF w n M i)] := fun i hi => by
    unfold rampF
    split
    · rfl
    · rw [show i - n = 0 by omega]; rfl
  cases q1 : (E != 0) with
  | true =>
    conv => whnf
    split
    · rename_i h
      exact Bool.noConfusion ((q0).symm.trans h)
    rename_i hN
    clear hN
    conv => whnf
    repeat first
      | (refine DRAW.seek ?_; repeat (first | refine TRYD.take ?_ | refine TRYD.next ?_); conv => whnf)
      | (refine HOLD.mk (by first | exact trivial | exact ⟨⟨rfl, rfl⟩, trivial⟩ | exact ⟨⟨rfl, rfl⟩, ⟨rfl, rfl⟩, trivial⟩) ?_; (conv => whnf))
      | (refine CALL0.by (hm ..) rfl ?_; conv => whnf)
      | (refine CALLQ.mk _ _ _ (leL_refl _) (hm ..) rfl ?_; conv => whnf)
      | (refine CALL0.by (hg ..) rfl ?_; conv => whnf)
      | (refine CALLQ.mk _ _ _ (leL_refl _) (hg ..) rfl ?_; conv => whnf)
    split
    rotate_left
    · rename_i h
      have h' : decide (n + 1 ≤ 1073741824) = false := h
      simp at h' <;> omega
    conv => whnf
    refine .mk _ _ _ _ _ (hFirst _ _ _ rfl hel) (hF _) rfl ?_
    conv => whnf
    split
    rotate_left
    · rename_i h
      exact Bool.noConfusion ((q1).symm.trans h)
    rename_i hN
    clear hN
    conv => whnf
    exact ⟨rfl, rfl⟩
  | false =>
    have qnn : decide ((n : Int) = n) = true := decide_eq_true rfl
    have qnt : decide (n = ((n : Int)).toNat) = true := decide_eq_true (by omega)
    have qsz : decide ((n : Int) ≤ 1073741824) = true := decide_eq_true (by omega)
    by_cases hz : n = 0
    · have hw0 : w64 ((n : Int) - 1) = -1 := by rw [w64, wrap_in] <;> omega
      have hcl : clL [29] (flatR 1 n fun i => [.int .i64 (w i)]) = true := flat_cl0 (fun i _ => rfl)
      have hr : rampN w M (n - 1) 1 = -1 := by rw [hz]; rfl
      rw [hr]
      conv => whnf
      split
      · rename_i h
        exact Bool.noConfusion ((q0).symm.trans h)
      rename_i hN
      clear hN
      conv => whnf
      repeat first
        | (refine DRAW.seek ?_; repeat (first | refine TRYD.take ?_ | refine TRYD.next ?_); conv => whnf)
        | (refine HOLD.mk (by first | exact trivial | exact ⟨⟨rfl, rfl⟩, trivial⟩ | exact ⟨⟨rfl, rfl⟩, ⟨rfl, rfl⟩, trivial⟩) ?_; (conv => whnf))
        | (refine CALL0.by (hm ..) rfl ?_; conv => whnf)
        | (refine CALLQ.mk _ _ _ (leL_refl _) (hm ..) rfl ?_; conv => whnf)
        | (refine CALL0.by (hg ..) rfl ?_; conv => whnf)
        | (refine CALLQ.mk _ _ _ (leL_refl _) (hg ..) rfl ?_; conv => whnf)
      split
      rotate_left
      · rename_i h
        have h' : decide (n + 1 ≤ 1073741824) = false := h
        simp at h' <;> omega
      conv => whnf
      refine .mk _ _ _ _ _ (hFirst _ _ _ rfl hel) (hF _) rfl ?_
      conv => whnf
      split
      · rename_i h
        exact Bool.noConfusion ((q1).symm.trans h)
      rename_i hN
      clear hN
      conv => whnf
      split
      rotate_left
      · rename_i h
        exact Bool.noConfusion ((qsz).symm.trans h)
      rename_i hN
      clear hN
      conv => whnf
      split
      rotate_left
      · rename_i h
        exact Bool.noConfusion ((qnn).symm.trans h)
      rename_i hN
      clear hN
      conv => whnf
      split
      rotate_left
      · rename_i h
        exact Bool.noConfusion ((qnt).symm.trans h)
      rename_i hN
      clear hN
      conv => whnf
      rw [Int.toNat_natCast]
      intro bb
      conv => whnf
      refine .mk (α := Unit) (fun _ => ⟨[(9, .int .i64 (-1)), (8, .row 29 1 n n bb), (1, .int .i64 M)], [(29, flatR 1 n fun i => [.int .i64 (w i)])], up⟩) (fun _ => 0) () ⟨⟨leV_int hw0, leV_refl _, leV_refl _, trivial⟩, ⟨leL_refl _, trivial⟩, rfl, ?_⟩ ?_
      · simp [clT, clC, clL, clV, keys, hcl]
      rintro ⟨⟩
      conv => whnf
      refine .mk (α := Unit) (fun _ => ⟨[(53, .int .i64 0), (52, .int .i64 n), (51, .row 29 1 n n bb), (1, .int .i64 M)], [(29, flatR 1 n fun i => [.int .i64 (w i)])], up⟩) (fun _ => 0) () ⟨⟨leV_refl _, leV_refl _, leV_refl _, leV_refl _, trivial⟩, ⟨leL_refl _, trivial⟩, rfl, ?_⟩ ?_
      · simp [clT, clC, clL, clV, keys, hcl]
      rintro ⟨⟩
      have q : decide ((0 : Int) < n) = false := decide_eq_false (by omega)
      conv => whnf
      split
      · rename_i h
        exact Bool.noConfusion ((q).symm.trans h)
      rename_i hN
      clear hN
      conv => whnf
      exact ⟨rfl, rfl⟩
    obtain ⟨N, hN⟩ : ∃ N, n = N + 1 := ⟨n - 1, by omega⟩
    obtain ⟨R, hR⟩ : ∃ R, R = rampN w M (n - 1) 1 := ⟨_, rfl⟩
    rw [← hR]
    conv => whnf
    split
    · rename_i h
      exact Bool.noConfusion ((q0).symm.trans h)
    rename_i hN
    clear hN
    conv => whnf
    repeat first
      | (refine DRAW.seek ?_; repeat (first | refine TRYD.take ?_ | refine TRYD.next ?_); conv => whnf)
      | (refine HOLD.mk (by first | exact trivial | exact ⟨⟨rfl, rfl⟩, trivial⟩ | exact ⟨⟨rfl, rfl⟩, ⟨rfl, rfl⟩, trivial⟩) ?_; (conv => whnf))
      | (refine CALL0.by (hm ..) rfl ?_; conv => whnf)
      | (refine CALLQ.mk _ _ _ (leL_refl _) (hm ..) rfl ?_; conv => whnf)
      | (refine CALL0.by (hg ..) rfl ?_; conv => whnf)
      | (refine CALLQ.mk _ _ _ (leL_refl _) (hg ..) rfl ?_; conv => whnf)
    split
    rotate_left
    · rename_i h
      have h' : decide (n + 1 ≤ 1073741824) = false := h
      simp at h' <;> omega
    conv => whnf
    refine .mk _ _ _ _ _ (hFirst _ _ _ rfl hel) (hF _) rfl ?_
    conv => whnf
    split
    · rename_i h
      exact Bool.noConfusion ((q1).symm.trans h)
    rename_i hN
    clear hN
    conv => whnf
    split
    rotate_left
    · rename_i h
      exact Bool.noConfusion ((qsz).symm.trans h)
    rename_i hN
    clear hN
    conv => whnf
    split
    rotate_left
    · rename_i h
      exact Bool.noConfusion ((qnn).symm.trans h)
    rename_i hN
    clear hN
    conv => whnf
    split
    rotate_left
    · rename_i h
      exact Bool.noConfusion ((qnt).symm.trans h)
    rename_i hN
    clear hN
    conv => whnf
    rw [Int.toNat_natCast]
    intro bb
    conv => whnf
    have hw0 : w64 ((n : Int) - 1) = (N : Int) := by rw [w64, wrap_in] <;> omega
    have hcl : ∀ k, clL [29] (flatR 1 n (stF w k)) = true := fun k => flat_cl0 (fun i _ => rfl)
    refine .mk (α := {p : Nat // p ≤ N}) (fun p => ⟨[(9, .int .i64 p.1), (8, .row 29 1 n n bb), (1, .int .i64 M)], [(29, flatR 1 n (stF w p.1))], up⟩) (fun p => p.1) ⟨N, Nat.le_refl _⟩ ⟨⟨leV_int hw0, leV_refl _, leV_refl _, trivial⟩, ⟨st_start w hN, trivial⟩, rfl, ?_⟩ ?_
    · simp [clT, clC, clL, clV, keys, hcl]
    rintro ⟨p, hp⟩
    rcases p with _ | k
    · conv => whnf
      refine .mk (α := {i : Nat // i ≤ n ∧ R = rampN w M (n - max i 1) (max i 1)}) (fun i => ⟨[(53, .int .i64 i.1), (52, .int .i64 n), (51, .row 29 1 n n bb), (1, .int .i64 M)], [(29, flatR 1 n (stF w 0))], up⟩) (fun i => n - i.1) ⟨0, Nat.zero_le _, hR⟩ ⟨⟨leV_refl _, leV_refl _, leV_refl _, leV_refl _, trivial⟩, ⟨leL_refl _, trivial⟩, rfl, ?_⟩ ?_
      · simp [clT, clC, clL, clV, keys, hcl]
      rintro ⟨i, hi, hr⟩
      have hiw : w64 ((i : Int) + 1) = ((i + 1 : Nat) : Int) := by rw [w64, wrap_in] <;> omega
      by_cases hin : i < n
      rotate_left
      · have q : decide ((i : Int) < n) = false := decide_eq_false (by omega)
        have hr2 : R = -1 := by rw [hr, show n - max i 1 = 0 by omega]; rfl
        conv => whnf
        split
        · rename_i h
          exact Bool.noConfusion ((q).symm.trans h)
        rename_i hN
        clear hN
        conv => whnf
        refine ⟨?_, rfl⟩
        rw [hr2]; rfl
      · have q : decide ((i : Int) < n) = true := decide_eq_true (by omega)
        rcases i with _ | k
        · have hc1 : nthI (flatR 1 n (stF w 0)) (((0 : Nat) : Int).toNat * 1) = some (.int .i64 (w 0)) := st_nth (by omega) (Nat.le_refl _)
          conv => whnf
          split
          rotate_left
          · rename_i h
            exact Bool.noConfusion ((q).symm.trans h)
          rename_i hN
          clear hN
          conv => whnf
          split
          rotate_left
          · rename_i h
            exact Bool.noConfusion ((q).symm.trans h)
          rename_i hN
          clear hN
          conv => whnf
          split
          rotate_left
          · rename_i h; exact absurd (hc1.symm.trans h) nofun
          rename_i c0 h
          obtain rfl := Option.some.inj (hc1.symm.trans h)
          clear h
          conv => whnf
          refine ⟨⟨1, by omega, hr⟩, ⟨⟨leV_int hiw, leV_refl _, leV_refl _, leV_refl _, trivial⟩, ⟨leL_refl _, trivial⟩, rfl, ?_⟩, (by show n - 1 < n - 0; omega)⟩
          simp [clT, clC, clL, clV, keys, hcl]
        · have qk : decide (((k + 1 : Nat) : Int) > 0) = true := decide_eq_true (by omega)
          have hc1 : nthI (flatR 1 n (stF w 0)) (((k + 1 : Nat) : Int).toNat * 1) = some (.int .i64 (w64 (w (k + 1) - w k))) := st_nth1 (i := k + 1) (p := 0) (by omega) (by omega)
          have hstep : R = bif steepB w M (k + 1) then ((k + 1 : Nat) : Int) else rampN w M (n - (k + 2)) (k + 2) := by
            rw [hr, show max (k + 1) 1 = k + 1 by omega, show n - (k + 1) = (n - (k + 2)) + 1 by omega]; rfl
          cases qs : steepB w M (k + 1) with
          | true =>
            have hr2 : R = ((k + 1 : Nat) : Int) := by rw [hstep, qs]; rfl
            have qs2 : decide (maxW (w64 (w (k + 1) - w k)) (w64 (0 - (w64 (w (k + 1) - w k)))) > M) = true := qs
            conv => whnf
            split
            rotate_left
            · rename_i h
              exact Bool.noConfusion ((q).symm.trans h)
            rename_i hN
            clear hN
            conv => whnf
            split
            rotate_left
            · rename_i h
              exact Bool.noConfusion ((q).symm.trans h)
            rename_i hN
            clear hN
            conv => whnf
            split
            rotate_left
            · rename_i h; exact absurd (hc1.symm.trans h) nofun
            rename_i c0 h
            obtain rfl := Option.some.inj (hc1.symm.trans h)
            clear h
            conv => whnf
            split
            rotate_left
            · rename_i h
              exact Bool.noConfusion ((qk).symm.trans h)
            rename_i hN
            clear hN
            conv => whnf
            split
            rotate_left
            · rename_i h
              exact Bool.noConfusion ((qs2).symm.trans h)
            rename_i hN
            clear hN
            conv => whnf
            exact ⟨congrArg (fun z => IV.tup [.int .i64 z, .int .i64 0]) hr2.symm, rfl⟩
          | false =>
            have hr2 : R = rampN w M (n - (k + 2)) (k + 2) := by rw [hstep, qs]; rfl
            have qs2 : decide (maxW (w64 (w (k + 1) - w k)) (w64 (0 - (w64 (w (k + 1) - w k)))) > M) = false := qs
            conv => whnf
            split
            rotate_left
            · rename_i h
              exact Bool.noConfusion ((q).symm.trans h)
            rename_i hN
            clear hN
            conv => whnf
            split
            rotate_left
            · rename_i h
              exact Bool.noConfusion ((q).symm.trans h)
            rename_i hN
            clear hN
            conv => whnf
            split
            rotate_left
            · rename_i h; exact absurd (hc1.symm.trans h) nofun
            rename_i c0 h
            obtain rfl := Option.some.inj (hc1.symm.trans h)
            clear h
            conv => whnf
            split
            rotate_left
            · rename_i h
              exact Bool.noConfusion ((qk).symm.trans h)
            rename_i hN
            clear hN
            conv => whnf
            split
            · rename_i h
              exact Bool.noConfusion ((qs2).symm.trans h)
            rename_i hN
            clear hN
            conv => whnf
            refine ⟨⟨k + 2, by omega, by rw [hr2, show max (k + 2) 1 = k + 2 by omega]⟩, ⟨⟨leV_int hiw, leV_refl _, leV_refl _, leV_refl _, trivial⟩, ⟨leL_refl _, trivial⟩, rfl, ?_⟩, Nat.sub_lt_sub_left hin (Nat.lt_succ_self _)⟩
            simp [clT, clC, clL, clV, keys, hcl]
    · have q : decide (((k + 1 : Nat) : Int) > 0) = true := decide_eq_true (by omega)
      have qn : decide (((k + 1 : Nat) : Int) < n) = true := decide_eq_true (by omega)
      have hw1 : w64 (((k + 1 : Nat) : Int) - 1) = (k : Int) := by rw [w64, wrap_in] <;> omega
      have qa : decide (0 ≤ w64 (((k + 1 : Nat) : Int) - 1)) = true := by rw [hw1]; exact decide_eq_true (by omega)
      have qb : decide (w64 (((k + 1 : Nat) : Int) - 1) < n) = true := by rw [hw1]; exact decide_eq_true (by omega)
      have hc1 : nthI (flatR 1 n (stF w (k + 1))) (((k + 1 : Nat) : Int).toNat * 1) = some (.int .i64 (w (k + 1))) := st_nth (by omega) (Nat.le_refl _)
      have hc2 : nthI (flatR 1 n (stF w (k + 1))) ((w64 (((k + 1 : Nat) : Int) - 1)).toNat * 1) = some (.int .i64 (w k)) := by rw [hw1]; exact st_nth (by omega) (by omega)
      have hla : lay (flatR 1 n (stF w (k + 1))) (((k + 1 : Nat) : Int).toNat * 1) [.int .i64 (w64 (w (k + 1) - w k))] = some (flatR 1 n (stF w k)) := st_lay (by omega)
      conv => whnf
      split
      rotate_left
      · rename_i h
        exact Bool.noConfusion ((q).symm.trans h)
      rename_i hN
      clear hN
      conv => whnf
      refine DRAW.seek ?_
      repeat (first | refine TRYD.take ?_ | refine TRYD.next ?_)
      conv => whnf
      split
      rotate_left
      · rename_i h
        exact Bool.noConfusion ((qn).symm.trans h)
      rename_i hN
      clear hN
      conv => whnf
      split
      rotate_left
      · rename_i h; exact absurd (hc1.symm.trans h) nofun
      rename_i c0 h
      obtain rfl := Option.some.inj (hc1.symm.trans h)
      clear h
      conv => whnf
      split
      rotate_left
      · rename_i h
        exact Bool.noConfusion ((qa).symm.trans h)
      rename_i hN
      clear hN
      conv => whnf
      split
      rotate_left
      · rename_i h
        exact Bool.noConfusion ((qb).symm.trans h)
      rename_i hN
      clear hN
      conv => whnf
      split
      rotate_left
      · rename_i h; exact absurd (hc2.symm.trans h) nofun
      rename_i c0 h
      obtain rfl := Option.some.inj (hc2.symm.trans h)
      clear h
      conv => whnf
      split
      rotate_left
      · rename_i h
        exact Bool.noConfusion ((qn).symm.trans h)
      rename_i hN
      clear hN
      conv => whnf
      split
      rotate_left
      · rename_i h; exact absurd (hla.symm.trans h) nofun
      rename_i c0 h
      obtain rfl := Option.some.inj (hla.symm.trans h)
      clear h
      conv => whnf
      refine ⟨⟨k, by omega⟩, ⟨⟨leV_int hw1, leV_refl _, leV_refl _, trivial⟩, ⟨leL_refl _, trivial⟩, rfl, ?_⟩, (by show k < k + 1; omega)⟩
      simp [clT, clC, clL, clV, keys, hcl]
end Go.Proofs.YtkdlegfakefjgaaGreatDoor.Ix

namespace Go.Proofs.YtkdlegfakefjgaaGreatDoor.Ix
open Go.Proofs
set_option maxRecDepth 100000
set_option linter.unusedVariables false
set_option linter.unusedSimpArgs false
variable {gl : Nat → IV}
theorem c_rSameActs (up : List Ces) (n : Nat) (hn : n ≤ 10000000) (f : Nat → Ac) :
    Cs gl n_nacelleref05_SameActs up [.lst none 5 n fun i => (f i).cs, .lst none 5 n fun i => (f i).cs] (.bool true) up := by
  refine mk h_nacelleref05_SameActs rfl rfl ?_
  have q0 : ((n : Int) != n) = false := by simp
  conv => whnf
  split
  · rename_i h
    exact Bool.noConfusion ((q0).symm.trans h)
  rename_i hN
  clear hN
  conv => whnf
  refine .mk (α := {i : Nat // i ≤ n}) (fun i => ⟨[(5, .int .i64 i.1), (1, .lst none 5 n fun i => (f i).cs), (0, .lst none 5 n fun i => (f i).cs)], [], up⟩) (fun i => n - i.1) ⟨0, Nat.zero_le _⟩ ⟨?_, ?_, rfl, rfl⟩ ?_
  · exact ⟨leV_refl _, leV_refl _, leV_refl _, trivial⟩
  · exact trivial
  rintro ⟨i, hi⟩
  have hw : w64 ((i : Int) + 1) = ((i + 1 : Nat) : Int) := by rw [w64, wrap_in] <;> omega
  by_cases hlt : i < n
  · have q : decide ((i : Int) < (n : Int)) = true := decide_eq_true (by omega)
    have ne : (!(eqS (f i).kind (f i).kind && ((f i).wind == (f i).wind && ((f i).pitch == (f i).pitch && ((f i).tor == (f i).tor && ((f i).stuck == (f i).stuck && true)))))) = false := by rw [eqS_iff.2 rfl]; simp
    conv => whnf
    split
    rotate_left
    · rename_i h
      exact Bool.noConfusion ((q).symm.trans h)
    rename_i hN
    clear hN
    conv => whnf
    refine DRAW.seek ?_
    repeat (first | refine TRYD.take ?_ | refine TRYD.next ?_)
    conv => whnf
    split
    rotate_left
    · rename_i h
      exact Bool.noConfusion ((q).symm.trans h)
    rename_i hN
    clear hN
    conv => whnf
    split
    rotate_left
    · rename_i h
      exact Bool.noConfusion ((q).symm.trans h)
    rename_i hN
    clear hN
    conv => whnf
    split
    · rename_i h
      exact Bool.noConfusion ((ne).symm.trans h)
    rename_i hN
    clear hN
    conv => whnf
    exact ⟨⟨i + 1, hlt⟩, ⟨⟨leV_int hw, leV_refl _, leV_refl _, trivial⟩, trivial, rfl, rfl⟩, (by show n - (i + 1) < n - i; omega)⟩
  · have q : decide ((i : Int) < (n : Int)) = false := decide_eq_false (by omega)
    conv => whnf
    split
    · rename_i h
      exact Bool.noConfusion ((q).symm.trans h)
    rename_i hN
    clear hN
    conv => whnf
    exact ⟨rfl, rfl⟩
end Go.Proofs.YtkdlegfakefjgaaGreatDoor.Ix

namespace Go.Proofs.YtkdlegfakefjgaaGreatDoor.Ix
open Go.Proofs
set_option maxRecDepth 100000
set_option linter.unusedVariables false
set_option linter.unusedSimpArgs false
variable {gl : Nat → IV}
noncomputable def runW (m : Mc) (w : Nat → Int) : Nat → Sta
  | 0 => beginS m
  | i + 1 => (runW m w i).behindW m ((runW m w i).proposeW m (w i))
noncomputable def actW (m : Mc) (w : Nat → Int) (i : Nat) : Ac := (runW m w i).proposeW m (w i)
theorem begin_great {m : Mc} (hm : m.ok) : (beginS m).great m := ⟨begin_good hm, fun h => absurd h idle_not_stop⟩
theorem run_great {m : Mc} (hm : m.ok) {n : Nat} {w : Nat → Int} (hw : ∀ i, i < n → 0 ≤ w i ∧ w i ≤ m.wind) : ∀ i, i ≤ n → (runW m w i).great m
  | 0, _ => begin_great hm
  | i + 1, h => (propose_great hm (run_great hm hw i (by omega)) (hw i (by omega))).2.2
theorem c_f104 (A B : Ces) (up : List Ces) (d : Nat) (m : Mc) (hc : lookC B d = some m.cs) (x : Int) : Cs gl n_control_Run_1 (A :: B :: up) [.int .i64 x, .ptr 2 d 0] (.int .i64 (withinS x 0 m.wind)) (A :: B :: up) := by
  refine mk h_control_Run_1 rfl rfl ?_
  conv => whnf
  split
  rotate_left
  · rename_i h; exact absurd (hc.symm.trans h) nofun
  rename_i c0 h
  obtain rfl := Option.some.inj (hc.symm.trans h)
  clear h
  conv => whnf
  refine .mk _ _ _ _ _ (leL_refl _) (c_within _ _ _ _) rfl ?_
  conv => whnf
  exact ⟨rfl, rfl⟩
def winds0 (m : Mc) (n : Nat) (w : Nat → Int) : Int := firstS (fun i => withinS (w i) 0 m.wind) n 0
def tgR : Nat → Nat
  | 0 => 33
  | _ + 1 => 49
noncomputable def runR (m : Mc) (n : Nat) (w : Nat → Int) : IV :=
  bif repE0 m n != 0 then .tup [.nilS, .int .i64 (repE0 m n)] else
  bif winds0 m n w != 0 then .tup [.nilS, .int .i64 (winds0 m n w)] else
  .tup [.lst (some (tgR n)) 5 n fun i => (actW m w i).cs, .int .i64 0]
set_option maxHeartbeats 16000000 in
theorem c_Run (up : List Ces) (m : Mc) (n : Nat) (hn : n ≤ 10000000) (w : Nat → Int) :
    Cs gl n_control_Run up [m.iv, .lst none 1 n fun i => [.int .i64 (w i)]] (runR m n w) up := by
  refine mk h_control_Run rfl rfl ?_
  unfold runR
  cases q0 : (repE0 m n != 0) with
  | true =>
    conv => whnf
    repeat first
      | (refine DRAW.seek ?_; repeat (first | refine TRYD.take ?_ | refine TRYD.next ?_); conv => whnf)
      | (refine HOLD.mk (by first | exact trivial | exact ⟨⟨rfl, rfl⟩, trivial⟩ | exact ⟨⟨rfl, rfl⟩, ⟨rfl, rfl⟩, trivial⟩) ?_; (conv => whnf))
      | (refine CALL0.by (c_CheckMachine ..) rfl ?_; conv => whnf)
      | (refine CALLQ.mk _ _ _ (leL_refl _) (c_CheckMachine ..) rfl ?_; conv => whnf)
      | (refine CALL0.by (c_when ..) rfl ?_; conv => whnf)
      | (refine CALLQ.mk _ _ _ (leL_refl _) (c_when ..) rfl ?_; conv => whnf)
    refine .mk _ _ _ _ _ (leL_refl _) (c_f2 _ _ _ _ rfl rfl) rfl ?_
    conv => whnf
    split
    rotate_left
    · rename_i h
      exact Bool.noConfusion ((q0).symm.trans h)
    rename_i hN
    clear hN
    conv => whnf
    exact ⟨rfl, rfl⟩
  | false =>
  rw [cond_false]
  have h0 : repE0 m n = 0 := by simpa using q0
  unfold repE0 at h0
  rw [orL_zero] at h0
  have hm : m.ok := Mc.err_ok (h0 _ (by simp))
  have hn2 : n ≤ 1024 := by
    have := h0 (bif decide ((n : Int) > 1024) then 5 else 0) (by simp)
    cases q : decide ((n : Int) > 1024) with
    | true => rw [q] at this; cases this
    | false => have := of_decide_eq_false q; omega
  obtain ⟨E, hE⟩ : ∃ E, E = winds0 m n w := ⟨_, rfl⟩
  have hF := fun up => c_first (gl := gl) up n (by omega) (fun i => withinS (w i) 0 m.wind)
  rw [show firstS (fun i => withinS (w i) 0 m.wind) n 0 = E from hE.symm] at hF
  rw [← hE]
  cases q1 : (E != 0) with
  | true =>
    conv => whnf
    repeat first
      | (refine DRAW.seek ?_; repeat (first | refine TRYD.take ?_ | refine TRYD.next ?_); conv => whnf)
      | (refine HOLD.mk (by first | exact trivial | exact ⟨⟨rfl, rfl⟩, trivial⟩ | exact ⟨⟨rfl, rfl⟩, ⟨rfl, rfl⟩, trivial⟩) ?_; (conv => whnf))
      | (refine CALL0.by (c_CheckMachine ..) rfl ?_; conv => whnf)
      | (refine CALLQ.mk _ _ _ (leL_refl _) (c_CheckMachine ..) rfl ?_; conv => whnf)
      | (refine CALL0.by (c_when ..) rfl ?_; conv => whnf)
      | (refine CALLQ.mk _ _ _ (leL_refl _) (c_when ..) rfl ?_; conv => whnf)
    refine .mk _ _ _ _ _ (leL_refl _) (c_f2 _ _ _ _ rfl rfl) rfl ?_
    conv => whnf
    split
    · rename_i h
      exact Bool.noConfusion ((q0).symm.trans h)
    rename_i hN
    clear hN
    conv => whnf
    refine .mk _ _ _ _ _ (leL_refl _) (c_mappedI _ up n (by omega) w (fun i => withinS (w i) 0 m.wind) n_control_Run_1 2 (fun i hi => c_f104 [] _ up 2 m rfl _)) rfl ?_
    conv => whnf
    repeat first
      | (refine DRAW.seek ?_; repeat (first | refine TRYD.take ?_ | refine TRYD.next ?_); conv => whnf)
      | (refine HOLD.mk (by first | exact trivial | exact ⟨⟨rfl, rfl⟩, trivial⟩ | exact ⟨⟨rfl, rfl⟩, ⟨rfl, rfl⟩, trivial⟩) ?_; (conv => whnf))
      | (refine CALL0.by (hF ..) rfl ?_; conv => whnf)
      | (refine CALLQ.mk _ _ _ (leL_refl _) (hF ..) rfl ?_; conv => whnf)
    split
    rotate_left
    · rename_i h
      exact Bool.noConfusion ((q1).symm.trans h)
    rename_i hN
    clear hN
    conv => whnf
    exact ⟨rfl, rfl⟩
  | false =>
    have hz : E = 0 := by simpa using q1
    have hw : ∀ i, i < n → 0 ≤ w i ∧ w i ≤ m.wind := fun i hi => by
      have h := hE.symm.trans hz
      unfold winds0 at h
      rw [firstS_zero] at h
      exact withinS_zero.1 (h i (by omega) (by omega))
    have hgr := run_great hm hw
    have qsz : decide ((n : Int) ≤ 1073741824) = true := decide_eq_true (by omega)
    conv => whnf
    repeat first
      | (refine DRAW.seek ?_; repeat (first | refine TRYD.take ?_ | refine TRYD.next ?_); conv => whnf)
      | (refine HOLD.mk (by first | exact trivial | exact ⟨⟨rfl, rfl⟩, trivial⟩ | exact ⟨⟨rfl, rfl⟩, ⟨rfl, rfl⟩, trivial⟩) ?_; (conv => whnf))
      | (refine CALL0.by (c_CheckMachine ..) rfl ?_; conv => whnf)
      | (refine CALLQ.mk _ _ _ (leL_refl _) (c_CheckMachine ..) rfl ?_; conv => whnf)
      | (refine CALL0.by (c_when ..) rfl ?_; conv => whnf)
      | (refine CALLQ.mk _ _ _ (leL_refl _) (c_when ..) rfl ?_; conv => whnf)
    refine .mk _ _ _ _ _ (leL_refl _) (c_f2 _ _ _ _ rfl rfl) rfl ?_
    conv => whnf
    split
    · rename_i h
      exact Bool.noConfusion ((q0).symm.trans h)
    rename_i hN
    clear hN
    conv => whnf
    refine .mk _ _ _ _ _ (leL_refl _) (c_mappedI _ up n (by omega) w (fun i => withinS (w i) 0 m.wind) n_control_Run_1 2 (fun i hi => c_f104 [] _ up 2 m rfl _)) rfl ?_
    conv => whnf
    repeat first
      | (refine DRAW.seek ?_; repeat (first | refine TRYD.take ?_ | refine TRYD.next ?_); conv => whnf)
      | (refine HOLD.mk (by first | exact trivial | exact ⟨⟨rfl, rfl⟩, trivial⟩ | exact ⟨⟨rfl, rfl⟩, ⟨rfl, rfl⟩, trivial⟩) ?_; (conv => whnf))
      | (refine CALL0.by (hF ..) rfl ?_; conv => whnf)
      | (refine CALLQ.mk _ _ _ (leL_refl _) (hF ..) rfl ?_; conv => whnf)
    split
    · rename_i h
      exact Bool.noConfusion ((q1).symm.trans h)
    rename_i hN
    clear hN
    conv => whnf
    split
    rotate_left
    · rename_i h
      exact Bool.noConfusion ((qsz).symm.trans h)
    rename_i hN
    clear hN
    conv => whnf
    repeat first
      | (refine DRAW.seek ?_; repeat (first | refine TRYD.take ?_ | refine TRYD.next ?_); conv => whnf)
      | (refine HOLD.mk (by first | exact trivial | exact ⟨⟨rfl, rfl⟩, trivial⟩ | exact ⟨⟨rfl, rfl⟩, ⟨rfl, rfl⟩, trivial⟩) ?_; (conv => whnf))
      | (refine CALL0.by (c_begin ..) rfl ?_; conv => whnf)
      | (refine CALLQ.mk _ _ _ (leL_refl _) (c_begin ..) rfl ?_; conv => whnf)
    let F : Nat → List IV := fun i => (actW m w i).cs
    refine .mk (α := {i : Nat // i ≤ n}) (fun i => ⟨[(38, .int .i64 i.1), (37, .int .i64 n), (36, .lst none 1 n fun i => [.int .i64 (w i)]), (8, .lst (some (tgR i.1)) 5 i.1 F), (2, .ptr 0 2 0), (9, .ptr 0 9 0)], [(9, (runW m w i.1).cs), (2, m.cs)], up⟩) (fun i => n - i.1) ⟨0, Nat.zero_le _⟩ ⟨?_, ?_, rfl, rfl⟩ ?_
    · exact ⟨leV_refl _, leV_refl _, leV_refl _, ⟨.inr rfl, rfl, rfl, fun j hj => absurd hj (Nat.not_lt_zero _)⟩, leV_refl _, leV_refl _, trivial⟩
    · exact ⟨leL_refl _, leL_refl _, trivial⟩
    rintro ⟨i, hi⟩
    have hiw : w64 ((i : Int) + 1) = ((i + 1 : Nat) : Int) := by rw [w64, wrap_in] <;> omega
    by_cases hlt : i < n
    · have q : decide ((i : Int) < n) = true := decide_eq_true (by omega)
      have hg := hgr i (by omega)
      have hi1 := hg.good.inv
      have hl := hm.lim
      have hil := hi1.lim
      have hp := fun up => c_propose (gl := gl) up m (runW m w i) (w i) hm hi1.rng (by omega) hi1.stuck (hw i hlt)
      rw [show (runW m w i).proposeW m (w i) = actW m w i from rfl] at hp
      have hb := fun up => c_behind (gl := gl) up m (runW m w i) (actW m w i)
      rw [show (runW m w i).behindW m (actW m w i) = runW m w (i + 1) from rfl] at hb
      rcases i with _ | i
      · conv => whnf
        split
        rotate_left
        · rename_i h
          exact Bool.noConfusion ((q).symm.trans h)
        rename_i hN
        clear hN
        conv => whnf
        split
        rotate_left
        · rename_i h
          exact Bool.noConfusion ((q).symm.trans h)
        rename_i hN
        clear hN
        conv => whnf
        repeat first
          | (refine DRAW.seek ?_; repeat (first | refine TRYD.take ?_ | refine TRYD.next ?_); conv => whnf)
          | (refine HOLD.mk (by first | exact trivial | exact ⟨⟨rfl, rfl⟩, trivial⟩ | exact ⟨⟨rfl, rfl⟩, ⟨rfl, rfl⟩, trivial⟩) ?_; (conv => whnf))
          | (refine CALL0.by (hp ..) rfl ?_; conv => whnf)
          | (refine CALLQ.mk _ _ _ (leL_refl _) (hp ..) rfl ?_; conv => whnf)
        repeat first
          | (refine DRAW.seek ?_; repeat (first | refine TRYD.take ?_ | refine TRYD.next ?_); conv => whnf)
          | (refine HOLD.mk (by first | exact trivial | exact ⟨⟨rfl, rfl⟩, trivial⟩ | exact ⟨⟨rfl, rfl⟩, ⟨rfl, rfl⟩, trivial⟩) ?_; (conv => whnf))
          | (refine CALL0.by (hb ..) rfl ?_; conv => whnf)
          | (refine CALLQ.mk _ _ _ (leL_refl _) (hb ..) rfl ?_; conv => whnf)
        refine ⟨⟨0 + 1, hlt⟩, ⟨⟨leV_int hiw, leV_refl _, leV_refl _, ⟨.inr rfl, rfl, rfl, fun j hj => ?_⟩, leV_refl _, leV_refl _, trivial⟩, ⟨leL_refl _, leL_refl _, trivial⟩, rfl, rfl⟩, (by show n - (0 + 1) < n - 0; omega)⟩
        show (if j < 0 then F j else litF 5 (F 0) (j - 0)) = F j
        split
        · rfl
        · have : j = 0 := by have : j < 0 + 1 := hj; omega
          subst this
          rw [Nat.sub_self]
          rfl
      · conv => whnf
        split
        rotate_left
        · rename_i h
          exact Bool.noConfusion ((q).symm.trans h)
        rename_i hN
        clear hN
        conv => whnf
        split
        rotate_left
        · rename_i h
          exact Bool.noConfusion ((q).symm.trans h)
        rename_i hN
        clear hN
        conv => whnf
        repeat first
          | (refine DRAW.seek ?_; repeat (first | refine TRYD.take ?_ | refine TRYD.next ?_); conv => whnf)
          | (refine HOLD.mk (by first | exact trivial | exact ⟨⟨rfl, rfl⟩, trivial⟩ | exact ⟨⟨rfl, rfl⟩, ⟨rfl, rfl⟩, trivial⟩) ?_; (conv => whnf))
          | (refine CALL0.by (hp ..) rfl ?_; conv => whnf)
          | (refine CALLQ.mk _ _ _ (leL_refl _) (hp ..) rfl ?_; conv => whnf)
        split
        rotate_left
        · rename_i h
          have h' : decide (i + 1 + 1 ≤ 1073741824) = false := h
          simp at h' <;> omega
        conv => whnf
        repeat first
          | (refine DRAW.seek ?_; repeat (first | refine TRYD.take ?_ | refine TRYD.next ?_); conv => whnf)
          | (refine HOLD.mk (by first | exact trivial | exact ⟨⟨rfl, rfl⟩, trivial⟩ | exact ⟨⟨rfl, rfl⟩, ⟨rfl, rfl⟩, trivial⟩) ?_; (conv => whnf))
          | (refine CALL0.by (hb ..) rfl ?_; conv => whnf)
          | (refine CALLQ.mk _ _ _ (leL_refl _) (hb ..) rfl ?_; conv => whnf)
        refine ⟨⟨i + 1 + 1, hlt⟩, ⟨⟨leV_int hiw, leV_refl _, leV_refl _, ⟨.inr rfl, rfl, rfl, fun j hj => ?_⟩, leV_refl _, leV_refl _, trivial⟩, ⟨leL_refl _, leL_refl _, trivial⟩, rfl, rfl⟩, (by show n - (i + 1 + 1) < n - (i + 1); omega)⟩
        show (if j < i + 1 then F j else litF 5 (F (i + 1)) (j - (i + 1))) = F j
        split
        · rfl
        · have : j = i + 1 := by have : j < i + 1 + 1 := hj; omega
          subst this
          rw [Nat.sub_self]
          rfl
    · have q : decide ((i : Int) < n) = false := decide_eq_false (by omega)
      have e : i = n := by omega
      subst e
      conv => whnf
      split
      · rename_i h
        exact Bool.noConfusion ((q).symm.trans h)
      rename_i hN
      clear hN
      conv => whnf
      exact ⟨rfl, rfl⟩
end Go.Proofs.YtkdlegfakefjgaaGreatDoor.Ix

namespace Go.Proofs.YtkdlegfakefjgaaGreatDoor.Ix
open Go.Proofs
set_option maxRecDepth 100000
set_option linter.unusedVariables false
set_option linter.unusedSimpArgs false
theorem act_err {m : Mc} (hm : m.ok) {a : Ac} (ha : a.ok m) (hk : idxD a.kind kindsL 0 ≥ 0) (hf : a.formX = true) : a.err m = 0 := by
  rw [acErr_run]
  unfold Ac.errX Ac.checkX
  rw [orL_zero]
  simp only [List.mem_cons, List.not_mem_nil, or_false, forall_eq_or_imp, forall_eq]
  refine ⟨Mc.err_of hm, ?_⟩
  rw [orL_zero]
  simp only [List.mem_cons, List.not_mem_nil, or_false, forall_eq_or_imp, forall_eq, withinS_zero]
  rw [decide_eq_true hk, hf]
  exact ⟨rfl, ha.wind, ha.pitch, ha.tor, ha.stuck, rfl⟩
theorem propose_form (s : Sta) (m : Mc) (w : Int) : idxD (s.proposeW m w).kind kindsL 0 ≥ 0 ∧ (s.proposeW m w).formX = true := by
  have h1 : idxD (plainA sStart).kind kindsL 0 ≥ 0 ∧ (plainA sStart).formX = true := ⟨by decide +kernel, by decide +kernel⟩
  have h2 : idxD (plainA sRepair).kind kindsL 0 ≥ 0 ∧ (plainA sRepair).formX = true := ⟨by decide +kernel, by decide +kernel⟩
  have h3 : idxD (plainA sRest).kind kindsL 0 ≥ 0 ∧ (plainA sRest).formX = true := ⟨by decide +kernel, by decide +kernel⟩
  have h4 : idxD (plainA sStop).kind kindsL 0 ≥ 0 ∧ (plainA sStop).formX = true := ⟨by decide +kernel, by decide +kernel⟩
  have ht : ∀ p t, idxD (s.tickA w p t).kind kindsL 0 ≥ 0 ∧ (s.tickA w p t).formX = true := fun p t => by
    refine ⟨show idxD sTick kindsL 0 ≥ 0 by decide +kernel, ?_⟩
    show (bif eqD sTick sTick then true else _) = true
    rw [show eqD sTick sTick = true by decide +kernel]; rfl
  have hb : idxD (Ac.mk sBrake w 0 0 s.stuck).kind kindsL 0 ≥ 0 ∧ (Ac.mk sBrake w 0 0 s.stuck).formX = true := by
    refine ⟨show idxD sBrake kindsL 0 ≥ 0 by decide +kernel, ?_⟩
    show (bif eqD sBrake sTick then true else bif !eqD sBrake sBrake then _ else ((0 : Int) == 0 && (0 : Int) == 0)) = true
    rw [show eqD sBrake sTick = false by decide +kernel, show eqD sBrake sBrake = true by decide +kernel]; rfl
  unfold Sta.proposeW
  cases eqS s.mode sIdle with
  | true =>
    rw [cond_true]
    cases (s.allowedN m (plainA sStart) == 4)
    · exact h1
    · exact h2
  | false =>
  rw [cond_false]
  cases eqS s.mode sStop with
  | true =>
    rw [cond_true]
    cases (s.allowedN m (plainA sRest) == 0)
    · exact hb
    · exact h3
  | false =>
  rw [cond_false]
  cases (s.allowedN m (s.tickA w (s.pitchW m) (s.torW m)) == 0) with
  | true => exact ht _ _
  | false =>
  rw [cond_false]
  cases (s.allowedN m (s.tickA w m.fea (s.torW m)) == 0) with
  | true => exact ht _ _
  | false => exact h4
theorem repS_run (m : Mc) (w : Nat → Int) : ∀ i, repS m (actW m w) i = runW m w i
  | 0 => rfl
  | i + 1 => by
    show (repS m (actW m w) i).behindW m (actW m w i) = (runW m w i).behindW m ((runW m w i).proposeW m (w i))
    rw [repS_run m w i]; rfl
theorem acts_good {m : Mc} (hm : m.ok) {n : Nat} {w : Nat → Int} (hw : ∀ i, i < n → 0 ≤ w i ∧ w i ≤ m.wind) {i : Nat} (hi : i < n) : (actW m w i).err m = 0 ∧ (runW m w i).allowedN m (actW m w i) = 0 := by
  obtain ⟨al, ok, _⟩ := propose_great hm (run_great hm hw i (by omega)) (hw i hi)
  obtain ⟨f1, f2⟩ := propose_form (runW m w i) m (w i)
  exact ⟨act_err hm ok f1 f2, al⟩
theorem repE_all {m : Mc} {l : Nat → Ac} : ∀ n i, (∀ j, i ≤ j → j < i + n → stepE m l j = 0) → repE m l n i = (0, 0)
  | 0, i, _ => rfl
  | n + 1, i, h => by
    unfold repE
    rw [h i (Nat.le_refl _) (by omega)]
    exact repE_all n (i + 1) fun j h1 h2 => h j (by omega) (by omega)
theorem run_repE {m : Mc} (hm : m.ok) {n : Nat} {w : Nat → Int} (hw : ∀ i, i < n → 0 ≤ w i ∧ w i ≤ m.wind) : repE m (actW m w) n 0 = (0, 0) :=
  repE_all n 0 fun j _ hj => by
    obtain ⟨h1, h2⟩ := acts_good hm hw (i := j) (by omega)
    unfold stepE
    rw [h1, repS_run, h2]; rfl
theorem run_actsE {m : Mc} (hm : m.ok) {n : Nat} (hn : n ≤ 1024) {w : Nat → Int} (hw : ∀ i, i < n → 0 ≤ w i ∧ w i ≤ m.wind) : actsE n (actW m w) = 0 := by
  unfold actsE
  rw [decide_eq_false (by omega), cond_false, firstS_zero]
  intro j _ hj
  obtain ⟨_, ok, hk, hf⟩ := Ac.err_ok (acts_good hm hw (i := j) (by omega)).1
  have o1 := ok.wind
  have o2 := ok.pitch
  have o3 := ok.tor
  have m1 := hm.wind
  have m2 := hm.fea
  have m3 := hm.tor
  show (actW m w j).checkE 100 100 100 = 0
  unfold Ac.checkE
  rw [orL_zero]
  simp only [List.mem_cons, List.not_mem_nil, or_false, forall_eq_or_imp, forall_eq, withinS_zero]
  rw [decide_eq_true hk, hf]
  exact ⟨rfl, ⟨o1.1, by omega⟩, ⟨o2.1, by omega⟩, ⟨o3.1, by omega⟩, ok.stuck, rfl⟩
theorem run_first (m : Mc) (w : Nat → Int) : actW m w 0 = plainA sStart := by
  show (beginS m).proposeW m (w 0) = _
  have q : eqS (beginS m).mode sIdle = true := eq_self _
  unfold Sta.proposeW
  rw [q, cond_true, start_rule q]
  have : (beginS m).ruleN m (plainA sStart) 3 = false := by
    show (inK sStart sStart ByteArray.empty && (beginS m).rule4 m) = false
    have : (beginS m).rule4 m = false := by
      show ((!(m.fea == m.fea && (m.fea == m.fea && (m.fea == m.fea && true)))) || (-1 : Int) != -1) = false
      rw [beq_self_eq_true]; rfl
    rw [this, Bool.and_false]
  rw [this]; rfl
theorem run_speed {m : Mc} (hm : m.ok) {n : Nat} {w : Nat → Int} (hw : ∀ i, i < n → 0 ≤ w i ∧ w i ≤ m.wind) {i : Nat} (hi : i ≤ n) : 0 ≤ (repS m (actW m w) i).speed ∧ (repS m (actW m w) i).speed ≤ m.lim := by
  rw [repS_run]
  have hv := (run_great hm hw i hi).good.inv
  exact ⟨hv.rng.speed.1, hv.lim⟩
noncomputable def sumL (A : Nat → Ac) (V : Nat → Int) : Nat → Int
  | 0 => 0
  | k + 1 => bif eqS (A k).kind sTick then w64 (sumL A V k + w64 ((A k).tor * V k)) else sumL A V k
theorem tick_tor {s : Sta} {m : Mc} {a : Ac} (h : eqS a.kind sTick = true) : (s.behindW m a).tor = a.tor := by
  unfold Sta.behindW
  rw [kinds_ne h (by decide : sTick ≠ sStart), h]
  rfl
theorem eng_sum (m : Mc) (l : Nat → Ac) : ∀ n, engS m l n = sumL l (fun i => (repS m l (i + 1)).speed) n
  | 0 => rfl
  | n + 1 => by
    unfold engS sumL
    rw [eng_sum m l n]
    cases q : eqS (l n).kind sTick with
    | false => rfl
    | true =>
      rw [cond_true, cond_true]
      have : (repS m l (n + 1)).tor = (l n).tor := tick_tor q
      rw [this]
def stpV (V : Nat → Int) (M : Int) (k : Nat) : Bool := decide (maxW (w64 (V k - V (k - 1))) (w64 (V (k - 1) - V k)) > M)
def rampL (V : Nat → Int) (M : Int) : Nat → Int
  | 0 => -1
  | k + 1 => bif decide (0 < k) && (decide (rampL V M k < 0) && stpV V M k) then (k : Int) else rampL V M k
theorem stpV_eq {V : Nat → Int} {M : Int} {k : Nat} (h1 : 0 ≤ V k ∧ V k ≤ 1000000) (h2 : 0 ≤ V (k - 1) ∧ V (k - 1) ≤ 1000000) : steepB V M k = stpV V M k := by
  unfold steepB stpV
  have e1 : w64 (V k - V (k - 1)) = V k - V (k - 1) := by rw [w64, wrap_in] <;> omega
  have e2 : w64 (V (k - 1) - V k) = V (k - 1) - V k := by rw [w64, wrap_in] <;> omega
  have e3 : w64 (0 - w64 (V k - V (k - 1))) = V (k - 1) - V k := by rw [e1, w64, wrap_in] <;> omega
  rw [e1, e2, ← e1, e3, e1]
theorem rampN_snoc (V : Nat → Int) (M : Int) : ∀ (k i : Nat), rampN V M (k + 1) i = bif decide (rampN V M k i < 0) && steepB V M (i + k) then ((i + k : Nat) : Int) else rampN V M k i
  | 0, i => by
    show (bif steepB V M i then (i : Int) else -1) = _
    rw [show decide (rampN V M 0 i < 0) = true from rfl, Bool.true_and]; rfl
  | k + 1, i => by
    show (bif steepB V M i then (i : Int) else rampN V M (k + 1) (i + 1)) = bif decide ((bif steepB V M i then (i : Int) else rampN V M k (i + 1)) < 0) && _ then _ else (bif steepB V M i then (i : Int) else rampN V M k (i + 1))
    cases steepB V M i with
    | true =>
      rw [cond_true, cond_true, decide_eq_false (by omega)]; rfl
    | false =>
      rw [cond_false, cond_false, rampN_snoc V M k (i + 1), show i + 1 + k = i + (k + 1) by omega]
theorem ramp_eq {V : Nat → Int} {M : Int} : ∀ n, (∀ i, i < n → 0 ≤ V i ∧ V i ≤ 1000000) → rampN V M (n - 1) 1 = rampL V M n
  | 0, _ => rfl
  | 1, _ => rfl
  | n + 2, h => by
    have ih := ramp_eq (M := M) (n + 1) fun i hi => h i (by omega)
    rw [show n + 1 - 1 = n by omega] at ih
    show rampN V M (n + 1) 1 = bif decide (0 < n + 1) && (decide (rampL V M (n + 1) < 0) && stpV V M (n + 1)) then _ else rampL V M (n + 1)
    rw [rampN_snoc, ih, show 1 + n = n + 1 by omega, stpV_eq (h (n + 1) (by omega)) (h (n + 1 - 1) (by omega)), decide_eq_true (by omega : 0 < n + 1), Bool.true_and]
theorem ramp_fine {n : Nat} (hn : n ≤ 1024) {V : Nat → Int} {M : Int} (h : ∀ i, i < n → 0 ≤ V i ∧ V i ≤ 1000000) (hM : 0 ≤ M ∧ M ≤ 255) : rampE n V M = 0 := by
  unfold rampE
  rw [decide_eq_false (by omega), cond_false, firstS_zero]
  intro j _ hj
  unfold rampF
  split
  · rename_i hjn; have := h j hjn; exact withinS_zero.2 ⟨this.1, by omega⟩
  · exact withinS_zero.2 ⟨hM.1, by omega⟩
end Go.Proofs.YtkdlegfakefjgaaGreatDoor.Ix

namespace Go.Proofs.YtkdlegfakefjgaaGreatDoor.Ix
open Go.Proofs
set_option maxRecDepth 100000
set_option linter.unusedVariables false
set_option linter.unusedSimpArgs false
variable {gl : Nat → IV}
end Go.Proofs.YtkdlegfakefjgaaGreatDoor.Ix
