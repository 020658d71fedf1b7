/- YtkdlegfakefjgaaGreatDoorM9 -/
import Derived.Test.YtkdlegfakefjgaaGreatDoorM8
import Derived.Test.YtkdlegfakefjgaaGreatDoorRows
import Derived.Test.YtkdlegfakefjgaaGreatDoorTie
import Derived.Test.YtkdlegfakefjgaaGreatDoorCards
import Derived.ProofKit
import Derived.OpenShut
import Derived.LaidMore
import Derived.Lay
import Derived.Stop.Joined
import Derived.SevenTiedAt
import Derived.Lib.Split
import Derived.Lib.SplitLaws
import Derived.Lib.OthersKept
namespace Go.Proofs.YtkdlegfakefjgaaGreatDoor
open Go Go.ChangeShapes Go.WideShapes Go.ChangeAt Go.RowKit Go.Proofs.YtkdlegfakefjgaaGreatDoor.Ix
set_option linter.unusedVariables false
theorem own : ownKnob Tryz.prog.godebug = none := by kernel_rfl
theorem laidOut : laidOutB Tryz.prog = true := by kernel_rfl
theorem gKinds : Tryz.prog.globalNamed "nacelle/control.kinds" = some 0 := by kernel_rfl
theorem tKinds : (Tryz.prog.globals[0]?).map (·.type) = some 155 := by kernel_rfl
noncomputable abbrev laid4 : List (String × DataW Unit) := [("math/bits.deBruijn32tab", Rows.laid_math_bits_deBruijn32tab), ("math/bits.deBruijn64tab", Rows.laid_math_bits_deBruijn64tab), ("internal/strconv.uint64pow10", Rows.laid_internal_strconv_uint64pow10), ("unicode/utf8.acceptRanges", Rows.laid_unicode_utf8_acceptRanges), ("nacelle/control.kinds", Rows.laid_nacelle_control_kinds), ("unicode/utf8.first", Rows.laid_unicode_utf8_first)]
theorem plain4 : (laid4.all fun x => x.2.handleName?.isNone) = true := by kernel_rfl
abbrev kindsShp : Shp := .agg (List.replicate 6 (1, .str))
abbrev powShp : Shp := .agg (List.replicate 20 (1, .int .u64))
theorem shapeKinds : shpB Tryz.prog kindsShp 155 = true := by kernel_rfl
theorem door_met (os : Os) (args : Array Value) : laidMetH Tryz.prog laid4 ((World.laidAll Tryz.prog os laid4).forCall (fun _ _ => 0) ⟨#[], args, []⟩).memory := by
  rw [MakeChecks.laidMetH_plain _ _ _ (by kernel_rfl)]; exact laidMet_laidAll _ (by kernel_rfl) (by kernel_rfl)
noncomputable def gl4 : Nat → IV := fun g => match g with
  | 0 => kindsI
  | 1 => powI
  | _ => .dead
abbrev kindsV : List Value := [.string sBrake, .string sRepair, .string sRest, .string sStart, .string sStop, .string sTick]
theorem kinds_in {W : World} (h : laidMetH Tryz.prog laid4 W) : (∀ j, W.cell? ⟨0, j, none⟩ = kindsV[j]?) ∧ ∃ arr el m, W.heap[0]? = some (.cells arr el m) ∧ arr.size = kindsV.length :=
  laid_tab h plain4 (d := Rows.laid_nacelle_control_kinds) (by simp) gKinds tKinds shapeKinds rfl rfl
theorem tPow : (Tryz.prog.globals[1]?).map (·.type) = some 233 := by kernel_rfl
theorem shapePow : shpB Tryz.prog powShp 233 = true := by kernel_rfl
noncomputable abbrev powV : List Value := Go.Lib.pow10Tab.map fun z => .int .u64 z
theorem pow_in {W : World} (h : laidMetH Tryz.prog laid4 W) : (∀ j, W.cell? ⟨1, j, none⟩ = powV[j]?) ∧ ∃ arr el m, W.heap[1]? = some (.cells arr el m) ∧ arr.size = powV.length :=
  laid_tab h plain4 (d := Rows.laid_internal_strconv_uint64pow10) (by simp) gPow tPow shapePow (by decide) (by kernel_rfl)
theorem glo4 {W : World} (h : laidMetH Tryz.prog laid4 W) : ∀ g, D (fun a => W.cell? a) (gl4 g) (.pointer (some ⟨g, 0, none⟩)) := by
  intro g
  match g with
  | 0 =>
    refine D_tabG [.str sBrake, .str sRepair, .str sRest, .str sStart, .str sStop, .str sTick] kindsV rfl (fun j v hv => by rw [(kinds_in h).1]; exact hv) fun j x hx => ?_
    match j, hx with
    | 0, hx | 1, hx | 2, hx | 3, hx | 4, hx | 5, hx => cases hx; exact ⟨_, rfl, rfl, .str _⟩
    | _ + 6, hx => cases hx
  | 1 =>
    have := D_tab (I := fun a => W.cell? a) (g := 1) (Go.Lib.pow10Tab.map fun z => IV.int .u64 z) powV (by simp) (fun j v hv => by rw [(pow_in h).1]; exact hv) fun j x hx => by
      rw [List.getElem?_map, Option.map_eq_some_iff] at hx
      obtain ⟨z, hz, rfl⟩ := hx
      exact ⟨_, _, rfl, by rw [List.getElem?_map, hz]; rfl⟩
    rw [List.length_map] at this
    exact this
  | _ + 2 => exact .dead _
theorem gsz4 {W : World} (h : laidMetH Tryz.prog laid4 W) : Gsz gl4 W := by
  intro g e n f i j hg hn he
  match g, hg with
  | 0, hg =>
    have hg : kindsI = .vptr e n f i j := hg
    injection hg with h1 h2
    subst h1; subst h2
    obtain ⟨arr, el, m, k1, k2⟩ := (kinds_in h).2
    exact ⟨arr, el, m, k1, by rw [k2]; rfl⟩
  | 1, hg =>
    have hg : powI = .vptr e n f i j := hg
    injection hg with h1 h2
    subst h1; subst h2
    obtain ⟨arr, el, m, k1, k2⟩ := (pow_in h).2
    exact ⟨arr, el, m, k1, by rw [k2]; simp⟩
  | _ + 2, hg => cases hg
end Go.Proofs.YtkdlegfakefjgaaGreatDoor

namespace Go.Proofs.YtkdlegfakefjgaaGreatDoor.Ix
set_option linter.unusedVariables false
theorem comp_of_row {P : Program} {gl : Nat → IV} {g : Nat} {up : List Ces} {args : List IV} {fn : Func} {c : Code} (hf : P.funcs[g]? = some fn) (hb : fn.body = some c) (hn : (fn.name == "runtime.NumGoroutine") = false) (vs : List ByteArray)
    (h : ∀ (vals : Array Value) (w : World) (I : Imm) (X : Nat → Prop) (β : Beta) (σ : Nat → Sig), MemR gl up w I X β σ → args.length = vals.size →
      (∀ (j : Nat) x, args[j]? = some x → V I (under β) noSig x (vals.getD j undef)) → Calls P g vals w fun e w' => ∃ el, e = .returned (.slice (some ⟨w.heap.size, 0, none⟩) vs.length vs.length) ∧ w' = w.alloc (.cells (vs.map Value.string).toArray el)) :
    Comp P gl g up args (.lst none 1 vs.length fun i => [.str (vs.getD i ByteArray.empty)]) up := by
  refine ⟨⟨fn, c, hf, hb, hn⟩, fun vals w I X β σ m hl ha => (h vals w I X β σ m hl ha).mono ?_⟩
  rintro e w' ⟨el, rfl, rfl⟩
  let B := w.heap.size
  have hnew : (w.alloc (.cells (vs.map Value.string).toArray el)).heap[B]? = some (.cells (vs.map Value.string).toArray el (0, 0)) := World.alloc_heap_new w _
  have hIlt : ∀ x v, I x = some v → x.block < B := fun x v hx => World.block_lt_of_cell? w _ (m.im x v hx)
  let I2 : Imm := fun x => if x.block = B then (if x.spot = none then (vs[x.off]?).map Value.string else none) else I x
  have hI : ∀ x v, I x = some v → I2 x = some v := fun x v hx => by
    have := hIlt x v hx
    show (if _ then _ else _) = _
    rw [if_neg (by omega)]; exact hx
  have hX : ∀ b, X b → b < B := m.xb
  let Γ0 : Env := ⟨P, fun _ => Ty.none, gl, 0, fun _ _ _ _ => False, none, none, []⟩
  have m1 : MemR gl up (w.alloc (.cells (vs.map Value.string).toArray el)) I X β σ := MemR.alloc (Γ := Γ0) m _
  have hcell : ∀ (j : Nat), (w.alloc (.cells (vs.map Value.string).toArray el)).cell? ⟨B, j, none⟩ = (vs[j]?).map Value.string := fun j => by
    simp [World.cell?, hnew]
  refine ⟨_, I2, noSig, rfl, .data ?_, ⟨fun t g h => (by cases h), fun t t' g g' h => (by cases h)⟩, ⟨fun l d c hc => ?_, m1.inj, m1.keys, fun x v hx => ?_, fun g => (m1.glo g).mono hI, m1.xb, m1.gz⟩, ?_⟩
  · have hd := D.lst (I := I2) 1 vs.length (fun i => [.str (vs.getD i ByteArray.empty)]) B 0 vs.length (fun i _ => .string (vs.getD i ByteArray.empty)) (Nat.le_refl _) (fun i _ => rfl) (fun i j hi hj => by
      have : j = 0 := by omega
      subst this
      show (if _ then _ else _) = _
      rw [if_pos rfl]
      show (if _ then _ else _) = _
      rw [if_pos rfl]
      have e : 0 + i * 1 + 0 = i := by omega
      show (vs[0 + i * 1 + 0]?).map Value.string = _
      rw [e]
      simp [hi]) (fun i j _ _ => rfl) (fun i j x hi hx => by
      cases j with
      | zero => simp at hx; subst hx; exact .str _
      | succ j => simp at hx)
    exact hd
  · obtain ⟨b, arr, el', h1, h2, h3, h4, h5, h6, h7⟩ := m1.cell l d c hc
    have hlt : b < B := by
      obtain ⟨b', arr', el2, k1, k2, _⟩ := m.cell l d c hc
      rw [h1] at k1; cases k1
      exact heap_lt k2
    refine ⟨b, arr, el', h1, h2, h3, h4, fun j x hx => (h5 j x hx).mono hI (fun _ _ _ h => h) (fun _ _ h => h), fun j => ?_, h7⟩
    show (if _ then _ else _) = _
    rw [if_neg (by show ¬ b = B; omega)]
    exact h6 j
  · have hx2 : (if x.block = B then (if x.spot = none then (vs[x.off]?).map Value.string else none) else I x) = some v := hx
    clear hx
    split at hx2
    · rename_i hb'
      split at hx2
      · rename_i hs
        obtain ⟨b, off, sp⟩ := x
        simp only at hb' hs hx2
        subst hb'
        subst hs
        rw [hcell]; exact hx2
      · cases hx2
    · exact m1.im x v hx2
  · have he := Ext.alloc I X w (.cells (vs.map Value.string).toArray el) m.xb
    refine ⟨he.os, he.tape, he.output, he.size, he.keep, hI, fun x hx => ?_, he.fix⟩
    show (if _ then _ else _) = _
    rw [if_neg (by have := hX _ hx; omega)]
end Go.Proofs.YtkdlegfakefjgaaGreatDoor.Ix

namespace Go.Proofs.YtkdlegfakefjgaaGreatDoor.Ix
set_option linter.unusedVariables false
open Go.Lib
def splitL (c : UInt8) : List UInt8 → List (List UInt8)
  | [] => [[]]
  | b :: l => if b = c then [] :: splitL c l else match splitL c l with
    | [] => [[b]]
    | p :: r => (b :: p) :: r
theorem splitL_ne (c : UInt8) : ∀ l, splitL c l ≠ []
  | [] => nofun
  | b :: l => by
    unfold splitL
    split
    · nofun
    · split <;> nofun
theorem splitL_none {c : UInt8} : ∀ {l : List UInt8}, c ∉ l → splitL c l = [l]
  | [], _ => rfl
  | b :: l, h => by
    unfold splitL
    rw [if_neg (fun e => h (by simp [e])), splitL_none (fun hh => h (by simp [hh]))]
theorem splitL_hit {c : UInt8} : ∀ {l : List UInt8} {i : Nat}, l[i]? = some c → (∀ j, j < i → l[j]? ≠ some c) → splitL c l = l.take i :: splitL c (l.drop (i + 1))
  | [], i, h, _ => by simp at h
  | b :: l, 0, h, _ => by
    have hb : b = c := by simpa using h
    have e : splitL c (b :: l) = [] :: splitL c l := by
      show (if b = c then _ else _) = _
      rw [if_pos hb]
    rw [e]; rfl
  | b :: l, i + 1, h, hn => by
    have hb : b ≠ c := fun e => hn 0 (by omega) (by simp [e])
    have ih := splitL_hit (l := l) (i := i) (by simpa using h) (fun j hj hh => hn (j + 1) (by omega) (by simpa using hh))
    have e : splitL c (b :: l) = match splitL c l with
      | [] => [[b]]
      | p :: r => (b :: p) :: r := by
      show (if b = c then _ else _) = _
      rw [if_neg hb]
    rw [e, ih]
    rfl
theorem splitK_eq (c : UInt8) : ∀ (k : Nat) (l : List UInt8), l.count c = k → splitK [c] 0 k l = splitL c l
  | 0, l, h => by
    rw [splitL_none (fun hm => by have := List.count_pos_iff.2 hm; omega)]
    rfl
  | k + 1, l, h => by
    have hm : c ∈ l := List.count_pos_iff.1 (by omega)
    unfold splitK
    have hi := index_one l c
    cases hix : indexByte l c with
    | negSucc q =>
      have hge := indexByte_ge l c
      have e : indexByte l c = -1 := by rw [hix] at hge ⊢; omega
      have := indexByte_none e
      obtain ⟨j, hj⟩ := List.mem_iff_getElem?.1 hm
      exact absurd hj (this j)
    | ofNat i =>
      have hix' : indexByte l c = ((i : Nat) : Int) := hix
      obtain ⟨h1, h2⟩ := indexByte_some hix'
      rw [if_neg (by rw [hi, hix']; simp), hi, hix']
      rw [splitL_hit h1 h2]
      have hlt := (List.getElem?_eq_some_iff.1 h1).1
      have hc : (l.drop (i + 1)).count c = k := by
        have e : l = l.take i ++ c :: l.drop (i + 1) := by
          have h3 : l.drop i = c :: l.drop (i + 1) := by
            rw [List.drop_eq_getElem_cons hlt]
            congr 1
            exact (List.getElem?_eq_some_iff.1 h1).2
          rw [← h3, List.take_append_drop]
        have h4 : (l.take i).count c = 0 := by
          rw [List.count_eq_zero]
          intro hm
          obtain ⟨j, hj⟩ := List.mem_iff_getElem?.1 hm
          rw [List.getElem?_take] at hj
          split at hj
          · rename_i hji; exact h2 j hji hj
          · cases hj
        have h5 : l.count c = ((l.take i).count c + ((l.drop (i + 1)).count c + 1)) := by
          conv => lhs; rw [e]
          rw [List.count_append, List.count_cons_self]
        omega
      simp only [Int.toNat_natCast, Nat.add_zero, List.length_cons, List.length_nil, Nat.zero_add]
      rw [splitK_eq c k _ hc]
theorem splitB_eq (c : UInt8) (s : ByteArray) : (splitB ⟨#[c]⟩ 0 (countB s ⟨#[c]⟩) s) = (splitL c s.data.toList).map bytesS := by
  have h := splitB_data ⟨#[c]⟩ 0 (countB s ⟨#[c]⟩) s
  have hc : countB s ⟨#[c]⟩ = s.data.toList.count c := count_one c _
  rw [hc] at h ⊢
  rw [show (ByteArray.mk #[c]).data.toList = [c] from rfl, splitK_eq c _ _ rfl] at h
  rw [← h, List.map_map]
  conv => lhs; rw [← List.map_id (splitB _ _ _ _)]
  exact List.map_congr_left fun x _ => (bytesS_mk x).symm
theorem splitL_len (c : UInt8) : ∀ l : List UInt8, (splitL c l).length = l.count c + 1
  | [] => rfl
  | b :: l => by
    have ih := splitL_len c l
    unfold splitL
    split
    · rename_i e; subst e; simp [ih]
    · rename_i hb
      rw [List.count_cons_of_ne (fun e => hb e)]
      cases h : splitL c l with
      | nil => exact absurd h (splitL_ne c l)
      | cons p r => rw [h] at ih; simpa using ih
theorem splitL_mem {c : UInt8} : ∀ {l p : List UInt8}, p ∈ splitL c l → p.length ≤ l.length ∧ c ∉ p
  | [], p, h => by
    have : p = [] := by simpa [splitL] using h
    subst this; simp
  | b :: l, p, h => by
    unfold splitL at h
    split at h
    · rcases List.mem_cons.1 h with rfl | h
      · simp
      · have := splitL_mem h; exact ⟨by simp; omega, this.2⟩
    · rename_i hb
      split at h
      · rename_i e; exact absurd e (splitL_ne c l)
      · rename_i q r e
        rcases List.mem_cons.1 h with rfl | h
        · have := splitL_mem (c := c) (l := l) (p := q) (by rw [e]; simp)
          refine ⟨by simp; omega, fun hm => ?_⟩
          rcases List.mem_cons.1 hm with rfl | hm
          · exact hb rfl
          · exact this.2 hm
        · have := splitL_mem (c := c) (l := l) (p := p) (by rw [e]; simp [h])
          exact ⟨by simp; omega, this.2⟩
theorem splitL_le (c : UInt8) (l : List UInt8) (i : Nat) : ((splitL c l).getD i []).length ≤ l.length := by
  rw [List.getD_eq_getElem?_getD]
  cases h : (splitL c l)[i]? with
  | none => simp
  | some p => exact (splitL_mem (List.mem_of_getElem? h)).1
theorem splitL_no (c : UInt8) (l : List UInt8) (i : Nat) : c ∉ (splitL c l).getD i [] := by
  rw [List.getD_eq_getElem?_getD]
  cases h : (splitL c l)[i]? with
  | none => simp
  | some p => exact (splitL_mem (List.mem_of_getElem? h)).2
end Go.Proofs.YtkdlegfakefjgaaGreatDoor.Ix

namespace Go.Proofs.YtkdlegfakefjgaaGreatDoor.Ix
set_option linter.unusedVariables false
def dig (b : UInt8) : Bool := decide (48 ≤ b.toNat) && decide (b.toNat ≤ 57)
def valL (l : List UInt8) : Nat := l.foldl (fun n b => 10 * n + (b.toNat - 48)) 0
def intR (l : List UInt8) : Int × Bool := bif l.all dig && decide (l.length ≤ 9) then (((valL l : Nat) : Int), !l.isEmpty && (l.length == 1 || !(l.headD 0 == 48))) else (0, false)
theorem dig_iff {b : UInt8} : dig b = true ↔ 48 ≤ b.toNat ∧ b.toNat ≤ 57 := by simp [dig]
theorem valL_snoc (l : List UInt8) (b : UInt8) : valL (l ++ [b]) = 10 * valL l + (b.toNat - 48) := by simp [valL]
theorem valL_take {l : List UInt8} {p : Nat} {b : UInt8} (h : l[p]? = some b) : valL (l.take (p + 1)) = 10 * valL (l.take p) + (b.toNat - 48) := by
  rw [List.take_add_one, h]
  exact valL_snoc _ _
theorem valL_lt : ∀ (k : Nat) (l : List UInt8), l.length ≤ k → (∀ b ∈ l, dig b = true) → valL l < 10 ^ k := by
  intro k
  induction k with
  | zero => intro l h _; have : l = [] := List.length_eq_zero_iff.1 (by omega); subst this; decide
  | succ k ih =>
    intro l h hd
    rcases List.eq_nil_or_concat l with rfl | ⟨r, b, rfl⟩
    · exact Nat.pos_of_ne_zero (by simp)
    · rw [List.concat_eq_append] at h hd ⊢
      rw [valL_snoc]
      have h1 := ih r (by simp at h; omega) (fun x hx => hd x (by simp [hx]))
      have h2 := dig_iff.1 (hd b (by simp))
      rw [Nat.pow_succ]; omega
theorem intR_bad {l : List UInt8} (h : (l.all dig && decide (l.length ≤ 9)) = false) : intR l = (0, false) := by unfold intR; rw [h]; rfl
theorem intR_ok {l : List UInt8} (h1 : ∀ b ∈ l, dig b = true) (h2 : l.length ≤ 9) : intR l = (((valL l : Nat) : Int), !l.isEmpty && (l.length == 1 || !(l.headD 0 == 48))) := by
  unfold intR
  rw [show (l.all dig && decide (l.length ≤ 9)) = true by rw [List.all_eq_true.2 h1, decide_eq_true h2]; rfl]
  rfl
end Go.Proofs.YtkdlegfakefjgaaGreatDoor.Ix

namespace Go.Proofs.YtkdlegfakefjgaaGreatDoor.Ix
open Go.Proofs
set_option maxRecDepth 100000
set_option linter.unusedVariables false
set_option linter.unusedSimpArgs false
variable {gl : Nat → IV}
theorem c_IndexByte (up : List Ces) (s : ByteArray) (c : Int) : Cs gl n_strings_IndexByte up [.str s, .int .u8 c] (.int .i64 (Go.Lib.indexByte s.data.toList c.toNat.toUInt8)) up := by
  refine comp_of_below h_strings_IndexByte rfl rfl fun vals w I X β σ m hl ha => ?_
  obtain ⟨v, u, rfl⟩ := two_args hl
  have hv : v = .string s := noSig_str (ha 0 _ rfl)
  have hu : u = .int .u8 c := noSig_int (ha 1 _ rfl)
  subst hv; subst hu
  refine (Any.strings_IndexByte laysIndexByte s c w).mono ?_
  rintro e w' ⟨rfl, rfl⟩
  exact ⟨_, rfl, .int _ _, Go.RowKit.Below.refl _ _⟩
theorem four_args {vals : Array Value} (h : 4 = vals.size) : ∃ v u x y, vals = #[v, u, x, y] := by
  rcases vals with ⟨l⟩
  match l, h with
  | [v, u, x, y], _ => exact ⟨v, u, x, y, rfl⟩
theorem c_genSplit (up : List Ces) (s : ByteArray) (c : UInt8) (hs : s.size < 4294967281) :
    Cs gl n_strings_genSplit up [.str s, .str ⟨#[c]⟩, .int .i64 0, .int .i64 (-1)] (.lst none 1 (splitL c s.data.toList).length fun i => [.str (bytesS ((splitL c s.data.toList).getD i []))]) up := by
  have e : (IV.lst none 1 (splitL c s.data.toList).length fun i => [.str (bytesS ((splitL c s.data.toList).getD i []))]) = .lst none 1 ((splitL c s.data.toList).map bytesS).length fun i => [.str (((splitL c s.data.toList).map bytesS).getD i ByteArray.empty)] := by
    rw [List.length_map]
    congr 1
    funext i
    have : ((splitL c s.data.toList).map bytesS).getD i ByteArray.empty = bytesS ((splitL c s.data.toList).getD i []) := by
      rw [List.getD_eq_getElem?_getD, List.getD_eq_getElem?_getD, List.getElem?_map]
      cases (splitL c s.data.toList)[i]? <;> rfl
    rw [this]
  rw [e]
  refine comp_of_row h_strings_genSplit rfl rfl _ fun vals w I X β σ m hl ha => ?_
  obtain ⟨v0, v1, v2, v3, rfl⟩ := four_args hl
  have h0 : v0 = .string s := noSig_str (ha 0 _ rfl)
  have h1 : v1 = .string ⟨#[c]⟩ := noSig_str (ha 1 _ rfl)
  have h2 : v2 = .int .i64 0 := noSig_int (ha 2 _ rfl)
  have h3 : v3 = .int .i64 (-1) := noSig_int (ha 3 _ rfl)
  subst h0; subst h1; subst h2; subst h3
  have h1c : 1 ≤ (ByteArray.mk #[c]).size := Nat.le_refl 1
  have hle := Go.Lib.countB_le ⟨#[c]⟩ h1c s.size s (Nat.le_refl _)
  have hall := Go.Lib.splitB_all ⟨#[c]⟩ h1c 0 _ s rfl
  refine (Any.strings_genSplit_core laysGenSplit (by kernel_rfl) s ⟨#[c]⟩ 0 (-1) (Go.Lib.countB s ⟨#[c]⟩ + 1) w hs h1c (Nat.zero_le _) (fun x cc hx => ?_) ?_ (by decide) (by decide) (by rw [if_pos (by decide)]; omega)).mono ?_
  · refine (Any.strings_Index_one { laysGenSplit with } x c _).mono fun e w' ⟨he, hw⟩ => ⟨?_, hw⟩
    rw [he]
    show _ = Ending.returned (Value.int .i64 (Go.Lib.index x.data.toList [c]))
    rw [Go.Lib.index_one]
  · refine (Any.strings_Count_one { laysGenSplit with } s c w).mono fun e w' ⟨he, hw⟩ => ⟨?_, hw⟩
    rw [he]
    show _ = Ending.returned (Value.int .i64 ((Go.Lib.count s.data.toList [c] : Nat) : Int))
    rw [Go.Lib.count_one]
    rfl
  rintro e w' ⟨rfl, rfl⟩
  rw [Nat.add_sub_cancel]
  have hcells : Go.Lib.cellsOf (Go.Lib.splitB ⟨#[c]⟩ 0 (Go.Lib.countB s ⟨#[c]⟩) s) (Go.Lib.countB s ⟨#[c]⟩ + 1) = ((Go.Lib.splitB ⟨#[c]⟩ 0 (Go.Lib.countB s ⟨#[c]⟩) s).map Value.string).toArray := by rw [← hall]; exact Go.Lib.cellsOf_full _
  rw [hcells, ← hall, splitB_eq]
  exact ⟨_, rfl, rfl⟩
theorem c_Split (up : List Ces) (s : ByteArray) (c : UInt8) (hs : s.size < 4294967281) :
    Cs gl n_strings_Split up [.str s, .str ⟨#[c]⟩] (.lst none 1 (splitL c s.data.toList).length fun i => [.str (bytesS ((splitL c s.data.toList).getD i []))]) up := by
  refine mk h_strings_Split rfl rfl ?_
  have h := fun up => c_genSplit (gl := gl) up s c hs
  conv => whnf
  repeat first
    | (refine DRAW.seek ?_; repeat (first | refine TRYD.take ?_ | refine TRYD.next ?_); conv => whnf)
    | (refine HOLD.mk (by first | exact trivial | exact ⟨⟨rfl, rfl⟩, trivial⟩ | exact ⟨⟨rfl, rfl⟩, ⟨rfl, rfl⟩, trivial⟩) ?_; (conv => whnf))
    | (refine CALL0.by (h ..) rfl ?_; conv => whnf)
    | (refine CALLQ.mk _ _ _ (leL_refl _) (h ..) rfl ?_; conv => whnf)
  exact ⟨rfl, rfl⟩
theorem c_HasSuffix (up : List Ces) (l : List UInt8) (c : UInt8) (hl : l.length ≤ 1000000000) :
    Cs gl n_internal_stringslite_HasSuffix up [.str (bytesS l), .str (bytesS [c])] (.bool (l.getLast? == some c)) up := by
  refine mk h_internal_stringslite_HasSuffix rfl rfl ?_
  have hsz : (bytesS l).size = l.length := bytesS_size l
  have hsc : (bytesS [c]).size = 1 := bytesS_size [c]
  obtain ⟨S, hS⟩ : ∃ S, S = bytesS l := ⟨_, rfl⟩
  obtain ⟨C, hC⟩ : ∃ S, S = bytesS [c] := ⟨_, rfl⟩
  rw [← hS] at hsz ⊢
  rw [← hC] at hsc ⊢
  by_cases h0 : l = []
  · have q : decide ((S.size : Int) ≥ C.size) = false := by rw [hsz, hsc, h0]; rfl
    have e : (l.getLast? == some c) = false := by rw [h0]; rfl
    rw [e]
    conv => whnf
    split
    · rename_i h
      exact Bool.noConfusion ((q).symm.trans h)
    rename_i hN
    clear hN
    conv => whnf
    exact ⟨rfl, rfl⟩
  · have hpos : 0 < l.length := List.length_pos_iff.2 h0
    have q : decide ((S.size : Int) ≥ C.size) = true := by rw [hsz, hsc]; exact decide_eq_true (by omega)
    have hw : w64 ((S.size : Int) - C.size) = ((l.length - 1 : Nat) : Int) := by rw [hsz, hsc, w64, wrap_in] <;> omega
    have q1 : decide (0 ≤ w64 ((S.size : Int) - C.size)) = true := by rw [hw]; exact decide_eq_true (by omega)
    have q2 : decide (w64 ((S.size : Int) - C.size) ≤ S.size) = true := by rw [hw, hsz]; exact decide_eq_true (by omega)
    have q3 : decide ((S.size : Int) ≤ S.size) = true := decide_eq_true (Int.le_refl _)
    have hx : (S.extract (w64 ((S.size : Int) - C.size)).toNat (S.size : Int).toNat).toList = l.drop (l.length - 1) := by
      rw [hw, Go.Lib.toList_data, Go.Lib.extract_data, hsz, hS, bytesS_data]
      simp only [Int.toNat_natCast]
      exact List.take_of_length_le (by rw [List.length_drop]; omega)
    have hCl : C.toList = [c] := by rw [Go.Lib.toList_data, hC]
    have hd : l.drop (l.length - 1) = [l.getLast h0] := by
      have e := List.dropLast_concat_getLast h0
      have hl2 : l.length - 1 = l.dropLast.length := by simp
      conv => lhs; rw [← e]
      rw [List.length_append, List.length_singleton, Nat.add_sub_cancel]
      exact List.drop_left
    have e : (l.getLast? == some c) = ((S.extract (w64 ((S.size : Int) - C.size)).toNat (S.size : Int).toNat).toList == C.toList) := by
      rw [hx, hCl, hd, List.getLast?_eq_some_getLast h0]
      by_cases h : l.getLast h0 = c
      · simp [h]
      · have : ¬ (some (l.getLast h0) = some c) := fun e => h (Option.some.inj e)
        simp [h]
    rw [e]
    conv => whnf
    split
    rotate_left
    · rename_i h
      exact Bool.noConfusion ((q).symm.trans h)
    rename_i hN
    clear hN
    conv => whnf
    split
    rotate_left
    · rename_i h
      exact Bool.noConfusion ((q1).symm.trans h)
    rename_i hN
    clear hN
    conv => whnf
    split
    rotate_left
    · rename_i h
      exact Bool.noConfusion ((q2).symm.trans h)
    rename_i hN
    clear hN
    conv => whnf
    split
    rotate_left
    · rename_i h
      exact Bool.noConfusion ((q3).symm.trans h)
    rename_i hN
    clear hN
    conv => whnf
    exact ⟨rfl, rfl⟩
end Go.Proofs.YtkdlegfakefjgaaGreatDoor.Ix

namespace Go.Proofs.YtkdlegfakefjgaaGreatDoor.Ix
open Go.Proofs
set_option maxRecDepth 100000
set_option linter.unusedVariables false
set_option linter.unusedSimpArgs false
variable {gl : Nat → IV}
theorem extract_all0 (l : List UInt8) (k : Nat) : (bytesS l).extract 0 k = bytesS (l.take k) := by
  rw [Go.Lib.extract_eq]
  simp
theorem c_CutSuffix1 (up : List Ces) (l : List UInt8) (c : UInt8) (hl : l.length ≤ 1000000000) :
    Cs gl n_internal_stringslite_CutSuffix up [.str (bytesS l), .str (bytesS [c])] (bif l.getLast? == some c then .tup [.str (bytesS l.dropLast), .bool true] else .tup [.str (bytesS l), .bool false]) up := by
  refine mk h_internal_stringslite_CutSuffix rfl rfl ?_
  have hS := fun up => c_HasSuffix (gl := gl) up l c hl
  cases q : (l.getLast? == some c) with
  | false =>
    rw [q] at hS
    conv => whnf
    repeat first
      | (refine DRAW.seek ?_; repeat (first | refine TRYD.take ?_ | refine TRYD.next ?_); conv => whnf)
      | (refine HOLD.mk (by first | exact trivial | exact ⟨⟨rfl, rfl⟩, trivial⟩ | exact ⟨⟨rfl, rfl⟩, ⟨rfl, rfl⟩, trivial⟩) ?_; (conv => whnf))
      | (refine CALL0.by (hS ..) rfl ?_; conv => whnf)
      | (refine CALLQ.mk _ _ _ (leL_refl _) (hS ..) rfl ?_; conv => whnf)
    exact ⟨rfl, rfl⟩
  | true =>
    rw [q] at hS
    have hne : l ≠ [] := by rintro rfl; cases q
    have hpos : 0 < l.length := List.length_pos_iff.2 hne
    have hsz : (bytesS l).size = l.length := bytesS_size l
    have hsc : (bytesS [c]).size = 1 := bytesS_size [c]
    have hw : w64 (((bytesS l).size : Int) - (bytesS [c]).size) = ((l.length - 1 : Nat) : Int) := by rw [hsz, hsc, w64, wrap_in] <;> omega
    have q1 : decide (0 ≤ w64 (((bytesS l).size : Int) - (bytesS [c]).size)) = true := by rw [hw]; exact decide_eq_true (by omega)
    have q2 : decide (w64 (((bytesS l).size : Int) - (bytesS [c]).size) ≤ (bytesS l).size) = true := by rw [hw, hsz]; exact decide_eq_true (by omega)
    have hx : (bytesS l).extract 0 (w64 (((bytesS l).size : Int) - (bytesS [c]).size)).toNat = bytesS l.dropLast := by
      rw [hw, extract_all0, Int.toNat_natCast, List.dropLast_eq_take]
    conv => whnf
    repeat first
      | (refine DRAW.seek ?_; repeat (first | refine TRYD.take ?_ | refine TRYD.next ?_); conv => whnf)
      | (refine HOLD.mk (by first | exact trivial | exact ⟨⟨rfl, rfl⟩, trivial⟩ | exact ⟨⟨rfl, rfl⟩, ⟨rfl, rfl⟩, trivial⟩) ?_; (conv => whnf))
      | (refine CALL0.by (hS ..) rfl ?_; conv => whnf)
      | (refine CALLQ.mk _ _ _ (leL_refl _) (hS ..) rfl ?_; conv => whnf)
    split
    rotate_left
    · rename_i h
      exact Bool.noConfusion ((q1).symm.trans h)
    rename_i hN
    clear hN
    conv => whnf
    split
    rotate_left
    · rename_i h
      exact Bool.noConfusion ((q2).symm.trans h)
    rename_i hN
    clear hN
    conv => whnf
    exact ⟨congrArg (fun s => IV.tup [.str s, .bool true]) hx, rfl⟩
theorem c_CutSuffix (up : List Ces) (l : List UInt8) (c : UInt8) (hl : l.length ≤ 1000000000) :
    Cs gl n_strings_CutSuffix up [.str (bytesS l), .str (bytesS [c])] (bif l.getLast? == some c then .tup [.str (bytesS l.dropLast), .bool true] else .tup [.str (bytesS l), .bool false]) up := by
  refine mk h_strings_CutSuffix rfl rfl ?_
  have h := fun up => c_CutSuffix1 (gl := gl) up l c hl
  cases q : (l.getLast? == some c) with
  | false =>
    rw [q] at h
    conv => whnf
    repeat first
      | (refine DRAW.seek ?_; repeat (first | refine TRYD.take ?_ | refine TRYD.next ?_); conv => whnf)
      | (refine HOLD.mk (by first | exact trivial | exact ⟨⟨rfl, rfl⟩, trivial⟩ | exact ⟨⟨rfl, rfl⟩, ⟨rfl, rfl⟩, trivial⟩) ?_; (conv => whnf))
      | (refine CALL0.by (h ..) rfl ?_; conv => whnf)
      | (refine CALLQ.mk _ _ _ (leL_refl _) (h ..) rfl ?_; conv => whnf)
    exact ⟨rfl, rfl⟩
  | true =>
    rw [q] at h
    conv => whnf
    repeat first
      | (refine DRAW.seek ?_; repeat (first | refine TRYD.take ?_ | refine TRYD.next ?_); conv => whnf)
      | (refine HOLD.mk (by first | exact trivial | exact ⟨⟨rfl, rfl⟩, trivial⟩ | exact ⟨⟨rfl, rfl⟩, ⟨rfl, rfl⟩, trivial⟩) ?_; (conv => whnf))
      | (refine CALL0.by (h ..) rfl ?_; conv => whnf)
      | (refine CALLQ.mk _ _ _ (leL_refl _) (h ..) rfl ?_; conv => whnf)
    exact ⟨rfl, rfl⟩
theorem own_Lines (s : ByteArray) : CompO prog gl n_strings_Lines [.str s] n_strings_Lines_1 [[.str s]] := by
  refine own_of_body (Γ := Γs gl) (C := Cs gl) mixed0 tok0 ⟨fun _ _ _ _ _ h => h, fun _ _ _ _ h => h⟩ ⟨fun _ _ _ _ h => h, fun _ _ _ _ h => h⟩ h_strings_Lines rfl rfl ?_
  conv => whnf
  intro up
  conv => whnf
  exact ⟨rfl, [1], rfl, ⟨⟨_, rfl, rfl, rfl⟩, trivial⟩, rfl⟩
def lineF (P : List (List UInt8)) (k : Nat) : List UInt8 := if k + 1 < P.length then P.getD k [] ++ [10] else P.getD k []
def linesN (P : List (List UInt8)) : Nat := if P.getLastD [] = [] then P.length - 1 else P.length
def LinI (P : List (List UInt8)) (k : Nat) (r : List UInt8) : Prop := (splitL 10 r = P.drop k ∧ k < P.length) ∨ (k = P.length ∧ r = [] ∧ linesN P = k)
theorem drop_last {P : List (List UInt8)} {k : Nat} {r : List UInt8} (h : P.drop k = [r]) : P.length = k + 1 ∧ P.getLastD [] = r ∧ P.getD k [] = r := by
  have hlen : P.length - k = 1 := by rw [← List.length_drop, h]; rfl
  have hk : P[k]? = some r := by
    have : (P.drop k)[0]? = some r := by rw [h]; rfl
    simpa using this
  refine ⟨by omega, ?_, by rw [List.getD_eq_getElem?_getD, hk]; rfl⟩
  have hne : P ≠ [] := by rintro rfl; simp at hlen
  rw [List.getLastD_eq_getLast?, List.getLast?_eq_getElem?, show P.length - 1 = k by omega, hk]; rfl
theorem lin_end {P : List (List UInt8)} {k : Nat} (h : LinI P k []) : linesN P = k := by
  rcases h with ⟨h1, h2⟩ | ⟨_, _, h3⟩
  · obtain ⟨e1, e2, _⟩ := drop_last (show P.drop k = [[]] from h1.symm)
    unfold linesN
    rw [if_pos e2]; omega
  · exact h3
theorem lin_cut {P : List (List UInt8)} {k i : Nat} {r : List UInt8} (h : LinI P k r) (hi : Go.Lib.indexByte r 10 = (i : Int)) : k < linesN P ∧ lineF P k = r.take (i + 1) ∧ LinI P (k + 1) (r.drop (i + 1)) ∧ i < r.length := by
  obtain ⟨h1, h2⟩ := Go.Lib.indexByte_some hi
  have hlt := (List.getElem?_eq_some_iff.1 h1).1
  rcases h with ⟨g1, g2⟩ | ⟨_, rfl, _⟩
  · have hs := splitL_hit h1 h2
    rw [g1] at hs
    have hne := splitL_ne 10 (r.drop (i + 1))
    have hd : P.drop (k + 1) = splitL 10 (r.drop (i + 1)) := by
      rw [← List.drop_drop, hs]; rfl
    have hk : P[k]? = some (r.take i) := by
      have : (P.drop k)[0]? = some (r.take i) := by rw [hs]; rfl
      simpa using this
    have hk1 : k + 1 < P.length := by
      rcases Nat.lt_or_ge (k + 1) P.length with h | h
      · exact h
      · rw [List.drop_eq_nil_of_le h] at hd; exact absurd hd.symm hne
    refine ⟨?_, ?_, .inl ⟨hd.symm, hk1⟩, hlt⟩
    · unfold linesN; split <;> omega
    · unfold lineF
      rw [if_pos hk1, List.getD_eq_getElem?_getD, hk, List.take_add_one, h1]
      rfl
  · simp at hlt
theorem lin_rest {P : List (List UInt8)} {k : Nat} {r : List UInt8} (h : LinI P k r) (hr : r ≠ []) (hi : Go.Lib.indexByte r 10 = -1) : k < linesN P ∧ lineF P k = r ∧ LinI P (k + 1) [] := by
  have hn : (10 : UInt8) ∉ r := fun hm => by
    obtain ⟨j, hj⟩ := List.mem_iff_getElem?.1 hm
    exact Go.Lib.indexByte_none hi j hj
  rcases h with ⟨g1, g2⟩ | ⟨_, e, _⟩
  · rw [splitL_none hn] at g1
    obtain ⟨e1, e2, e3⟩ := drop_last g1.symm
    have hN : linesN P = k + 1 := by unfold linesN; rw [if_neg (by rw [e2]; exact hr)]; exact e1
    refine ⟨by omega, ?_, .inr ⟨e1.symm, rfl, hN⟩⟩
    unfold lineF
    rw [if_neg (by omega)]; exact e3
  · exact absurd e hr
theorem extract_rest (l : List UInt8) (k : Nat) : (bytesS l).extract k (bytesS l).size = bytesS (l.drop k) := by
  rw [Go.Lib.extract_eq, bytesS_size]
  simp only [bytesS_data]
  rw [List.take_of_length_le (by rw [List.length_drop]; omega)]
set_option maxHeartbeats 8000000 in
theorem lines_ivis (l : List UInt8) (hl : l.length ≤ 1000000000) :
    ivisO (CsL gl) (Γs gl) f_strings_Lines_1 [1] [[.str (bytesS l)]] (linesN (splitL 10 l)) (fun k => [.str (bytesS (lineF (splitL 10 l) k))]) := by
  obtain ⟨P, hP⟩ : ∃ P, P = splitL 10 l := ⟨_, rfl⟩
  rw [← hP]
  have h0 : LinI P 0 l := .inl ⟨by rw [hP]; rfl, by rw [hP, splitL_len]; omega⟩
  obtain ⟨N, hN⟩ : ∃ N, N = linesN P := ⟨_, rfl⟩
  rw [← hN]
  conv => whnf
  intro l0
  conv => whnf
  refine .mk (α := {x : Nat × List UInt8 // LinI P x.1 x.2 ∧ x.2.length ≤ 1000000000}) (fun x => ⟨[(1, .ptr 0 1 0), (0, .lit (.func (.yield l0) #[] #[]))], [(1, [.str (bytesS x.1.2)])], List.replicate x.1.1 []⟩) (fun x => x.1.2.length) ⟨(0, l), h0, hl⟩ ⟨?_, ?_, rfl, rfl⟩ ?_
  · exact ⟨leV_refl _, leV_refl _, trivial⟩
  · exact ⟨leL_refl _, trivial⟩
  rintro ⟨⟨k, r⟩, hI, hr⟩
  have hI : LinI P k r := hI
  have hr : r.length ≤ 1000000000 := hr
  have hsz : (bytesS r).size = r.length := bytesS_size r
  have hix := fun up => c_IndexByte (gl := gl) up (bytesS r) 10
  by_cases hne : r = []
  · subst hne
    have hk := lin_end hI
    conv => whnf
    show N ≤ (List.replicate k []).length
    rw [List.length_replicate]; omega
  · have hpos : 0 < r.length := List.length_pos_iff.2 hne
    have q0 : decide (((bytesS r).size : Int) > 0) = true := by rw [hsz]; exact decide_eq_true (by omega)
    obtain ⟨I, hIx⟩ : ∃ I, I = Go.Lib.indexByte r 10 := ⟨_, rfl⟩
    have hge := Go.Lib.indexByte_ge r 10
    rw [show Go.Lib.indexByte (bytesS r).data.toList (Int.toNat 10).toUInt8 = I by rw [bytesS_data]; exact hIx.symm] at hix
    obtain ⟨R, hR⟩ : ∃ R, R = bytesS r := ⟨_, rfl⟩
    rw [← hR] at hix hsz q0
    by_cases hneg : I = -1
    · have q1 : decide (I ≥ 0) = false := by rw [hneg]; rfl
      obtain ⟨k1, k2, k3⟩ := lin_rest hI hne (hIx.symm.trans hneg)
      show iwp _ _ _ _ ⟨[(1, .ptr 0 1 0), (0, .lit (.func (.yield l0) #[] #[]))], [(1, [.str (bytesS r)])], List.replicate k []⟩
      rw [← hR]
      conv => whnf
      split
      rotate_left
      · rename_i h
        exact Bool.noConfusion ((q0).symm.trans h)
      rename_i hN
      clear hN
      conv => whnf
      refine .mk _ _ _ _ _ (leL_refl _) ⟨hix _, rfl⟩ rfl ?_
      conv => whnf
      split
      · rename_i h
        exact Bool.noConfusion ((q1).symm.trans h)
      rename_i hN
      clear hN
      conv => whnf
      refine .mk rfl (by simp) (by simpa [← hN] using k1) (by simp [k2, hR]) rfl ?_
      intro bb
      cases bb
      · conv => whnf
        show N ≤ (List.replicate (N + 1) [] ++ List.replicate k []).length
        simp; omega
      · conv => whnf
        exact ⟨⟨(k + 1, []), k3, Nat.zero_le _⟩, ⟨⟨leV_refl _, leV_refl _, trivial⟩, ⟨leL_refl _, trivial⟩, rfl, rfl⟩, hpos⟩
    · obtain ⟨i, hi⟩ : ∃ i : Nat, I = i := ⟨I.toNat, by omega⟩
      have q1 : decide (I ≥ 0) = true := decide_eq_true (by omega)
      obtain ⟨k1, k2, k3, k4⟩ := lin_cut hI (hIx.symm.trans hi)
      have hw : w64 (I + 1) = ((i + 1 : Nat) : Int) := by rw [hi, w64, wrap_in] <;> omega
      have qa : decide (0 ≤ w64 (I + 1)) = true := by rw [hw]; exact decide_eq_true (by omega)
      have qb : decide (w64 (I + 1) ≤ (R.size : Int)) = true := by rw [hw, hsz]; exact decide_eq_true (by omega)
      have qc : decide ((R.size : Int) ≤ R.size) = true := decide_eq_true (Int.le_refl _)
      have e1 : R.extract 0 (w64 (I + 1)).toNat = bytesS (lineF P k) := by rw [hw, Int.toNat_natCast, hR, extract_all0, k2]
      have e2 : R.extract (w64 (I + 1)).toNat (R.size : Int).toNat = bytesS (r.drop (i + 1)) := by rw [hw, Int.toNat_natCast, Int.toNat_natCast, hR, extract_rest]
      show iwp _ _ _ _ ⟨[(1, .ptr 0 1 0), (0, .lit (.func (.yield l0) #[] #[]))], [(1, [.str (bytesS r)])], List.replicate k []⟩
      rw [← hR]
      conv => whnf
      split
      rotate_left
      · rename_i h
        exact Bool.noConfusion ((q0).symm.trans h)
      rename_i hN
      clear hN
      conv => whnf
      refine .mk _ _ _ _ _ (leL_refl _) ⟨hix _, rfl⟩ rfl ?_
      conv => whnf
      split
      rotate_left
      · rename_i h
        exact Bool.noConfusion ((q1).symm.trans h)
      rename_i hN
      clear hN
      conv => whnf
      refine .mk 9 (by kernel_rfl) ?_
      conv => whnf
      split
      rotate_left
      · rename_i h
        exact Bool.noConfusion ((qa).symm.trans h)
      rename_i hN
      clear hN
      conv => whnf
      split
      rotate_left
      · rename_i h
        exact Bool.noConfusion ((qb).symm.trans h)
      rename_i hN
      clear hN
      conv => whnf
      split
      rotate_left
      · rename_i h
        exact Bool.noConfusion ((qa).symm.trans h)
      rename_i hN
      clear hN
      conv => whnf
      split
      rotate_left
      · rename_i h
        exact Bool.noConfusion ((qb).symm.trans h)
      rename_i hN
      clear hN
      conv => whnf
      split
      rotate_left
      · rename_i h
        exact Bool.noConfusion ((qc).symm.trans h)
      rename_i hN
      clear hN
      conv => whnf
      refine .mk rfl (by simp) (by simpa [← hN] using k1) ?_ rfl ?_
      · show [IV.str (R.extract 0 (w64 (I + 1)).toNat)] = [.str (bytesS (lineF P (List.replicate k []).length))]
        rw [e1, List.length_replicate]
      intro bb
      cases bb
      · conv => whnf
        show N ≤ (List.replicate (N + 1) [] ++ List.replicate k []).length
        simp; omega
      · conv => whnf
        refine ⟨⟨(k + 1, r.drop (i + 1)), k3, by rw [List.length_drop]; omega⟩, ⟨⟨leV_refl _, leV_refl _, trivial⟩, ⟨⟨?_, trivial⟩, trivial⟩, rfl, rfl⟩, (by show (r.drop (i + 1)).length < r.length; rw [List.length_drop]; omega)⟩
        show IV.str (R.extract (w64 (I + 1)).toNat (R.size : Int).toNat) = _
        rw [e2]
theorem v_Lines (l : List UInt8) (hl : l.length ≤ 1000000000) : VisO prog gl n_strings_Lines_1 [[.str (bytesS l)]] (linesN (splitL 10 l)) (fun k => [.str (bytesS (lineF (splitL 10 l) k))]) :=
  vis_of_bodyO (Γ := Γs gl) (C := CsL gl) mixed0 tok0 ⟨fun _ _ _ _ _ h => h.1, fun _ _ _ _ h => h⟩ (fun _ _ _ _ _ h => h.2) h_strings_Lines_1 rfl rfl (by kernel_rfl) rfl rfl (lines_ivis l hl)
end Go.Proofs.YtkdlegfakefjgaaGreatDoor.Ix

namespace Go.Proofs.YtkdlegfakefjgaaGreatDoor.Ix
open Go.Proofs
set_option maxRecDepth 100000
set_option linter.unusedVariables false
set_option linter.unusedSimpArgs false
variable {gl : Nat → IV}
noncomputable abbrev Γi (gl : Nat → IV) : Env := ⟨prog, T, gl, 42, Vis prog gl, none, some [], []⟩
theorem heap_below {w w' : World} (h : Go.RowKit.Below w.heap.size w w') {k : Nat} {o : Obj} (hk : w.heap[k]? = some o) : w'.heap[k]? = some o := by
  rw [h.block k (heap_lt hk)]; exact hk
theorem rune_at (s : ByteArray) (p : Nat) (h : p < s.size) : ((dig (s[p]'h) = true ∧ Utf8.decode s p = ((s[p]'h).toNat, 1)) ∨ (dig (s[p]'h) = false ∧ ((Utf8.decode s p).1 < 48 ∨ 57 < (Utf8.decode s p).1))) := by
  by_cases ha : (s[p]'h).toNat < 128
  · have e := Go.decode_ascii s p h ha
    cases hd : dig (s[p]'h) with
    | true => exact .inl ⟨rfl, e⟩
    | false =>
      refine .inr ⟨rfl, ?_⟩
      rw [e]
      have : ¬ (48 ≤ (s[p]'h).toNat ∧ (s[p]'h).toNat ≤ 57) := fun hh => by rw [dig_iff.2 hh] at hd; cases hd
      omega
  · have e := (Go.decode_high s p h (by omega)).1
    refine .inr ⟨?_, .inr (by omega)⟩
    cases hd : dig (s[p]'h) with
    | true => have := dig_iff.1 hd; omega
    | false => rfl
theorem w32i {n : Int} (h : -2147483648 ≤ n) (h2 : n ≤ 2147483647) : IntKind.i32.wrap n = n := by
  unfold IntKind.wrap
  simp [IntKind.bits, IntKind.signed]
  omega
theorem run_range_str {P : Program} {ρ : Operand → Value} {w : World} {s : ByteArray} {x : Operand} {t : Nat} {o : Oper} (hu : P.underlying t = some .string) (ho : o.op = .range t x) (he : ρ x = .string s) :
    (execOp ρ o).run P w = .ok (.value (.pointer (some ⟨w.heap.size, 0, none⟩))) (w.alloc (.stringIter s 0)) := by
  simp [execOp, ho, he, Instr.range, run_underlying hu]
theorem run_next_str {P : Program} {ρ : Operand → Value} {w w' : World} {v u : Value} {x : Operand} {o : Oper} (ho : o.op = .next x true) (he : ρ x = v) (h : (Instr.next v true o.type).run P w = .ok u w') :
    (execOp ρ o).run P w = .ok (.value u) w' := by
  simp [execOp, ho, he, h]
theorem run_extract0 {P : Program} {ρ : Operand → Value} {w : World} {vs : Array Value} {v : Value} {x : Operand} {o : Oper} {i : Nat} (ho : o.op = .extract x i) (he : ρ x = .tuple vs) (hv : vs[i]? = some v) :
    (execOp ρ o).run P w = .ok (.value v) w := by
  simp [execOp, ho, he, Instr.extract, hv]
set_option maxHeartbeats 4000000 in
theorem c_integer (up : List Ces) (l : List UInt8) (hl : l.length ≤ 1000000000) :
    Cs gl n_control_integer up [.str (bytesS l)] (.tup [.int .i64 (intR l).1, .bool (intR l).2]) up := by
  refine comp_of_below h_control_integer rfl rfl fun vals w0 I X β σ m hlen ha => ?_
  obtain ⟨v0, rfl⟩ := one_arg hlen
  have hv0 : v0 = .string (bytesS l) := noSig_str (ha 0 _ rfl)
  subst hv0
  obtain ⟨s, hs⟩ : ∃ s, s = bytesS l := ⟨_, rfl⟩
  have hsz : s.size = l.length := by rw [hs]; exact bytesS_size l
  have hdat : s.data.toList = l := by rw [hs, bytesS_data]
  rw [← hs]
  refine (callsIn_wide (n := 1)).1 (callsIn_of_wp_marks (F := Fw none) h_control_integer rfl trivial ?_)
  have P := fun {c d : Code} {tm : Tms} {K : St → Prop} {R : Exit → Act → World → Prop} (hnr : noRange c = true) (h : iwp (Cs gl) (Γi gl) c (nrm K) ⟨tm, [], []⟩) {a : Act} {w : World} (hb : Go.RowKit.Below w0.heap.size w0 w)
    (htm : ∀ i, V I (fun _ _ => none) noSig (look tm i) (a.tmps.getD i undef)) (hnt : 42 ≤ a.tmps.size) (hd : a.defers = []) hk =>
    piece_seq (n := 1) (d := d) (R := R) (Γ := Γi gl) (C := Cs gl) mixed0 tok0 ⟨⟨fun _ _ _ _ _ h => h, fun _ _ _ _ h => h⟩, rfl⟩ rfl hnr h (m.below hb).im m.glo (m.below hb).gz htm hnt hd hk
  have leave : ∀ (a : Act) (w : World), a.defers = [] → a.tmps.getD 2 undef = .int .i64 (intR l).1 → a.tmps.getD 3 undef = .bool (intR l).2 → Go.RowKit.Below w0.heap.size w0 w →
      LeavesInM (Fw none) 1 prog f_control_integer a.tmps (fun e w' => ∃ v, e = .returned v ∧ D I (.tup [.int .i64 (intR l).1, .bool (intR l).2]) v ∧ Go.RowKit.Below w0.heap.size w0 w') a.defers .returning w := by
    intro a w hd h2 h3 hb
    rw [hd]
    refine ⟨.tuple #[.int .i64 (intR l).1, .bool (intR l).2], ?_, _, rfl, ?_, hb⟩
    · have hr : f_control_integer.results = #[.tmp 2, .tmp 3] := rfl
      rw [results_eq, hr]
      simp [resSem, h2, h3]
    · refine .tup _ _ rfl fun j x hx => ?_
      match j, hx with
      | 0, hx => simp at hx; subst hx; exact .int _ _
      | 1, hx => simp at hx; subst hx; exact .bool _
  refine P (K := fun _ => True) (tm := []) ?_ ?_ (.refl _ _) (fun i => .data (.dead _)) ?_ ?_ ?_
  · rfl
  · conv => whnf
    trivial
  · show 42 ≤ (#[Value.string s] ++ Array.replicate 41 undef).size
    simp
  · rfl
  intro a1 w1 _ b1 d1 z1 f1
  have g0 : (#[Value.string s] ++ Array.replicate (42 - #[Value.string s].size) undef).getD 0 undef = .string s := by simp [Array.getD_eq_getD_getElem?]
  have g1 : a1.tmps.getD 0 undef = .string s := (f1 0 (by rfl)).trans g0
  refine P (K := fun S => look S.tm 4 = .int .i64 0) (tm := []) ?_ ?_ b1 (fun i => .data (.dead _)) z1 d1 ?_
  · rfl
  · conv => whnf
    rfl
  rintro a2 w2 ⟨S', I', β', σ', hS, ht⟩ b2 d2 z2 f2
  have g2 : a2.tmps.getD 0 undef = .string s := (f2 0 (by rfl)).trans g1
  have q4 : a2.tmps.getD 4 undef = .int .i64 0 := by
    have h := ht 4
    rw [hS] at h
    exact h.int_inv
  replace b2 := b1.trans (b2.mono b1.size)
  clear f1 f2 g1 z1 d1 ht hS S' I' β' σ' b1
  refine wpIn_seq (wpIn_seq (wpIn_region ?_))
  refine op_val rfl rfl (fun c e => by cases e) (v := .string s) (w2 := w2) ?_ ?_
  · show Result.ok (Next.value (a2.tmps.getD 0 undef)) w2 = _
    rw [g2]
  have p7 : (a2.put (some 7) (.string s)).tmps.getD 7 undef = .string s := put_same (Nat.lt_of_lt_of_le (show 7 < 42 by decide) z2)
  refine op_val rfl rfl (fun c e => by cases e) (v := .pointer (some ⟨w2.heap.size, 0, none⟩)) (w2 := w2.alloc (.stringIter s 0)) (run_range_str (by kernel_rfl) rfl p7) ?_
  simp only [wpOpsIn]
  have b3 := b2.alloc b2.size (.stringIter s 0)
  have hit : (w2.alloc (.stringIter s 0)).heap[w2.heap.size]? = some (.stringIter s 0) := World.alloc_heap_new _ _
  have hB : w0.heap.size ≤ w2.heap.size := b2.size
  generalize hBB : w2.heap.size = B at hit hB
  generalize w2.alloc (.stringIter s 0) = w3 at b3 hit
  let LI : Nat → Act → World → Prop := fun p a w => Go.RowKit.Below w0.heap.size w0 w ∧ a.defers = [] ∧ 42 ≤ a.tmps.size ∧ a.tmps.getD 0 undef = .string s ∧ a.tmps.getD 8 undef = .pointer (some ⟨B, 0, none⟩) ∧
    a.tmps.getD 4 undef = .int .i64 (valL (l.take p) : Nat) ∧ w.heap[B]? = some (.stringIter s p)
  have hLI : LI 0 ((a2.put (some 7) (.string s)).put (some 8) (.pointer (some ⟨B, 0, none⟩))) w3 := by
    refine ⟨b3, d2, by simp only [put_size]; exact z2, ?_, put_same (by simp only [put_size]; exact Nat.lt_of_lt_of_le (show 8 < 42 by decide) z2), ?_, hit⟩
    · rw [put_other (by decide), put_other (by decide)]; exact g2
    · rw [put_other (by decide), put_other (by decide)]; exact q4
  show Code.wpIn (Fw none) 1 prog _ _ ((a2.put (some 7) (.string s)).put (some 8) (.pointer (some ⟨B, 0, none⟩))) w3
  refine wpIn_block (wpIn_loop_from (α := {p : Nat // p ≤ l.length ∧ (∀ b ∈ l.take p, dig b = true) ∧ (0 < p → l.length ≤ 9)}) (fun p => LI p.1) (fun p => l.length - p.1) ⟨0, Nat.zero_le _, (by simp), (by simp)⟩ hLI ?_)
  clear hLI hit b3 p7 q4 g2 z2 d2 b2
  rintro ⟨p, hp, hdg, hp9⟩ a w ⟨b1, d1, z1, q0, q8, q4, hit⟩
  by_cases hlt : p < l.length
  · have hps : p < s.size := by omega
    have hnx := Go.Lib.run_next_any_at (P := prog) w B s p 0 hit hps
    have hbyte : s[p]'hps = l[p] := by
      have := Go.Lib.data_getElem? s p hps
      rw [hdat, List.getElem?_eq_getElem hlt] at this
      exact (Option.some.inj this).symm
    obtain ⟨r, wd, hdec⟩ : ∃ r wd, Utf8.decode s p = (r, wd) := ⟨_, _, rfl⟩
    have hle := Go.decode_le s p
    have hrune := rune_at s p hps
    rw [hdec] at hnx hrune hle
    rw [hbyte] at hrune
    simp only at hrune hle hnx
    have hi2 := Go.Lib.iterAt_heap w B s p (p + wd) hit
    have b2 := Go.Lib.below_iterAt b1 hB s (p + wd)
    refine wpIn_seq (wpIn_region ?_)
    refine op_val rfl rfl (fun c e => by cases e) (v := .tuple #[.bool true, .int .i64 p, .int .i32 r]) (w2 := w.iterAt B s (p + wd)) (run_next_str rfl q8 hnx) ?_
    have p9 : (a.put (some 9) (.tuple #[.bool true, .int .i64 p, .int .i32 r])).tmps.getD 9 undef = .tuple #[.bool true, .int .i64 p, .int .i32 r] := put_same (Nat.lt_of_lt_of_le (show 9 < 42 by decide) z1)
    refine op_val rfl rfl (fun c e => by cases e) (v := .bool true) (w2 := w.iterAt B s (p + wd)) (run_extract0 rfl p9 rfl) ?_
    simp only [wpOpsIn]
    have z2 : 42 ≤ ((a.put (some 9) (.tuple #[.bool true, .int .i64 p, .int .i32 r])).put (some 10) (.bool true)).tmps.size := by simp only [put_size]; exact z1
    have d2 : ((a.put (some 9) (.tuple #[.bool true, .int .i64 p, .int .i32 r])).put (some 10) (.bool true)).defers = [] := d1
    have t10 : ((a.put (some 9) (.tuple #[.bool true, .int .i64 p, .int .i32 r])).put (some 10) (.bool true)).tmps.getD 10 undef = .bool true := put_same (by rw [put_size]; exact Nat.lt_of_lt_of_le (show 10 < 42 by decide) z1)
    have t9 : ((a.put (some 9) (.tuple #[.bool true, .int .i64 p, .int .i32 r])).put (some 10) (.bool true)).tmps.getD 9 undef = .tuple #[.bool true, .int .i64 p, .int .i32 r] := by rw [put_other (by decide)]; exact p9
    have t0 : ((a.put (some 9) (.tuple #[.bool true, .int .i64 p, .int .i32 r])).put (some 10) (.bool true)).tmps.getD 0 undef = .string s := by rw [put_other (by decide), put_other (by decide)]; exact q0
    have t8 : ((a.put (some 9) (.tuple #[.bool true, .int .i64 p, .int .i32 r])).put (some 10) (.bool true)).tmps.getD 8 undef = .pointer (some ⟨B, 0, none⟩) := by rw [put_other (by decide), put_other (by decide)]; exact q8
    have t4 : ((a.put (some 9) (.tuple #[.bool true, .int .i64 p, .int .i32 r])).put (some 10) (.bool true)).tmps.getD 4 undef = .int .i64 (valL (l.take p) : Nat) := by rw [put_other (by decide), put_other (by decide)]; exact q4
    show Code.wpIn (Fw none) 1 prog _ _ ((a.put (some 9) (.tuple #[.bool true, .int .i64 p, .int .i32 r])).put (some 10) (.bool true)) (w.iterAt B s (p + wd))
    generalize (a.put (some 9) (.tuple #[.bool true, .int .i64 p, .int .i32 r])).put (some 10) (.bool true) = a5 at z2 d2 t10 t9 t0 t8 t4
    generalize w.iterAt B s (p + wd) = w5 at hi2 b2
    clear p9 hnx hit b1 q0 q8 q4 z1 d1
    refine wpIn_seq (wpIn_cond t10 (wpIn_skip ?_))
    show Code.wpIn (Fw none) 1 prog _ _ a5 w5
    refine wpIn_block ?_
    have htm : ∀ i, V I (fun _ _ => none) noSig (look [(9, .tup [.bool true, .int .i64 p, .int .i32 r]), (4, .int .i64 (valL (l.take p) : Nat)), (0, .str s)] i) (a5.tmps.getD i undef) := by
      intro i
      rw [look_cons]
      split
      · rename_i e; subst e; rw [t9]
        refine .data (.tup _ _ rfl fun j x hx => ?_)
        match j, hx with
        | 0, hx => simp at hx; subst hx; exact .bool _
        | 1, hx => simp at hx; subst hx; exact .int _ _
        | 2, hx => simp at hx; subst hx; exact .int _ _
      · rw [look_cons]
        split
        · rename_i e; subst e; rw [t4]; exact .data (.int _ _)
        · rw [look_cons]
          split
          · rename_i e; subst e; rw [t0]; exact .data (.str _)
          · exact .data (.dead _)
    by_cases hok : dig l[p] = true ∧ l.length ≤ 9
    · obtain ⟨hd1, hl9⟩ := hok
      obtain ⟨hr, hwd⟩ : r = l[p].toNat ∧ wd = 1 := by
        rcases hrune with ⟨_, h⟩ | ⟨h, _⟩
        · exact ⟨congrArg Prod.fst h, congrArg Prod.snd h⟩
        · rw [hd1] at h; cases h
      have hdd := dig_iff.1 hd1
      subst hwd
      have k1 : decide ((r : Int) < 48) = false := decide_eq_false (by omega)
      have k2 : decide ((r : Int) > 57) = false := decide_eq_false (by omega)
      have k3 : decide ((s.size : Int) > 9) = false := decide_eq_false (by omega)
      have hval := valL_take (List.getElem?_eq_getElem hlt)
      have hbound := valL_lt 9 (l.take p) (by rw [List.length_take]; omega) hdg
      have e1 : w64 (w64 (10 * (valL (l.take p) : Nat)) + w64 (IntKind.i32.wrap ((r : Int) - 48))) = (valL (l.take (p + 1)) : Nat) := by
        rw [w32i (by omega) (by omega), hval]
        have : w64 (10 * ((valL (l.take p) : Nat) : Int)) = 10 * (valL (l.take p) : Nat) := by rw [w64, wrap_in] <;> omega
        rw [this]
        have : w64 ((r : Int) - 48) = (r : Int) - 48 := by rw [w64, wrap_in] <;> omega
        rw [this, w64, wrap_in] <;> omega
      refine wpIn_mono (piece (Γ := Γi gl) (C := Cs gl) (Q := nrm fun S => look S.tm 4 = .int .i64 (valL (l.take (p + 1)) : Nat)) (tm := [(9, .tup [.bool true, .int .i64 p, .int .i32 r]), (4, .int .i64 (valL (l.take p) : Nat)), (0, .str s)]) mixed0 tok0 ⟨⟨fun _ _ _ _ _ h => h, fun _ _ _ _ h => h⟩, rfl⟩ rfl ?_ ?_ (m.below b2).im m.glo (m.below b2).gz htm z2 d2) ?_
      · rfl
      · conv => whnf
        split
        · rename_i h
          exact Bool.noConfusion ((k1).symm.trans h)
        rename_i hN
        clear hN
        conv => whnf
        split
        · rename_i h
          exact Bool.noConfusion ((k2).symm.trans h)
        rename_i hN
        clear hN
        conv => whnf
        split
        · rename_i h
          exact Bool.noConfusion ((k3).symm.trans h)
        rename_i hN
        clear hN
        conv => whnf
        exact congrArg (IV.int .i64) e1
      rintro e a6 w6 ⟨hq, b6, d6, z6, f6⟩
      cases e with
      | normal =>
        obtain ⟨S', I', β', σ', hS, ht⟩ := hq
        have hS : look S'.tm 4 = .int .i64 (valL (l.take (p + 1)) : Nat) := hS
        refine ⟨⟨p + 1, hlt, fun b hb => ?_, fun _ => hl9⟩, ⟨b2.trans (b6.mono b2.size), d6, z6, (f6 0 (by rfl)).trans t0, (f6 8 (by rfl)).trans t8, ?_, heap_below b6 hi2⟩, ?_⟩
        · rw [List.take_add_one, List.getElem?_eq_getElem hlt] at hb
          rcases List.mem_append.1 hb with hb | hb
          · exact hdg b hb
          · simp at hb; rw [hb]; exact hd1
        · have h := ht 4
          rw [hS] at h
          exact h.int_inv
        · show l.length - (p + 1) < l.length - p
          omega
      | ret => obtain ⟨_, _, _, _, h, _⟩ := hq; exact h.elim
      | exit id => obtain ⟨_, _, _, _, h, _⟩ := hq; exact h.elim
      | goto l => exact hq.elim
      | panic c => exact hq.elim
      | outgrown => exact hq.elim
    · have hbad : intR l = (0, false) := by
        refine intR_bad ?_
        rcases Bool.eq_false_or_eq_true (l.all dig && decide (l.length ≤ 9)) with h | h
        · rw [Bool.and_eq_true] at h
          exact absurd ⟨List.all_eq_true.1 h.1 _ (List.getElem_mem hlt), of_decide_eq_true h.2⟩ hok
        · exact h
      rw [hbad] at leave
      refine wpIn_mono (piece (Γ := Γi gl) (C := Cs gl) (Q := fun e S => match e with | .ret => look S.tm 2 = .int .i64 0 ∧ look S.tm 3 = .bool false | _ => False) (tm := [(9, .tup [.bool true, .int .i64 p, .int .i32 r]), (4, .int .i64 (valL (l.take p) : Nat)), (0, .str s)]) mixed0 tok0 ⟨⟨fun _ _ _ _ _ h => h, fun _ _ _ _ h => h⟩, rfl⟩ rfl ?_ ?_ (m.below b2).im m.glo (m.below b2).gz htm z2 d2) ?_
      · rfl
      · cases k1 : decide ((r : Int) < 48) with
        | true =>
          conv => whnf
          split
          rotate_left
          · rename_i h
            exact Bool.noConfusion ((k1).symm.trans h)
          rename_i hN
          clear hN
          conv => whnf
          exact ⟨rfl, rfl⟩
        | false =>
        cases k2 : decide ((r : Int) > 57) with
        | true =>
          conv => whnf
          split
          · rename_i h
            exact Bool.noConfusion ((k1).symm.trans h)
          rename_i hN
          clear hN
          conv => whnf
          split
          rotate_left
          · rename_i h
            exact Bool.noConfusion ((k2).symm.trans h)
          rename_i hN
          clear hN
          conv => whnf
          exact ⟨rfl, rfl⟩
        | false =>
          have n1 := of_decide_eq_false k1
          have n2 := of_decide_eq_false k2
          have k3 : decide ((s.size : Int) > 9) = true := by
            refine decide_eq_true ?_
            rcases hrune with ⟨h, _⟩ | ⟨_, h⟩
            · have : ¬ l.length ≤ 9 := fun hh => hok ⟨h, hh⟩
              omega
            · omega
          conv => whnf
          split
          · rename_i h
            exact Bool.noConfusion ((k1).symm.trans h)
          rename_i hN
          clear hN
          conv => whnf
          split
          · rename_i h
            exact Bool.noConfusion ((k2).symm.trans h)
          rename_i hN
          clear hN
          conv => whnf
          split
          rotate_left
          · rename_i h
            exact Bool.noConfusion ((k3).symm.trans h)
          rename_i hN
          clear hN
          conv => whnf
          exact ⟨rfl, rfl⟩
      rintro e a6 w6 ⟨hq, b6, d6, z6, f6⟩
      cases e with
      | ret =>
        obtain ⟨S', I', β', σ', ⟨h2, h3⟩, ht⟩ := hq
        have e2 := ht 2
        have e3 := ht 3
        rw [h2] at e2
        rw [h3] at e3
        rw [hbad]
        exact leave a6 w6 d6 e2.int_inv e3.bool_inv (b2.trans (b6.mono b2.size))
      | normal => obtain ⟨_, _, _, _, h, _⟩ := hq; exact h.elim
      | exit id => obtain ⟨_, _, _, _, h, _⟩ := hq; exact h.elim
      | goto l => exact hq.elim
      | panic c => exact hq.elim
      | outgrown => exact hq.elim
  · have hpe : p = l.length := by omega
    subst hpe
    have hnx := Go.Lib.run_next_end_at (P := prog) w B s l.length 0 hit (by omega)
    refine wpIn_seq (wpIn_region ?_)
    refine op_val rfl rfl (fun c e => by cases e) (v := .tuple #[.bool false]) (w2 := w) (run_next_str rfl q8 hnx) ?_
    have p9 : (a.put (some 9) (.tuple #[.bool false])).tmps.getD 9 undef = .tuple #[.bool false] := put_same (Nat.lt_of_lt_of_le (show 9 < 42 by decide) z1)
    refine op_val rfl rfl (fun c e => by cases e) (v := .bool false) (w2 := w) (run_extract0 rfl p9 rfl) ?_
    simp only [wpOpsIn]
    have z2 : 42 ≤ ((a.put (some 9) (.tuple #[.bool false])).put (some 10) (.bool false)).tmps.size := by simp only [put_size]; exact z1
    have d2 : ((a.put (some 9) (.tuple #[.bool false])).put (some 10) (.bool false)).defers = [] := d1
    have t10 : ((a.put (some 9) (.tuple #[.bool false])).put (some 10) (.bool false)).tmps.getD 10 undef = .bool false := put_same (by rw [put_size]; exact Nat.lt_of_lt_of_le (show 10 < 42 by decide) z1)
    have t0 : ((a.put (some 9) (.tuple #[.bool false])).put (some 10) (.bool false)).tmps.getD 0 undef = .string s := by rw [put_other (by decide), put_other (by decide)]; exact q0
    have t4 : ((a.put (some 9) (.tuple #[.bool false])).put (some 10) (.bool false)).tmps.getD 4 undef = .int .i64 (valL l : Nat) := by rw [put_other (by decide), put_other (by decide), q4, List.take_length]
    show Code.wpIn (Fw none) 1 prog _ _ ((a.put (some 9) (.tuple #[.bool false])).put (some 10) (.bool false)) w
    generalize (a.put (some 9) (.tuple #[.bool false])).put (some 10) (.bool false) = a5 at z2 d2 t10 t0 t4
    clear p9 hnx hit q0 q8 q4 z1 d1
    rw [List.take_length] at hdg
    refine wpIn_seq (wpIn_cond t10 (wpIn_exit ?_))
    show Code.wpIn (Fw none) 1 prog _ _ a5 w
    have htm : ∀ i, V I (fun _ _ => none) noSig (look [(4, .int .i64 (valL l : Nat)), (0, .str s)] i) (a5.tmps.getD i undef) := by
      intro i
      rw [look_cons]
      split
      · rename_i e; subst e; rw [t4]; exact .data (.int _ _)
      · rw [look_cons]
        split
        · rename_i e; subst e; rw [t0]; exact .data (.str _)
        · exact .data (.dead _)
    have hres : l.length ≤ 9 := by
      rcases Nat.eq_zero_or_pos l.length with h | h
      · omega
      · exact hp9 h
    have hR := intR_ok hdg hres
    refine wpIn_mono (piece (Γ := Γi gl) (C := Cs gl) (Q := fun e S => match e with | .ret => look S.tm 2 = .int .i64 (intR l).1 ∧ look S.tm 3 = .bool (intR l).2 | _ => False) (tm := [(4, .int .i64 (valL l : Nat)), (0, .str s)]) mixed0 tok0 ⟨⟨fun _ _ _ _ _ h => h, fun _ _ _ _ h => h⟩, rfl⟩ rfl ?_ ?_ (m.below b1).im m.glo (m.below b1).gz htm z2 d2) ?_
    · rfl
    · rw [hR]
      cases k1 : (!(s.toList == ByteArray.empty.toList)) with
      | false =>
        have hnil : l = [] := by
          have : (s.toList == ByteArray.empty.toList) = true := by simpa using k1
          rw [beq_iff_eq, Go.Lib.toList_data, Go.Lib.toList_data, hdat] at this
          exact this
        conv => whnf
        refine DRAW.seek ?_
        repeat (first | refine TRYD.take ?_ | refine TRYD.next ?_)
        conv => whnf
        split
        · rename_i h
          exact Bool.noConfusion ((k1).symm.trans h)
        rename_i hN
        clear hN
        conv => whnf
        exact ⟨rfl, by rw [hnil]; rfl⟩
      | true =>
        have hne : l ≠ [] := fun e => by
          have : (s.toList == ByteArray.empty.toList) = true := by rw [beq_iff_eq, Go.Lib.toList_data, Go.Lib.toList_data, hdat, e]; rfl
          rw [this] at k1; cases k1
        have hpos : 0 < l.length := List.length_pos_iff.2 hne
        have he : l.isEmpty = false := by cases l <;> simp_all
        cases k2 : ((s.size : Int) == 1) with
        | true =>
          have h1 : l.length = 1 := by have := beq_iff_eq.1 k2; omega
          conv => whnf
          refine DRAW.seek ?_
          repeat (first | refine TRYD.take ?_ | refine TRYD.next ?_)
          conv => whnf
          split
          rotate_left
          · rename_i h
            exact Bool.noConfusion ((k1).symm.trans h)
          rename_i hN
          clear hN
          conv => whnf
          split
          rotate_left
          · rename_i h
            exact Bool.noConfusion ((k2).symm.trans h)
          rename_i hN
          clear hN
          conv => whnf
          exact ⟨rfl, by show IV.bool true = .bool _; rw [he, h1]; rfl⟩
        | false =>
          have h1 : (l.length == 1) = false := by
            have : ¬ ((s.size : Int) = 1) := by simpa using k2
            rw [beq_eq_false_iff_ne]; omega
          have k3 : decide ((0 : Int) < s.size) = true := decide_eq_true (by omega)
          conv => whnf
          refine DRAW.seek ?_
          repeat (first | refine TRYD.take ?_ | refine TRYD.next ?_)
          conv => whnf
          split
          rotate_left
          · rename_i h
            exact Bool.noConfusion ((k1).symm.trans h)
          rename_i hN
          clear hN
          conv => whnf
          split
          · rename_i h
            exact Bool.noConfusion ((k2).symm.trans h)
          rename_i hN
          clear hN
          conv => whnf
          split
          rotate_left
          · rename_i h
            exact Bool.noConfusion ((k3).symm.trans h)
          rename_i hN
          clear hN
          conv => whnf
          refine ⟨rfl, ?_⟩
          show IV.bool (((s.data.toList.getD 0 0).toNat : Int) != 48) = .bool _
          rw [he, h1, hdat]
          refine congrArg IV.bool ?_
          cases l with
          | nil => simp at hpos
          | cons x r =>
            show (((x.toNat : Nat) : Int) != 48) = _
            by_cases hx : x = 48
            · subst hx; rfl
            · have : ¬ ((x.toNat : Nat) : Int) = 48 := fun h => hx (by
                apply UInt8.toNat_inj.1
                have : x.toNat = 48 := by omega
                rw [this]; rfl)
              have h3 : (x == 48) = false := by simpa using hx
              simp [h3, this]
    rintro e a6 w6 ⟨hq, b6, d6, z6, f6⟩
    cases e with
    | ret =>
      obtain ⟨S', I', β', σ', ⟨h2, h3⟩, ht⟩ := hq
      have e2 := ht 2
      have e3 := ht 3
      rw [h2] at e2
      rw [h3] at e3
      exact leave a6 w6 d6 e2.int_inv e3.bool_inv (b1.trans (b6.mono b1.size))
    | normal => obtain ⟨_, _, _, _, h, _⟩ := hq; exact h.elim
    | exit id => obtain ⟨_, _, _, _, h, _⟩ := hq; exact h.elim
    | goto l => exact hq.elim
    | panic c => exact hq.elim
    | outgrown => exact hq.elim
end Go.Proofs.YtkdlegfakefjgaaGreatDoor.Ix

namespace Go.Proofs.YtkdlegfakefjgaaGreatDoor.Ix
open Go.Proofs
set_option maxRecDepth 100000
set_option linter.unusedVariables false
set_option linter.unusedSimpArgs false
variable {gl : Nat → IV}
abbrev blade0 : ByteArray := ⟨#[48]⟩
abbrev blade1 : ByteArray := ⟨#[49]⟩
abbrev blade2 : ByteArray := ⟨#[50]⟩
abbrev bladeN : ByteArray := ⟨#[45]⟩
def ac0 : Ac := ⟨ByteArray.empty, 0, 0, 0, 0⟩
noncomputable def wordsR (w : Nat → List UInt8) : Ac × Bool :=
  let k := idxS (bytesS (w 4)) [blade0, blade1, blade2] 0
  (⟨bytesS (w 0), (intR (w 1)).1, (intR (w 2)).1, (intR (w 3)).1, k⟩, (((decide (k ≥ 0) || eqS (bytesS (w 4)) bladeN) && (intR (w 1)).2) && (intR (w 2)).2) && (intR (w 3)).2)
noncomputable def parsedR (P : List (List UInt8)) : Ac × Bool := bif ((P.length : Int) != 5) || eqS (bytesS (P.getD 0 [])) ByteArray.empty then (ac0, false) else wordsR fun i => P.getD i []
theorem c_IndexB (up : List Ces) (x : ByteArray) : Cs gl n_slices_Index_string_string up [.lst none 1 3 (litF 1 [.str blade0, .str blade1, .str blade2]), .str x] (.int .i64 (idxS x [blade0, blade1, blade2] 0)) up := by
  refine Comp.le ?_ (c_Index (gl := gl) up [blade0, blade1, blade2] (by decide) x)
  refine ⟨⟨.inl rfl, rfl, rfl, fun i hi => ?_⟩, leV_refl _, trivial⟩
  match i, hi with
  | 0, _ => rfl
  | 1, _ => rfl
  | 2, _ => rfl
def fineF (f0 : Bool) (b : Nat → Bool) : Nat → Bool
  | 0 => f0
  | i + 1 => fineF f0 b i && b (i + 1)
def numA (n : Nat → Int) : Nat → Nat → Int
  | 0, _ => 0
  | 1, 0 => n 1
  | 1, _ => 0
  | 2, 0 => n 1
  | 2, 1 => n 2
  | 2, _ => 0
  | _, 0 => n 1
  | _, 1 => n 2
  | _, _ => n 3
def numC (s : ByteArray) (n : Nat → Int) (k : Int) (i : Nat) : List IV := [.str s, .int .i64 (numA n i 0), .int .i64 (numA n i 1), .int .i64 (numA n i 2), .int .i64 k]
set_option maxHeartbeats 8000000 in
theorem c_parsed5 (up : List Ces) (s : ByteArray) (w : Nat → List UInt8) (hw : ∀ i, (w i).length ≤ 1000000000) (q0 : eqS (bytesS (w 0)) ByteArray.empty = false)
    (hS : ∀ up, Cs gl n_strings_Split up [.str s, .str ⟨#[32]⟩] (.lst none 1 5 fun i => [.str (bytesS (w i))]) up) :
    Cs gl n_control_parsed up [.str s] (.tup [(wordsR w).1.iv, .bool (wordsR w).2]) up := by
  obtain ⟨x, hx⟩ : ∃ x : Nat → ByteArray, x = fun i => bytesS (w i) := ⟨_, rfl⟩
  have hn := fun up i => c_integer (gl := gl) up (w i) (hw i)
  obtain ⟨n, hnn⟩ : ∃ n : Nat → Int, n = fun i => (intR (w i)).1 := ⟨_, rfl⟩
  obtain ⟨b, hbb⟩ : ∃ b : Nat → Bool, b = fun i => (intR (w i)).2 := ⟨_, rfl⟩
  have hn : ∀ up i, Cs gl n_control_integer up [.str (x i)] (.tup [.int .i64 (n i), .bool (b i)]) up := fun up i => by rw [hx, hnn, hbb]; exact hn up i
  have hS : ∀ up, Cs gl n_strings_Split up [.str s, .str ⟨#[32]⟩] (.lst none 1 5 fun i => [.str (x i)]) up := by rw [hx]; exact hS
  have hI := fun up => c_IndexB (gl := gl) up (x 4)
  have q0 : eqS (x 0) ByteArray.empty = false := by rw [hx]; exact q0
  have hR : wordsR w = (⟨x 0, n 1, n 2, n 3, idxS (x 4) [blade0, blade1, blade2] 0⟩, (((decide (idxS (x 4) [blade0, blade1, blade2] 0 ≥ 0) || eqS (x 4) bladeN) && b 1) && b 2) && b 3) := by rw [hx, hnn, hbb]; rfl
  rw [hR]
  obtain ⟨k, hk⟩ : ∃ k, k = idxS (x 4) [blade0, blade1, blade2] 0 := ⟨_, rfl⟩
  rw [← hk] at hI ⊢
  clear hR hk hx hnn hbb
  cases q1 : decide (k ≥ 0) with
  | true =>
    obtain ⟨F, hF⟩ : ∃ F, F = fineF true b := ⟨_, rfl⟩
    have hFs : ∀ i, F (i + 1) = (F i && b (i + 1)) := fun i => by rw [hF]; rfl
    have hF0 : IV.bool true = IV.bool (F 0) := by rw [hF]; rfl
    have hfin : ((((true || eqS (x 4) bladeN) && b 1) && b 2) && b 3) = F 3 := by rw [hF]; rfl
    refine mk h_control_parsed rfl rfl ?_
    rw [hfin]
    conv => whnf
    repeat first
      | (refine DRAW.seek ?_; repeat (first | refine TRYD.take ?_ | refine TRYD.next ?_); conv => whnf)
      | (refine HOLD.mk (by first | exact trivial | exact ⟨⟨rfl, rfl⟩, trivial⟩ | exact ⟨⟨rfl, rfl⟩, ⟨rfl, rfl⟩, trivial⟩) ?_; (conv => whnf))
      | (refine CALL0.by (hS ..) rfl ?_; conv => whnf)
      | (refine CALLQ.mk _ _ _ (leL_refl _) (hS ..) rfl ?_; conv => whnf)
    split
    · rename_i h
      exact Bool.noConfusion ((q0).symm.trans h)
    rename_i hN
    clear hN
    conv => whnf
    repeat first
      | (refine DRAW.seek ?_; repeat (first | refine TRYD.take ?_ | refine TRYD.next ?_); conv => whnf)
      | (refine HOLD.mk (by first | exact trivial | exact ⟨⟨rfl, rfl⟩, trivial⟩ | exact ⟨⟨rfl, rfl⟩, ⟨rfl, rfl⟩, trivial⟩) ?_; (conv => whnf))
      | (refine CALL0.by (hI ..) rfl ?_; conv => whnf)
      | (refine CALLQ.mk _ _ _ (leL_refl _) (hI ..) rfl ?_; conv => whnf)
    split
    rotate_left
    · rename_i h
      exact Bool.noConfusion ((q1).symm.trans h)
    rename_i hN
    clear hN
    conv => whnf
    refine .mk (α := {i : Nat // i ≤ 3}) (fun i => ⟨[(45, .int .i64 i.1), (44, .agg [.ptr 0 5 1, .ptr 0 5 2, .ptr 0 5 3]), (4, .lst none 1 5 fun i => [.str (x i)]), (6, .bool (F i.1)), (5, .ptr 0 5 0), (2, .ptr 0 2 0)], [(5, numC (x 0) n k i.1), (2, ac0.cs)], up⟩) (fun i => 3 - i.1) ⟨0, by decide⟩ ⟨⟨leV_refl _, leV_refl _, leV_refl _, hF0, leV_refl _, leV_refl _, trivial⟩, ⟨?_, ?_, trivial⟩, rfl, rfl⟩ ?_
    · exact ⟨rfl, rfl, rfl, rfl, rfl, trivial⟩
    · exact ⟨rfl, rfl, rfl, rfl, rfl, trivial⟩
    rintro ⟨i, hi⟩
    have hn1 := fun up => hn up 1
    have hn2 := fun up => hn up 2
    have hn3 := fun up => hn up 3
    match i, hi with
    | 0, hi =>
      cases qf : F 0 with
      | true =>
        conv => whnf
        repeat first
          | (refine DRAW.seek ?_; repeat (first | refine TRYD.take ?_ | refine TRYD.next ?_); conv => whnf)
          | (refine HOLD.mk (by first | exact trivial | exact ⟨⟨rfl, rfl⟩, trivial⟩ | exact ⟨⟨rfl, rfl⟩, ⟨rfl, rfl⟩, trivial⟩) ?_; (conv => whnf))
          | (refine CALL0.by (hn1 ..) rfl ?_; conv => whnf)
          | (refine CALLQ.mk _ _ _ (leL_refl _) (hn1 ..) rfl ?_; conv => whnf)
        refine ⟨⟨1, by decide⟩, ⟨⟨leV_refl _, leV_refl _, leV_refl _, ?_, leV_refl _, leV_refl _, trivial⟩, (by exact ⟨⟨rfl, rfl, rfl, rfl, rfl, trivial⟩, ⟨rfl, rfl, rfl, rfl, rfl, trivial⟩, trivial⟩), rfl, rfl⟩, (by show 3 - 1 < 3 - 0; decide)⟩
        show IV.bool (b 1) = IV.bool (F 1)
        rw [hFs 0, qf]; rfl
      | false =>
        conv => whnf
        repeat first
          | (refine DRAW.seek ?_; repeat (first | refine TRYD.take ?_ | refine TRYD.next ?_); conv => whnf)
          | (refine HOLD.mk (by first | exact trivial | exact ⟨⟨rfl, rfl⟩, trivial⟩ | exact ⟨⟨rfl, rfl⟩, ⟨rfl, rfl⟩, trivial⟩) ?_; (conv => whnf))
          | (refine CALL0.by (hn1 ..) rfl ?_; conv => whnf)
          | (refine CALLQ.mk _ _ _ (leL_refl _) (hn1 ..) rfl ?_; conv => whnf)
        refine ⟨⟨1, by decide⟩, ⟨⟨leV_refl _, leV_refl _, leV_refl _, ?_, leV_refl _, leV_refl _, trivial⟩, (by exact ⟨⟨rfl, rfl, rfl, rfl, rfl, trivial⟩, ⟨rfl, rfl, rfl, rfl, rfl, trivial⟩, trivial⟩), rfl, rfl⟩, (by show 3 - 1 < 3 - 0; decide)⟩
        show IV.bool false = IV.bool (F 1)
        rw [hFs 0, qf]; rfl
    | 1, hi =>
      cases qf : F 1 with
      | true =>
        conv => whnf
        repeat first
          | (refine DRAW.seek ?_; repeat (first | refine TRYD.take ?_ | refine TRYD.next ?_); conv => whnf)
          | (refine HOLD.mk (by first | exact trivial | exact ⟨⟨rfl, rfl⟩, trivial⟩ | exact ⟨⟨rfl, rfl⟩, ⟨rfl, rfl⟩, trivial⟩) ?_; (conv => whnf))
          | (refine CALL0.by (hn2 ..) rfl ?_; conv => whnf)
          | (refine CALLQ.mk _ _ _ (leL_refl _) (hn2 ..) rfl ?_; conv => whnf)
        refine ⟨⟨2, by decide⟩, ⟨⟨leV_refl _, leV_refl _, leV_refl _, ?_, leV_refl _, leV_refl _, trivial⟩, (by exact ⟨⟨rfl, rfl, rfl, rfl, rfl, trivial⟩, ⟨rfl, rfl, rfl, rfl, rfl, trivial⟩, trivial⟩), rfl, rfl⟩, (by show 3 - 2 < 3 - 1; decide)⟩
        show IV.bool (b 2) = IV.bool (F 2)
        rw [hFs 1, qf]; rfl
      | false =>
        conv => whnf
        repeat first
          | (refine DRAW.seek ?_; repeat (first | refine TRYD.take ?_ | refine TRYD.next ?_); conv => whnf)
          | (refine HOLD.mk (by first | exact trivial | exact ⟨⟨rfl, rfl⟩, trivial⟩ | exact ⟨⟨rfl, rfl⟩, ⟨rfl, rfl⟩, trivial⟩) ?_; (conv => whnf))
          | (refine CALL0.by (hn2 ..) rfl ?_; conv => whnf)
          | (refine CALLQ.mk _ _ _ (leL_refl _) (hn2 ..) rfl ?_; conv => whnf)
        refine ⟨⟨2, by decide⟩, ⟨⟨leV_refl _, leV_refl _, leV_refl _, ?_, leV_refl _, leV_refl _, trivial⟩, (by exact ⟨⟨rfl, rfl, rfl, rfl, rfl, trivial⟩, ⟨rfl, rfl, rfl, rfl, rfl, trivial⟩, trivial⟩), rfl, rfl⟩, (by show 3 - 2 < 3 - 1; decide)⟩
        show IV.bool false = IV.bool (F 2)
        rw [hFs 1, qf]; rfl
    | 2, hi =>
      cases qf : F 2 with
      | true =>
        conv => whnf
        repeat first
          | (refine DRAW.seek ?_; repeat (first | refine TRYD.take ?_ | refine TRYD.next ?_); conv => whnf)
          | (refine HOLD.mk (by first | exact trivial | exact ⟨⟨rfl, rfl⟩, trivial⟩ | exact ⟨⟨rfl, rfl⟩, ⟨rfl, rfl⟩, trivial⟩) ?_; (conv => whnf))
          | (refine CALL0.by (hn3 ..) rfl ?_; conv => whnf)
          | (refine CALLQ.mk _ _ _ (leL_refl _) (hn3 ..) rfl ?_; conv => whnf)
        refine ⟨⟨3, by decide⟩, ⟨⟨leV_refl _, leV_refl _, leV_refl _, ?_, leV_refl _, leV_refl _, trivial⟩, (by exact ⟨⟨rfl, rfl, rfl, rfl, rfl, trivial⟩, ⟨rfl, rfl, rfl, rfl, rfl, trivial⟩, trivial⟩), rfl, rfl⟩, (by show 3 - 3 < 3 - 2; decide)⟩
        show IV.bool (b 3) = IV.bool (F 3)
        rw [hFs 2, qf]; rfl
      | false =>
        conv => whnf
        repeat first
          | (refine DRAW.seek ?_; repeat (first | refine TRYD.take ?_ | refine TRYD.next ?_); conv => whnf)
          | (refine HOLD.mk (by first | exact trivial | exact ⟨⟨rfl, rfl⟩, trivial⟩ | exact ⟨⟨rfl, rfl⟩, ⟨rfl, rfl⟩, trivial⟩) ?_; (conv => whnf))
          | (refine CALL0.by (hn3 ..) rfl ?_; conv => whnf)
          | (refine CALLQ.mk _ _ _ (leL_refl _) (hn3 ..) rfl ?_; conv => whnf)
        refine ⟨⟨3, by decide⟩, ⟨⟨leV_refl _, leV_refl _, leV_refl _, ?_, leV_refl _, leV_refl _, trivial⟩, (by exact ⟨⟨rfl, rfl, rfl, rfl, rfl, trivial⟩, ⟨rfl, rfl, rfl, rfl, rfl, trivial⟩, trivial⟩), rfl, rfl⟩, (by show 3 - 3 < 3 - 2; decide)⟩
        show IV.bool false = IV.bool (F 3)
        rw [hFs 2, qf]; rfl
    | 3, hi =>
      conv => whnf
      exact ⟨rfl, rfl⟩
  | false =>
    obtain ⟨F, hF⟩ : ∃ F, F = fineF (eqS (x 4) bladeN) b := ⟨_, rfl⟩
    have hFs : ∀ i, F (i + 1) = (F i && b (i + 1)) := fun i => by rw [hF]; rfl
    have hF0 : IV.bool (eqS (x 4) bladeN) = IV.bool (F 0) := by rw [hF]; rfl
    have hfin : ((((false || eqS (x 4) bladeN) && b 1) && b 2) && b 3) = F 3 := by rw [hF]; rfl
    refine mk h_control_parsed rfl rfl ?_
    rw [hfin]
    conv => whnf
    repeat first
      | (refine DRAW.seek ?_; repeat (first | refine TRYD.take ?_ | refine TRYD.next ?_); conv => whnf)
      | (refine HOLD.mk (by first | exact trivial | exact ⟨⟨rfl, rfl⟩, trivial⟩ | exact ⟨⟨rfl, rfl⟩, ⟨rfl, rfl⟩, trivial⟩) ?_; (conv => whnf))
      | (refine CALL0.by (hS ..) rfl ?_; conv => whnf)
      | (refine CALLQ.mk _ _ _ (leL_refl _) (hS ..) rfl ?_; conv => whnf)
    split
    · rename_i h
      exact Bool.noConfusion ((q0).symm.trans h)
    rename_i hN
    clear hN
    conv => whnf
    repeat first
      | (refine DRAW.seek ?_; repeat (first | refine TRYD.take ?_ | refine TRYD.next ?_); conv => whnf)
      | (refine HOLD.mk (by first | exact trivial | exact ⟨⟨rfl, rfl⟩, trivial⟩ | exact ⟨⟨rfl, rfl⟩, ⟨rfl, rfl⟩, trivial⟩) ?_; (conv => whnf))
      | (refine CALL0.by (hI ..) rfl ?_; conv => whnf)
      | (refine CALLQ.mk _ _ _ (leL_refl _) (hI ..) rfl ?_; conv => whnf)
    split
    · rename_i h
      exact Bool.noConfusion ((q1).symm.trans h)
    rename_i hN
    clear hN
    conv => whnf
    refine .mk (α := {i : Nat // i ≤ 3}) (fun i => ⟨[(45, .int .i64 i.1), (44, .agg [.ptr 0 5 1, .ptr 0 5 2, .ptr 0 5 3]), (4, .lst none 1 5 fun i => [.str (x i)]), (6, .bool (F i.1)), (5, .ptr 0 5 0), (2, .ptr 0 2 0)], [(5, numC (x 0) n k i.1), (2, ac0.cs)], up⟩) (fun i => 3 - i.1) ⟨0, by decide⟩ ⟨⟨leV_refl _, leV_refl _, leV_refl _, hF0, leV_refl _, leV_refl _, trivial⟩, ⟨?_, ?_, trivial⟩, rfl, rfl⟩ ?_
    · exact ⟨rfl, rfl, rfl, rfl, rfl, trivial⟩
    · exact ⟨rfl, rfl, rfl, rfl, rfl, trivial⟩
    rintro ⟨i, hi⟩
    have hn1 := fun up => hn up 1
    have hn2 := fun up => hn up 2
    have hn3 := fun up => hn up 3
    match i, hi with
    | 0, hi =>
      cases qf : F 0 with
      | true =>
        conv => whnf
        repeat first
          | (refine DRAW.seek ?_; repeat (first | refine TRYD.take ?_ | refine TRYD.next ?_); conv => whnf)
          | (refine HOLD.mk (by first | exact trivial | exact ⟨⟨rfl, rfl⟩, trivial⟩ | exact ⟨⟨rfl, rfl⟩, ⟨rfl, rfl⟩, trivial⟩) ?_; (conv => whnf))
          | (refine CALL0.by (hn1 ..) rfl ?_; conv => whnf)
          | (refine CALLQ.mk _ _ _ (leL_refl _) (hn1 ..) rfl ?_; conv => whnf)
        refine ⟨⟨1, by decide⟩, ⟨⟨leV_refl _, leV_refl _, leV_refl _, ?_, leV_refl _, leV_refl _, trivial⟩, (by exact ⟨⟨rfl, rfl, rfl, rfl, rfl, trivial⟩, ⟨rfl, rfl, rfl, rfl, rfl, trivial⟩, trivial⟩), rfl, rfl⟩, (by show 3 - 1 < 3 - 0; decide)⟩
        show IV.bool (b 1) = IV.bool (F 1)
        rw [hFs 0, qf]; rfl
      | false =>
        conv => whnf
        repeat first
          | (refine DRAW.seek ?_; repeat (first | refine TRYD.take ?_ | refine TRYD.next ?_); conv => whnf)
          | (refine HOLD.mk (by first | exact trivial | exact ⟨⟨rfl, rfl⟩, trivial⟩ | exact ⟨⟨rfl, rfl⟩, ⟨rfl, rfl⟩, trivial⟩) ?_; (conv => whnf))
          | (refine CALL0.by (hn1 ..) rfl ?_; conv => whnf)
          | (refine CALLQ.mk _ _ _ (leL_refl _) (hn1 ..) rfl ?_; conv => whnf)
        refine ⟨⟨1, by decide⟩, ⟨⟨leV_refl _, leV_refl _, leV_refl _, ?_, leV_refl _, leV_refl _, trivial⟩, (by exact ⟨⟨rfl, rfl, rfl, rfl, rfl, trivial⟩, ⟨rfl, rfl, rfl, rfl, rfl, trivial⟩, trivial⟩), rfl, rfl⟩, (by show 3 - 1 < 3 - 0; decide)⟩
        show IV.bool false = IV.bool (F 1)
        rw [hFs 0, qf]; rfl
    | 1, hi =>
      cases qf : F 1 with
      | true =>
        conv => whnf
        repeat first
          | (refine DRAW.seek ?_; repeat (first | refine TRYD.take ?_ | refine TRYD.next ?_); conv => whnf)
          | (refine HOLD.mk (by first | exact trivial | exact ⟨⟨rfl, rfl⟩, trivial⟩ | exact ⟨⟨rfl, rfl⟩, ⟨rfl, rfl⟩, trivial⟩) ?_; (conv => whnf))
          | (refine CALL0.by (hn2 ..) rfl ?_; conv => whnf)
          | (refine CALLQ.mk _ _ _ (leL_refl _) (hn2 ..) rfl ?_; conv => whnf)
        refine ⟨⟨2, by decide⟩, ⟨⟨leV_refl _, leV_refl _, leV_refl _, ?_, leV_refl _, leV_refl _, trivial⟩, (by exact ⟨⟨rfl, rfl, rfl, rfl, rfl, trivial⟩, ⟨rfl, rfl, rfl, rfl, rfl, trivial⟩, trivial⟩), rfl, rfl⟩, (by show 3 - 2 < 3 - 1; decide)⟩
        show IV.bool (b 2) = IV.bool (F 2)
        rw [hFs 1, qf]; rfl
      | false =>
        conv => whnf
        repeat first
          | (refine DRAW.seek ?_; repeat (first | refine TRYD.take ?_ | refine TRYD.next ?_); conv => whnf)
          | (refine HOLD.mk (by first | exact trivial | exact ⟨⟨rfl, rfl⟩, trivial⟩ | exact ⟨⟨rfl, rfl⟩, ⟨rfl, rfl⟩, trivial⟩) ?_; (conv => whnf))
          | (refine CALL0.by (hn2 ..) rfl ?_; conv => whnf)
          | (refine CALLQ.mk _ _ _ (leL_refl _) (hn2 ..) rfl ?_; conv => whnf)
        refine ⟨⟨2, by decide⟩, ⟨⟨leV_refl _, leV_refl _, leV_refl _, ?_, leV_refl _, leV_refl _, trivial⟩, (by exact ⟨⟨rfl, rfl, rfl, rfl, rfl, trivial⟩, ⟨rfl, rfl, rfl, rfl, rfl, trivial⟩, trivial⟩), rfl, rfl⟩, (by show 3 - 2 < 3 - 1; decide)⟩
        show IV.bool false = IV.bool (F 2)
        rw [hFs 1, qf]; rfl
    | 2, hi =>
      cases qf : F 2 with
      | true =>
        conv => whnf
        repeat first
          | (refine DRAW.seek ?_; repeat (first | refine TRYD.take ?_ | refine TRYD.next ?_); conv => whnf)
          | (refine HOLD.mk (by first | exact trivial | exact ⟨⟨rfl, rfl⟩, trivial⟩ | exact ⟨⟨rfl, rfl⟩, ⟨rfl, rfl⟩, trivial⟩) ?_; (conv => whnf))
          | (refine CALL0.by (hn3 ..) rfl ?_; conv => whnf)
          | (refine CALLQ.mk _ _ _ (leL_refl _) (hn3 ..) rfl ?_; conv => whnf)
        refine ⟨⟨3, by decide⟩, ⟨⟨leV_refl _, leV_refl _, leV_refl _, ?_, leV_refl _, leV_refl _, trivial⟩, (by exact ⟨⟨rfl, rfl, rfl, rfl, rfl, trivial⟩, ⟨rfl, rfl, rfl, rfl, rfl, trivial⟩, trivial⟩), rfl, rfl⟩, (by show 3 - 3 < 3 - 2; decide)⟩
        show IV.bool (b 3) = IV.bool (F 3)
        rw [hFs 2, qf]; rfl
      | false =>
        conv => whnf
        repeat first
          | (refine DRAW.seek ?_; repeat (first | refine TRYD.take ?_ | refine TRYD.next ?_); conv => whnf)
          | (refine HOLD.mk (by first | exact trivial | exact ⟨⟨rfl, rfl⟩, trivial⟩ | exact ⟨⟨rfl, rfl⟩, ⟨rfl, rfl⟩, trivial⟩) ?_; (conv => whnf))
          | (refine CALL0.by (hn3 ..) rfl ?_; conv => whnf)
          | (refine CALLQ.mk _ _ _ (leL_refl _) (hn3 ..) rfl ?_; conv => whnf)
        refine ⟨⟨3, by decide⟩, ⟨⟨leV_refl _, leV_refl _, leV_refl _, ?_, leV_refl _, leV_refl _, trivial⟩, (by exact ⟨⟨rfl, rfl, rfl, rfl, rfl, trivial⟩, ⟨rfl, rfl, rfl, rfl, rfl, trivial⟩, trivial⟩), rfl, rfl⟩, (by show 3 - 3 < 3 - 2; decide)⟩
        show IV.bool false = IV.bool (F 3)
        rw [hFs 2, qf]; rfl
    | 3, hi =>
      conv => whnf
      exact ⟨rfl, rfl⟩
theorem c_parsed (up : List Ces) (p : List UInt8) (hp : p.length ≤ 1000000000) :
    Cs gl n_control_parsed up [.str (bytesS p)] (.tup [(parsedR (splitL 32 p)).1.iv, .bool (parsedR (splitL 32 p)).2]) up := by
  have hS := fun up => c_Split (gl := gl) up (bytesS p) 32 (by rw [bytesS_size]; omega)
  rw [bytesS_data] at hS
  have hw : ∀ i, ((splitL 32 p).getD i []).length ≤ 1000000000 := fun i => Nat.le_trans (splitL_le 32 p i) hp
  obtain ⟨P, hP⟩ : ∃ P, P = splitL 32 p := ⟨_, rfl⟩
  rw [← hP] at hS hw ⊢
  clear hP
  unfold parsedR
  cases q : ((P.length : Int) != 5) with
  | true =>
    rw [Bool.true_or, cond_true]
    refine mk h_control_parsed rfl rfl ?_
    conv => whnf
    repeat first
      | (refine DRAW.seek ?_; repeat (first | refine TRYD.take ?_ | refine TRYD.next ?_); conv => whnf)
      | (refine HOLD.mk (by first | exact trivial | exact ⟨⟨rfl, rfl⟩, trivial⟩ | exact ⟨⟨rfl, rfl⟩, ⟨rfl, rfl⟩, trivial⟩) ?_; (conv => whnf))
      | (refine CALL0.by (hS ..) rfl ?_; conv => whnf)
      | (refine CALLQ.mk _ _ _ (leL_refl _) (hS ..) rfl ?_; conv => whnf)
    split
    rotate_left
    · rename_i h
      exact Bool.noConfusion ((q).symm.trans h)
    rename_i hN
    clear hN
    conv => whnf
    exact ⟨rfl, rfl⟩
  | false =>
    have hlen : P.length = 5 := by
      have : (P.length : Int) = 5 := by simpa using q
      omega
    rw [hlen] at hS
    rw [Bool.false_or]
    cases q0 : eqS (bytesS (P.getD 0 [])) ByteArray.empty with
    | true =>
      rw [cond_true]
      refine mk h_control_parsed rfl rfl ?_
      conv => whnf
      repeat first
        | (refine DRAW.seek ?_; repeat (first | refine TRYD.take ?_ | refine TRYD.next ?_); conv => whnf)
        | (refine HOLD.mk (by first | exact trivial | exact ⟨⟨rfl, rfl⟩, trivial⟩ | exact ⟨⟨rfl, rfl⟩, ⟨rfl, rfl⟩, trivial⟩) ?_; (conv => whnf))
        | (refine CALL0.by (hS ..) rfl ?_; conv => whnf)
        | (refine CALLQ.mk _ _ _ (leL_refl _) (hS ..) rfl ?_; conv => whnf)
      split
      rotate_left
      · rename_i h
        exact Bool.noConfusion ((q0).symm.trans h)
      rename_i hN
      clear hN
      conv => whnf
      exact ⟨rfl, rfl⟩
    | false =>
      rw [cond_false]
      exact c_parsed5 up (bytesS p) (fun i => P.getD i []) hw q0 hS
end Go.Proofs.YtkdlegfakefjgaaGreatDoor.Ix

namespace Go.Proofs.YtkdlegfakefjgaaGreatDoor.Ix
open Go.Proofs
set_option maxRecDepth 100000
set_option linter.unusedVariables false
set_option linter.unusedSimpArgs false
variable {gl : Nat → IV}
def fb (g : Nat → Bool) : Nat → Nat → Nat
  | 0, i => i
  | n + 1, i => bif g i then fb g n (i + 1) else i
theorem fb_all {g : Nat → Bool} : ∀ {n i : Nat}, (∀ j, i ≤ j → j < i + n → g j = true) → fb g n i = i + n
  | 0, i, _ => rfl
  | n + 1, i, h => by
    unfold fb
    rw [h i (Nat.le_refl _) (by omega), cond_true, fb_all (fun j h1 h2 => h j (by omega) (by omega))]
    omega
theorem fb_at {g : Nat → Bool} : ∀ {n i k : Nat}, i ≤ k → k < i + n → g k = false → (∀ j, i ≤ j → j < k → g j = true) → fb g n i = k
  | 0, i, k, h1, h2, _, _ => by omega
  | n + 1, i, k, h1, h2, h3, h4 => by
    unfold fb
    rcases Nat.eq_or_lt_of_le h1 with rfl | h
    · rw [h3, cond_false]
    · rw [h4 i (Nat.le_refl _) h, cond_true]
      exact fb_at (by omega) (by omega) h3 fun j h5 h6 => h4 j (by omega) h6
noncomputable def lineA (P : List (List UInt8)) (k : Nat) : Ac × Bool := parsedR (splitL 32 (P.getD k []))
noncomputable def lineG (P : List (List UInt8)) (k : Nat) : Bool := decide (k + 1 < P.length) && (lineA P k).2
noncomputable def parseR (P : List (List UInt8)) : IV :=
  let b := fb (lineG P) (linesN P) 0
  bif decide (b < linesN P) then .tup [.nilS, .int .i64 b, .int .i64 26] else
  bif actsE (linesN P) (fun k => (lineA P k).1) != 0 then .tup [.nilS, .int .i64 (linesN P), .int .i64 (actsE (linesN P) fun k => (lineA P k).1)] else
  .tup [.lst (some 39) 5 (linesN P) fun k => (lineA P k).1.cs, .int .i64 0, .int .i64 0]
set_option maxHeartbeats 16000000 in
theorem c_Parse (up : List Ces) (hk : gl g_control_kinds = kindsI) (l : List UInt8) (hl : l.length ≤ 1000000) :
    Cs gl n_control_Parse up [.str (bytesS l)] (parseR (splitL 10 l)) up := by
  have hV := v_Lines (gl := gl) l (by omega)
  have hpl : ∀ i, ((splitL 10 l).getD i []).length ≤ 1000000 := fun i => Nat.le_trans (splitL_le 10 l i) hl
  have hno := splitL_no 10 l
  have hsz : (bytesS l).size = l.length := bytesS_size l
  obtain ⟨P, hP⟩ : ∃ P, P = splitL 10 l := ⟨_, rfl⟩
  rw [← hP] at hV hpl hno ⊢
  obtain ⟨s, hs⟩ : ∃ s, s = bytesS l := ⟨_, rfl⟩
  rw [← hs] at hV hsz ⊢
  have q0 : decide ((s.size : Int) > 1000000) = false := decide_eq_false (by omega)
  obtain ⟨N, hN⟩ : ∃ N, N = linesN P := ⟨_, rfl⟩
  rw [← hN] at hV
  refine mk h_control_Parse rfl rfl ?_
  conv => whnf
  split
  · rename_i h
    exact Bool.noConfusion ((q0).symm.trans h)
  rename_i hN
  clear hN
  conv => whnf
  refine .own [1000] _ _ _ (leL_refl _) (own_Lines s) rfl rfl ?_
  conv => whnf
  let F : Nat → List IV := fun k => (lineA P k).1.cs
  have hNle : N ≤ 1000001 := by
    have h1 : P.length ≤ l.length + 1 := by rw [hP, splitL_len]; have := List.count_le_length (a := (10 : UInt8)) (l := l); omega
    have h2 : linesN P ≤ P.length := by unfold linesN; split <;> omega
    omega
  have hgoodP : ∀ k, k < N → lineG P k = true → k + 1 < P.length := fun k _ h => by
    unfold lineG at h
    rw [Bool.and_eq_true] at h
    exact of_decide_eq_true h.1
  refine .own n_strings_Lines_1 [1000] [[.str s]] N _ rfl ⟨⟨_, rfl, rfl, rfl⟩, trivial⟩ rfl hV (by kernel_rfl) (fun i _ => rfl) (α := {k : Nat // k ≤ N ∧ ∀ j, j < k → lineG P j = true}) (fun k => ⟨[(6, .ptr 0 6 0), (5, .ptr 0 5 0), (4, .ptr 0 4 0), (3, .ptr 0 3 0), (2, .ptr 0 2 0)],
    [(6, [.int .i64 k.1]), (5, [.lst (some 39) 5 k.1 F]), (4, [.int .i64 0]), (3, [.int .i64 0]), (2, [.nilS])], up⟩) (fun k => k.1) ⟨0, Nat.zero_le _, fun j h => absurd h (Nat.not_lt_zero _)⟩ ⟨?_, ?_, rfl, rfl⟩ rfl rfl (fun _ => rfl) ?_ ?_
  · exact ⟨leV_refl _, leV_refl _, leV_refl _, leV_refl _, leV_refl _, trivial⟩
  · exact ⟨leL_refl _, ⟨rfl, trivial⟩, leL_refl _, leL_refl _, leL_refl _, trivial⟩
  · rintro ⟨k, hkN, hg⟩ hlt
    have hlt : k < N := hlt
    have hw : w64 ((k : Int) + 1) = ((k + 1 : Nat) : Int) := by rw [w64, wrap_in] <;> omega
    have hC : ∀ up, Cs gl n_strings_CutSuffix up [.str (bytesS (lineF P k)), .str ⟨#[10]⟩] (.tup [.str (bytesS (P.getD k [])), .bool (decide (k + 1 < P.length))]) up := fun up => by
      have h := c_CutSuffix (gl := gl) up (lineF P k) 10 (by
        unfold lineF
        have := hpl k
        split
        · rw [List.length_append]; simp only [List.length_cons, List.length_nil]; omega
        · omega)
      by_cases hk1 : k + 1 < P.length
      · rw [decide_eq_true hk1]
        have e : lineF P k = P.getD k [] ++ [10] := by unfold lineF; rw [if_pos hk1]
        rw [e] at h ⊢
        have e2 : (P.getD k [] ++ [(10 : UInt8)]).getLast? = some 10 := by simp
        rw [e2, show ((some (10 : UInt8)) == some 10) = true from rfl, cond_true, List.dropLast_concat] at h
        exact h
      · rw [decide_eq_false hk1]
        have e : lineF P k = P.getD k [] := by unfold lineF; rw [if_neg hk1]
        rw [e] at h ⊢
        rw [show ((P.getD k []).getLast? == some (10 : UInt8)) = false by
          rw [beq_eq_false_iff_ne]
          intro e
          exact hno k (List.mem_of_getLast? e), cond_false] at h
        exact h
    have hPa : ∀ up, Cs gl n_control_parsed up [.str (bytesS (P.getD k []))] (.tup [(lineA P k).1.iv, .bool (lineA P k).2]) up := fun up => c_parsed up _ (by have := hpl k; omega)
    obtain ⟨b1, hb1⟩ : ∃ b, b = decide (k + 1 < P.length) := ⟨_, rfl⟩
    obtain ⟨b2, hb2⟩ : ∃ b, b = (lineA P k).2 := ⟨_, rfl⟩
    obtain ⟨a, ha⟩ : ∃ a, a = (lineA P k).1 := ⟨_, rfl⟩
    have hgk : lineG P k = (b1 && b2) := by rw [hb1, hb2]; rfl
    have hbad : (b1 && b2) = false → parseR P = .tup [.nilS, .int .i64 k, .int .i64 26] := fun h => by
      have e : fb (lineG P) (linesN P) 0 = k := fb_at (Nat.zero_le _) (by rw [← hN]; omega) (hgk.trans h) (fun j _ hj => hg j hj)
      unfold parseR
      simp only [e]
      rw [← hN, decide_eq_true hlt, cond_true]
    rw [← hb1] at hC
    rw [← hb2, ← ha] at hPa
    cases b1 with
    | false =>
      conv => whnf
      repeat first
        | (refine CALL0.by (hC ..) rfl ?_; conv => whnf)
        | (refine CALLQ.mk _ _ _ (leL_refl _) (hC ..) rfl ?_; conv => whnf)
        | (refine CALL0.by (hPa ..) rfl ?_; conv => whnf)
        | (refine CALLQ.mk _ _ _ (leL_refl _) (hPa ..) rfl ?_; conv => whnf)
      refine DRAW.mkH 1 [6] [] [0] (by decide +kernel) ?_
      conv => whnf
      conv => whnf
      repeat first
        | (refine DRAW.seek ?_; repeat (first | refine TRYD.take ?_ | refine TRYD.next ?_); conv => whnf)
        | (refine HOLD.mk (by first | exact trivial | exact ⟨⟨rfl, rfl⟩, trivial⟩ | exact ⟨⟨rfl, rfl⟩, ⟨rfl, rfl⟩, trivial⟩) ?_; (conv => whnf))
      exact ⟨(hbad rfl).symm, rfl⟩
    | true =>
      cases b2 with
      | false =>
        conv => whnf
        repeat first
          | (refine CALL0.by (hC ..) rfl ?_; conv => whnf)
          | (refine CALLQ.mk _ _ _ (leL_refl _) (hC ..) rfl ?_; conv => whnf)
          | (refine CALL0.by (hPa ..) rfl ?_; conv => whnf)
          | (refine CALLQ.mk _ _ _ (leL_refl _) (hPa ..) rfl ?_; conv => whnf)
        refine DRAW.mkH 1 [6] [] [0] (by decide +kernel) ?_
        conv => whnf
        conv => whnf
        repeat first
          | (refine DRAW.seek ?_; repeat (first | refine TRYD.take ?_ | refine TRYD.next ?_); conv => whnf)
          | (refine HOLD.mk (by first | exact trivial | exact ⟨⟨rfl, rfl⟩, trivial⟩ | exact ⟨⟨rfl, rfl⟩, ⟨rfl, rfl⟩, trivial⟩) ?_; (conv => whnf))
        exact ⟨(hbad rfl).symm, rfl⟩
      | true =>
        conv => whnf
        repeat first
          | (refine CALL0.by (hC ..) rfl ?_; conv => whnf)
          | (refine CALLQ.mk _ _ _ (leL_refl _) (hC ..) rfl ?_; conv => whnf)
          | (refine CALL0.by (hPa ..) rfl ?_; conv => whnf)
          | (refine CALLQ.mk _ _ _ (leL_refl _) (hPa ..) rfl ?_; conv => whnf)
        split
        rotate_left
        · rename_i h
          have h' : decide (k + 1 ≤ 1073741824) = false := h
          simp at h' <;> omega
        conv => whnf
        refine ⟨⟨k + 1, hlt, fun j hj => ?_⟩, rfl, ⟨leV_refl _, leV_refl _, leV_refl _, leV_refl _, leV_refl _, trivial⟩, ⟨⟨leV_int hw, trivial⟩, ⟨⟨.inr rfl, rfl, rfl, fun j hj => ?_⟩, trivial⟩, leL_refl _, leL_refl _, leL_refl _, trivial⟩, rfl, rfl⟩
        · rcases Nat.lt_or_ge j k with h | h
          · exact hg j h
          · rw [show j = k by omega]; exact hgk
        · show (if j < k then F j else litF 5 a.cs (j - k)) = F j
          split
          · rfl
          · have : j = k := by have : j < k + 1 := hj; omega
            subst this
            rw [Nat.sub_self, ha]; rfl
  · rintro ⟨k, hkN, hg⟩ he
    have he : k = N := he
    subst he
    have e : fb (lineG P) (linesN P) 0 = k := by rw [← hN, fb_all (fun j _ hj => hg j (by omega))]; omega
    have hp := fun up => c_printable (gl := gl) up hk k (by omega) (fun j => (lineA P j).1)
    obtain ⟨E, hE⟩ : ∃ E, E = actsE k fun j => (lineA P j).1 := ⟨_, rfl⟩
    have hR : parseR P = bif E != 0 then .tup [.nilS, .int .i64 k, .int .i64 E] else .tup [.lst (some 39) 5 k F, .int .i64 0, .int .i64 0] := by
      unfold parseR
      simp only [e]
      rw [← hN, decide_eq_false (Nat.lt_irrefl k), cond_false, ← hE]
    rw [← hE] at hp
    rw [hR]
    cases q : (E != 0) with
    | true =>
      conv => whnf
      repeat first
        | (refine CALL0.by (hp ..) rfl ?_; conv => whnf)
        | (refine CALLQ.mk _ _ _ (leL_refl _) (hp ..) rfl ?_; conv => whnf)
      split
      rotate_left
      · rename_i h
        exact Bool.noConfusion ((q).symm.trans h)
      rename_i hN
      clear hN
      conv => whnf
      refine DRAW.mkH 2 [6] [] [0, 1] (by decide +kernel) ?_
      conv => whnf
      conv => whnf
      repeat first
        | (refine DRAW.seek ?_; repeat (first | refine TRYD.take ?_ | refine TRYD.next ?_); conv => whnf)
        | (refine HOLD.mk (by first | exact trivial | exact ⟨⟨rfl, rfl⟩, trivial⟩ | exact ⟨⟨rfl, rfl⟩, ⟨rfl, rfl⟩, trivial⟩) ?_; (conv => whnf))
      exact ⟨rfl, rfl⟩
    | false =>
      conv => whnf
      repeat first
        | (refine CALL0.by (hp ..) rfl ?_; conv => whnf)
        | (refine CALLQ.mk _ _ _ (leL_refl _) (hp ..) rfl ?_; conv => whnf)
      split
      · rename_i h
        exact Bool.noConfusion ((q).symm.trans h)
      rename_i hN
      clear hN
      conv => whnf
      exact ⟨rfl, rfl⟩
end Go.Proofs.YtkdlegfakefjgaaGreatDoor.Ix

namespace Go.Proofs.YtkdlegfakefjgaaGreatDoor.Ix
open Go.Proofs
set_option maxRecDepth 100000
set_option linter.unusedVariables false
set_option linter.unusedSimpArgs false
variable {gl : Nat → IV}
def numR1 (l : List UInt8) : Int × Bool := bif l.isEmpty || (decide (l.length > 9) || (decide (l.length > 1) && l.headD 0 == 48)) then (0, false) else bif l.all dig then (((valL l : Nat) : Int), true) else (0, false)
def numR : List UInt8 → Int × Bool
  | [] => (0, false)
  | c :: r => bif c == 45 then (-(numR r).1, (numR r).2 && decide ((numR r).1 > 0)) else numR1 (c :: r)
theorem numR1_rng (l : List UInt8) : 0 ≤ (numR1 l).1 ∧ (numR1 l).1 ≤ 1000000000 := by
  unfold numR1
  cases h : (l.isEmpty || (decide (l.length > 9) || (decide (l.length > 1) && l.headD 0 == 48))) with
  | true => simp
  | false =>
    cases h2 : l.all dig with
    | false => simp
    | true =>
      simp only [cond_false, cond_true]
      have h3 : ¬ l.length > 9 := fun hh => by rw [decide_eq_true hh] at h; simp at h
      have := valL_lt 9 l (by omega) (List.all_eq_true.1 h2)
      omega
theorem numR_rng : ∀ l : List UInt8, -1000000000 ≤ (numR l).1 ∧ (numR l).1 ≤ 1000000000
  | [] => by simp [numR]
  | c :: r => by
    have ih := numR_rng r
    have h1 := numR1_rng (c :: r)
    unfold numR
    cases (c == 45) <;> simp only [cond_true, cond_false] <;> omega
theorem num_int (l : List UInt8) : ((numR l).2 && !decide ((numR l).1 < 0)) = (intR l).2 ∧ ((intR l).2 = true → (numR l).1 = (intR l).1) := by
  cases l with
  | nil => exact ⟨rfl, fun h => by cases h⟩
  | cons c r =>
    unfold numR
    cases hc : (c == 45) with
    | true =>
      have e : c = 45 := by simpa using hc
      have hd : (intR (c :: r)).2 = false := by
        rw [intR_bad]
        rw [e]; rfl
      rw [hd, cond_true]
      refine ⟨?_, fun h => by cases h⟩
      cases h1 : (numR r).2 with
      | false => rfl
      | true =>
        by_cases h2 : (numR r).1 > 0
        · rw [decide_eq_true h2, decide_eq_true (show -(numR r).1 < 0 by omega)]; rfl
        · rw [decide_eq_false h2]; rfl
    | false =>
      rw [cond_false]
      have hr := numR1_rng (c :: r)
      rw [decide_eq_false (show ¬ (numR1 (c :: r)).1 < 0 by omega), Bool.not_false, Bool.and_true]
      unfold numR1 intR
      have he : (c :: r).isEmpty = false := rfl
      rw [he, Bool.false_or, Bool.not_false, Bool.true_and]
      by_cases h9 : (c :: r).length ≤ 9
      · rw [decide_eq_true h9, decide_eq_false (show ¬ (c :: r).length > 9 by omega), Bool.false_or, Bool.and_true]
        cases ha : (c :: r).all dig with
        | false =>
          cases (decide ((c :: r).length > 1) && (c :: r).headD 0 == 48) <;> exact ⟨rfl, fun h => by cases h⟩
        | true =>
          rw [cond_true]
          have e2 : ((c :: r).length == 1 || !((c :: r).headD 0 == 48)) = !(decide ((c :: r).length > 1) && (c :: r).headD 0 == 48) := by
            have : ((c :: r).length == 1) = !decide ((c :: r).length > 1) := by
              by_cases h : (c :: r).length = 1
              · rw [h]; rfl
              · have h1 : (c :: r).length > 1 := by simp at h ⊢; exact List.length_pos_iff.2 h
                rw [decide_eq_true h1]; simpa using h
            rw [this]
            cases decide ((c :: r).length > 1) <;> cases ((c :: r).headD 0 == 48) <;> rfl
          rw [e2]
          cases (decide ((c :: r).length > 1) && (c :: r).headD 0 == 48) with
          | true => exact ⟨rfl, fun h => by cases h⟩
          | false => exact ⟨rfl, fun _ => rfl⟩
      · rw [decide_eq_false h9, decide_eq_true (show (c :: r).length > 9 by omega), Bool.true_or, cond_true, Bool.and_false, cond_false]
        exact ⟨rfl, fun h => by cases h⟩
theorem u8d {n : Int} (h : 0 ≤ n) (h2 : n < 256) : IntKind.u8.wrap n = n := by
  unfold IntKind.wrap
  simp [IntKind.bits, IntKind.signed]
  omega
set_option maxHeartbeats 4000000 in
theorem c_rNumber1 (up : List Ces) (l : List UInt8) (hl : l.length ≤ 1000000000) (hc : l.headD 0 ≠ 45) :
    Cs gl n_nacelleref01_Number up [.str (bytesS l)] (.tup [.int .i64 (numR1 l).1, .bool (numR1 l).2]) up := by
  obtain ⟨s, hs⟩ : ∃ s, s = bytesS l := ⟨_, rfl⟩
  have hsz : s.size = l.length := by rw [hs]; exact bytesS_size l
  have hdat : s.data.toList = l := by rw [hs, bytesS_data]
  rw [← hs]
  by_cases h0 : l = []
  · subst h0
    have q1 : decide ((s.size : Int) > 0) = false := by rw [hsz]; rfl
    have q2 : ((s.size : Int) == 0) = true := by rw [hsz]; rfl
    refine mk h_nacelleref01_Number rfl rfl ?_
    conv => whnf
    split
    · rename_i h
      exact Bool.noConfusion ((q1).symm.trans h)
    rename_i hN
    clear hN
    conv => whnf
    split
    rotate_left
    · rename_i h
      exact Bool.noConfusion ((q2).symm.trans h)
    rename_i hN
    clear hN
    conv => whnf
    exact ⟨rfl, rfl⟩
  have hpos : 0 < l.length := List.length_pos_iff.2 h0
  have q1 : decide ((s.size : Int) > 0) = true := decide_eq_true (by omega)
  have q2 : ((s.size : Int) == 0) = false := by rw [beq_eq_false_iff_ne]; omega
  have qi : decide ((0 : Int) < s.size) = true := decide_eq_true (by omega)
  have hh : s.data.toList.getD 0 0 = l.headD 0 := by rw [hdat]; cases l <;> rfl
  have q3 : ((((s.data.toList.getD 0 0).toNat : Nat) : Int) == 45) = false := by
    rw [hh, beq_eq_false_iff_ne]
    intro e
    exact hc (UInt8.toNat_inj.1 (by have : (l.headD 0).toNat = 45 := by omega
                                    rw [this]; rfl))
  have he : l.isEmpty = false := by cases l <;> simp_all
  by_cases h9 : l.length > 9
  · have q4 : decide ((s.size : Int) > 9) = true := decide_eq_true (by omega)
    have hr : numR1 l = (0, false) := by unfold numR1; rw [he, decide_eq_true h9]; rfl
    rw [hr]
    refine mk h_nacelleref01_Number rfl rfl ?_
    conv => whnf
    split
    rotate_left
    · rename_i h
      exact Bool.noConfusion ((q1).symm.trans h)
    rename_i hN
    clear hN
    conv => whnf
    split
    rotate_left
    · rename_i h
      exact Bool.noConfusion ((qi).symm.trans h)
    rename_i hN
    clear hN
    conv => whnf
    split
    · rename_i h
      exact Bool.noConfusion ((q3).symm.trans h)
    rename_i hN
    clear hN
    conv => whnf
    split
    · rename_i h
      exact Bool.noConfusion ((q2).symm.trans h)
    rename_i hN
    clear hN
    conv => whnf
    split
    rotate_left
    · rename_i h
      exact Bool.noConfusion ((q4).symm.trans h)
    rename_i hN
    clear hN
    conv => whnf
    exact ⟨rfl, rfl⟩
  have q4 : decide ((s.size : Int) > 9) = false := decide_eq_false (by omega)
  by_cases hz : l.length > 1 ∧ l.headD 0 = 48
  · have q5 : decide ((s.size : Int) > 1) = true := decide_eq_true (by omega)
    have q6 : ((((s.data.toList.getD 0 0).toNat : Nat) : Int) == 48) = true := by rw [hh, hz.2]; rfl
    have hr : numR1 l = (0, false) := by unfold numR1; rw [he, decide_eq_false h9, decide_eq_true hz.1, hz.2]; rfl
    rw [hr]
    refine mk h_nacelleref01_Number rfl rfl ?_
    conv => whnf
    split
    rotate_left
    · rename_i h
      exact Bool.noConfusion ((q1).symm.trans h)
    rename_i hN
    clear hN
    conv => whnf
    split
    rotate_left
    · rename_i h
      exact Bool.noConfusion ((qi).symm.trans h)
    rename_i hN
    clear hN
    conv => whnf
    split
    · rename_i h
      exact Bool.noConfusion ((q3).symm.trans h)
    rename_i hN
    clear hN
    conv => whnf
    split
    · rename_i h
      exact Bool.noConfusion ((q2).symm.trans h)
    rename_i hN
    clear hN
    conv => whnf
    split
    · rename_i h
      exact Bool.noConfusion ((q4).symm.trans h)
    rename_i hN
    clear hN
    conv => whnf
    split
    rotate_left
    · rename_i h
      exact Bool.noConfusion ((q5).symm.trans h)
    rename_i hN
    clear hN
    conv => whnf
    split
    rotate_left
    · rename_i h
      exact Bool.noConfusion ((qi).symm.trans h)
    rename_i hN
    clear hN
    conv => whnf
    split
    rotate_left
    · rename_i h
      exact Bool.noConfusion ((q6).symm.trans h)
    rename_i hN
    clear hN
    conv => whnf
    exact ⟨rfl, rfl⟩
  have hr : numR1 l = bif l.all dig then (((valL l : Nat) : Int), true) else (0, false) := by
    unfold numR1
    rw [he, decide_eq_false h9, Bool.false_or, Bool.false_or]
    have : (decide (l.length > 1) && l.headD 0 == 48) = false := by
      by_cases h1 : l.length > 1
      · rw [decide_eq_true h1, Bool.true_and, beq_eq_false_iff_ne]; exact fun e => hz ⟨h1, e⟩
      · rw [decide_eq_false h1]; rfl
    rw [this, cond_false]
  rw [hr]
  have body : ∀ (i : Nat), i < l.length → ∃ b, l[i]? = some b ∧ s.data.toList.getD ((i : Nat) : Int).toNat 0 = b := fun i hi => ⟨l[i], List.getElem?_eq_getElem hi, by
    rw [Int.toNat_natCast, hdat, List.getD_eq_getElem?_getD, List.getElem?_eq_getElem hi]; rfl⟩
  have go : ∀ (R : Int × Bool), R = (bif l.all dig then (((valL l : Nat) : Int), true) else (0, false)) → Cs gl n_nacelleref01_Number up [.str s] (.tup [.int .i64 R.1, .bool R.2]) up := by
    intro R hR
    cases q5 : decide ((s.size : Int) > 1) with
    | true =>
      have q6 : ((((s.data.toList.getD 0 0).toNat : Nat) : Int) == 48) = false := by
        have h1 := of_decide_eq_true q5
        rw [hh, beq_eq_false_iff_ne]
        intro e
        exact hz ⟨by omega, UInt8.toNat_inj.1 (by have : (l.headD 0).toNat = 48 := by omega
                                                  rw [this]; rfl)⟩
      refine mk h_nacelleref01_Number rfl rfl ?_
      conv => whnf
      split
      rotate_left
      · rename_i h
        exact Bool.noConfusion ((q1).symm.trans h)
      rename_i hN
      clear hN
      conv => whnf
      split
      rotate_left
      · rename_i h
        exact Bool.noConfusion ((qi).symm.trans h)
      rename_i hN
      clear hN
      conv => whnf
      split
      · rename_i h
        exact Bool.noConfusion ((q3).symm.trans h)
      rename_i hN
      clear hN
      conv => whnf
      split
      · rename_i h
        exact Bool.noConfusion ((q2).symm.trans h)
      rename_i hN
      clear hN
      conv => whnf
      split
      · rename_i h
        exact Bool.noConfusion ((q4).symm.trans h)
      rename_i hN
      clear hN
      conv => whnf
      split
      rotate_left
      · rename_i h
        exact Bool.noConfusion ((q5).symm.trans h)
      rename_i hN
      clear hN
      conv => whnf
      split
      rotate_left
      · rename_i h
        exact Bool.noConfusion ((qi).symm.trans h)
      rename_i hN
      clear hN
      conv => whnf
      split
      · rename_i h
        exact Bool.noConfusion ((q6).symm.trans h)
      rename_i hN
      clear hN
      conv => whnf
      refine .mk (α := {i : Nat // i ≤ l.length ∧ ∀ b ∈ l.take i, dig b = true}) (fun i => ⟨[(7, .int .i64 i.1), (6, .int .i64 (valL (l.take i.1) : Nat)), (0, .str s)], [], up⟩) (fun i => l.length - i.1) ⟨0, Nat.zero_le _, (by simp)⟩ ⟨⟨leV_refl _, leV_refl _, leV_refl _, trivial⟩, trivial, rfl, rfl⟩ ?_
      rintro ⟨i, hi, hdg⟩
      have hiw : w64 ((i : Int) + 1) = ((i + 1 : Nat) : Int) := by rw [w64, wrap_in] <;> omega
      by_cases hlt : i < l.length
      rotate_left
      · have e : i = l.length := by omega
        subst e
        rw [List.take_length] at hdg
        have q : decide (((l.length : Nat) : Int) < s.size) = false := decide_eq_false (by omega)
        have hall : l.all dig = true := List.all_eq_true.2 hdg
        rw [hall, cond_true] at hR
        conv => whnf
        split
        · rename_i h
          exact Bool.noConfusion ((q).symm.trans h)
        rename_i hN
        clear hN
        conv => whnf
        refine ⟨?_, rfl⟩
        rw [hR]
        show IV.tup [.int .i64 (valL (l.take l.length) : Nat), .bool true] = _
        rw [List.take_length]
      have q : decide ((i : Int) < s.size) = true := decide_eq_true (by omega)
      obtain ⟨b, hb, hg⟩ := body i hlt
      have hall : dig b = false → R = (0, false) := fun h => by
        rw [hR]
        have : l.all dig = false := by
          cases h2 : l.all dig with
          | false => rfl
          | true => have := List.all_eq_true.1 h2 b (List.mem_of_getElem? hb); rw [h] at this; cases this
        rw [this]; rfl
      cases k1 : decide (((b.toNat : Nat) : Int) < 48) with
      | true =>
        have k1' : decide ((((s.data.toList.getD ((i : Nat) : Int).toNat 0).toNat : Nat) : Int) < 48) = true := by rw [hg]; exact k1
        have hd := hall (by cases hh : dig b with | false => rfl | true => have := dig_iff.1 hh; have := of_decide_eq_true k1; omega)
        rw [hd]
        conv => whnf
        split
        rotate_left
        · rename_i h
          exact Bool.noConfusion ((q).symm.trans h)
        rename_i hN
        clear hN
        conv => whnf
        split
        rotate_left
        · rename_i h
          exact Bool.noConfusion ((q).symm.trans h)
        rename_i hN
        clear hN
        conv => whnf
        split
        rotate_left
        · rename_i h
          exact Bool.noConfusion ((k1').symm.trans h)
        rename_i hN
        clear hN
        conv => whnf
        exact ⟨rfl, rfl⟩
      | false =>
      have k1' : decide ((((s.data.toList.getD ((i : Nat) : Int).toNat 0).toNat : Nat) : Int) < 48) = false := by rw [hg]; exact k1
      have n1 := of_decide_eq_false k1
      cases k2 : decide (((b.toNat : Nat) : Int) > 57) with
      | true =>
        have k2' : decide ((((s.data.toList.getD ((i : Nat) : Int).toNat 0).toNat : Nat) : Int) > 57) = true := by rw [hg]; exact k2
        have hd := hall (by cases hh : dig b with | false => rfl | true => have := dig_iff.1 hh; have := of_decide_eq_true k2; omega)
        rw [hd]
        conv => whnf
        split
        rotate_left
        · rename_i h
          exact Bool.noConfusion ((q).symm.trans h)
        rename_i hN
        clear hN
        conv => whnf
        split
        rotate_left
        · rename_i h
          exact Bool.noConfusion ((q).symm.trans h)
        rename_i hN
        clear hN
        conv => whnf
        split
        · rename_i h
          exact Bool.noConfusion ((k1').symm.trans h)
        rename_i hN
        clear hN
        conv => whnf
        split
        rotate_left
        · rename_i h
          exact Bool.noConfusion ((q).symm.trans h)
        rename_i hN
        clear hN
        conv => whnf
        split
        rotate_left
        · rename_i h
          exact Bool.noConfusion ((k2').symm.trans h)
        rename_i hN
        clear hN
        conv => whnf
        exact ⟨rfl, rfl⟩
      | false =>
      have k2' : decide ((((s.data.toList.getD ((i : Nat) : Int).toNat 0).toNat : Nat) : Int) > 57) = false := by rw [hg]; exact k2
      have n2 := of_decide_eq_false k2
      have hdb : dig b = true := dig_iff.2 ⟨by omega, by omega⟩
      have hbound := valL_lt 9 (l.take i) (by rw [List.length_take]; omega) hdg
      have hval := valL_take hb
      have e1 : w64 (w64 (10 * (valL (l.take i) : Nat)) + w64 (IntKind.u8.wrap ((((s.data.toList.getD ((i : Nat) : Int).toNat 0).toNat : Nat) : Int) - 48))) = (valL (l.take (i + 1)) : Nat) := by
        rw [hg, u8d (by omega) (by omega), hval]
        have : w64 (10 * ((valL (l.take i) : Nat) : Int)) = 10 * (valL (l.take i) : Nat) := by rw [w64, wrap_in] <;> omega
        rw [this]
        have : w64 (((b.toNat : Nat) : Int) - 48) = ((b.toNat : Nat) : Int) - 48 := by rw [w64, wrap_in] <;> omega
        rw [this, w64, wrap_in] <;> omega
      conv => whnf
      split
      rotate_left
      · rename_i h
        exact Bool.noConfusion ((q).symm.trans h)
      rename_i hN
      clear hN
      conv => whnf
      split
      rotate_left
      · rename_i h
        exact Bool.noConfusion ((q).symm.trans h)
      rename_i hN
      clear hN
      conv => whnf
      split
      · rename_i h
        exact Bool.noConfusion ((k1').symm.trans h)
      rename_i hN
      clear hN
      conv => whnf
      split
      rotate_left
      · rename_i h
        exact Bool.noConfusion ((q).symm.trans h)
      rename_i hN
      clear hN
      conv => whnf
      split
      · rename_i h
        exact Bool.noConfusion ((k2').symm.trans h)
      rename_i hN
      clear hN
      conv => whnf
      split
      rotate_left
      · rename_i h
        exact Bool.noConfusion ((q).symm.trans h)
      rename_i hN
      clear hN
      conv => whnf
      refine ⟨⟨i + 1, hlt, fun x hx => ?_⟩, ⟨⟨leV_int hiw, leV_int e1, leV_refl _, trivial⟩, trivial, rfl, rfl⟩, (by show l.length - (i + 1) < l.length - i; omega)⟩
      rw [List.take_add_one, hb] at hx
      rcases List.mem_append.1 hx with hx | hx
      · exact hdg x hx
      · simp at hx; rw [hx]; exact hdb
    | false =>
      refine mk h_nacelleref01_Number rfl rfl ?_
      conv => whnf
      split
      rotate_left
      · rename_i h
        exact Bool.noConfusion ((q1).symm.trans h)
      rename_i hN
      clear hN
      conv => whnf
      split
      rotate_left
      · rename_i h
        exact Bool.noConfusion ((qi).symm.trans h)
      rename_i hN
      clear hN
      conv => whnf
      split
      · rename_i h
        exact Bool.noConfusion ((q3).symm.trans h)
      rename_i hN
      clear hN
      conv => whnf
      split
      · rename_i h
        exact Bool.noConfusion ((q2).symm.trans h)
      rename_i hN
      clear hN
      conv => whnf
      split
      · rename_i h
        exact Bool.noConfusion ((q4).symm.trans h)
      rename_i hN
      clear hN
      conv => whnf
      split
      · rename_i h
        exact Bool.noConfusion ((q5).symm.trans h)
      rename_i hN
      clear hN
      conv => whnf
      refine .mk (α := {i : Nat // i ≤ l.length ∧ ∀ b ∈ l.take i, dig b = true}) (fun i => ⟨[(7, .int .i64 i.1), (6, .int .i64 (valL (l.take i.1) : Nat)), (0, .str s)], [], up⟩) (fun i => l.length - i.1) ⟨0, Nat.zero_le _, (by simp)⟩ ⟨⟨leV_refl _, leV_refl _, leV_refl _, trivial⟩, trivial, rfl, rfl⟩ ?_
      rintro ⟨i, hi, hdg⟩
      have hiw : w64 ((i : Int) + 1) = ((i + 1 : Nat) : Int) := by rw [w64, wrap_in] <;> omega
      by_cases hlt : i < l.length
      rotate_left
      · have e : i = l.length := by omega
        subst e
        rw [List.take_length] at hdg
        have q : decide (((l.length : Nat) : Int) < s.size) = false := decide_eq_false (by omega)
        have hall : l.all dig = true := List.all_eq_true.2 hdg
        rw [hall, cond_true] at hR
        conv => whnf
        split
        · rename_i h
          exact Bool.noConfusion ((q).symm.trans h)
        rename_i hN
        clear hN
        conv => whnf
        refine ⟨?_, rfl⟩
        rw [hR]
        show IV.tup [.int .i64 (valL (l.take l.length) : Nat), .bool true] = _
        rw [List.take_length]
      have q : decide ((i : Int) < s.size) = true := decide_eq_true (by omega)
      obtain ⟨b, hb, hg⟩ := body i hlt
      have hall : dig b = false → R = (0, false) := fun h => by
        rw [hR]
        have : l.all dig = false := by
          cases h2 : l.all dig with
          | false => rfl
          | true => have := List.all_eq_true.1 h2 b (List.mem_of_getElem? hb); rw [h] at this; cases this
        rw [this]; rfl
      cases k1 : decide (((b.toNat : Nat) : Int) < 48) with
      | true =>
        have k1' : decide ((((s.data.toList.getD ((i : Nat) : Int).toNat 0).toNat : Nat) : Int) < 48) = true := by rw [hg]; exact k1
        have hd := hall (by cases hh : dig b with | false => rfl | true => have := dig_iff.1 hh; have := of_decide_eq_true k1; omega)
        rw [hd]
        conv => whnf
        split
        rotate_left
        · rename_i h
          exact Bool.noConfusion ((q).symm.trans h)
        rename_i hN
        clear hN
        conv => whnf
        split
        rotate_left
        · rename_i h
          exact Bool.noConfusion ((q).symm.trans h)
        rename_i hN
        clear hN
        conv => whnf
        split
        rotate_left
        · rename_i h
          exact Bool.noConfusion ((k1').symm.trans h)
        rename_i hN
        clear hN
        conv => whnf
        exact ⟨rfl, rfl⟩
      | false =>
      have k1' : decide ((((s.data.toList.getD ((i : Nat) : Int).toNat 0).toNat : Nat) : Int) < 48) = false := by rw [hg]; exact k1
      have n1 := of_decide_eq_false k1
      cases k2 : decide (((b.toNat : Nat) : Int) > 57) with
      | true =>
        have k2' : decide ((((s.data.toList.getD ((i : Nat) : Int).toNat 0).toNat : Nat) : Int) > 57) = true := by rw [hg]; exact k2
        have hd := hall (by cases hh : dig b with | false => rfl | true => have := dig_iff.1 hh; have := of_decide_eq_true k2; omega)
        rw [hd]
        conv => whnf
        split
        rotate_left
        · rename_i h
          exact Bool.noConfusion ((q).symm.trans h)
        rename_i hN
        clear hN
        conv => whnf
        split
        rotate_left
        · rename_i h
          exact Bool.noConfusion ((q).symm.trans h)
        rename_i hN
        clear hN
        conv => whnf
        split
        · rename_i h
          exact Bool.noConfusion ((k1').symm.trans h)
        rename_i hN
        clear hN
        conv => whnf
        split
        rotate_left
        · rename_i h
          exact Bool.noConfusion ((q).symm.trans h)
        rename_i hN
        clear hN
        conv => whnf
        split
        rotate_left
        · rename_i h
          exact Bool.noConfusion ((k2').symm.trans h)
        rename_i hN
        clear hN
        conv => whnf
        exact ⟨rfl, rfl⟩
      | false =>
      have k2' : decide ((((s.data.toList.getD ((i : Nat) : Int).toNat 0).toNat : Nat) : Int) > 57) = false := by rw [hg]; exact k2
      have n2 := of_decide_eq_false k2
      have hdb : dig b = true := dig_iff.2 ⟨by omega, by omega⟩
      have hbound := valL_lt 9 (l.take i) (by rw [List.length_take]; omega) hdg
      have hval := valL_take hb
      have e1 : w64 (w64 (10 * (valL (l.take i) : Nat)) + w64 (IntKind.u8.wrap ((((s.data.toList.getD ((i : Nat) : Int).toNat 0).toNat : Nat) : Int) - 48))) = (valL (l.take (i + 1)) : Nat) := by
        rw [hg, u8d (by omega) (by omega), hval]
        have : w64 (10 * ((valL (l.take i) : Nat) : Int)) = 10 * (valL (l.take i) : Nat) := by rw [w64, wrap_in] <;> omega
        rw [this]
        have : w64 (((b.toNat : Nat) : Int) - 48) = ((b.toNat : Nat) : Int) - 48 := by rw [w64, wrap_in] <;> omega
        rw [this, w64, wrap_in] <;> omega
      conv => whnf
      split
      rotate_left
      · rename_i h
        exact Bool.noConfusion ((q).symm.trans h)
      rename_i hN
      clear hN
      conv => whnf
      split
      rotate_left
      · rename_i h
        exact Bool.noConfusion ((q).symm.trans h)
      rename_i hN
      clear hN
      conv => whnf
      split
      · rename_i h
        exact Bool.noConfusion ((k1').symm.trans h)
      rename_i hN
      clear hN
      conv => whnf
      split
      rotate_left
      · rename_i h
        exact Bool.noConfusion ((q).symm.trans h)
      rename_i hN
      clear hN
      conv => whnf
      split
      · rename_i h
        exact Bool.noConfusion ((k2').symm.trans h)
      rename_i hN
      clear hN
      conv => whnf
      split
      rotate_left
      · rename_i h
        exact Bool.noConfusion ((q).symm.trans h)
      rename_i hN
      clear hN
      conv => whnf
      refine ⟨⟨i + 1, hlt, fun x hx => ?_⟩, ⟨⟨leV_int hiw, leV_int e1, leV_refl _, trivial⟩, trivial, rfl, rfl⟩, (by show l.length - (i + 1) < l.length - i; omega)⟩
      rw [List.take_add_one, hb] at hx
      rcases List.mem_append.1 hx with hx | hx
      · exact hdg x hx
      · simp at hx; rw [hx]; exact hdb
  exact go _ rfl
theorem c_rNumber : ∀ (l : List UInt8), l.length ≤ 1000000000 → ∀ (up : List Ces), Cs gl n_nacelleref01_Number up [.str (bytesS l)] (.tup [.int .i64 (numR l).1, .bool (numR l).2]) up
  | [], hl, up => c_rNumber1 up [] hl (by decide)
  | c :: r, hl, up => by
    unfold numR
    cases hc : (c == 45) with
    | false =>
      rw [cond_false]
      exact c_rNumber1 up (c :: r) hl (by simpa using hc)
    | true =>
      have e : c = 45 := by simpa using hc
      subst e
      rw [cond_true]
      have ih := c_rNumber r (by simp at hl; omega)
      have hrng := numR_rng r
      obtain ⟨s, hs⟩ : ∃ s, s = bytesS (45 :: r) := ⟨_, rfl⟩
      have hsz : s.size = r.length + 1 := by rw [hs]; exact bytesS_size _
      have hdat : s.data.toList = 45 :: r := by rw [hs, bytesS_data]
      have q1 : decide ((s.size : Int) > 0) = true := decide_eq_true (by omega)
      have qi : decide ((0 : Int) < s.size) = true := decide_eq_true (by omega)
      have q3 : ((((s.data.toList.getD 0 0).toNat : Nat) : Int) == 45) = true := by rw [hdat]; rfl
      have q4 : decide ((1 : Int) ≤ s.size) = true := decide_eq_true (by omega)
      have q5 : decide ((s.size : Int) ≤ s.size) = true := decide_eq_true (Int.le_refl _)
      have ex : s.extract 1 (s.size : Int).toNat = bytesS r := by
        rw [Int.toNat_natCast, hs, extract_rest]; rfl
      have ih2 : ∀ up, Cs gl n_nacelleref01_Number up [.str (s.extract 1 (s.size : Int).toNat)] (.tup [.int .i64 (numR r).1, .bool (numR r).2]) up := fun up => by rw [ex]; exact ih up
      rw [← hs]
      obtain ⟨n, hn⟩ : ∃ n, n = (numR r).1 := ⟨_, rfl⟩
      obtain ⟨b, hb⟩ : ∃ b, b = (numR r).2 := ⟨_, rfl⟩
      rw [← hn, ← hb] at ih2 ⊢
      rw [← hn] at hrng
      have ew : IntKind.i64.wrap (0 - n) = -n := by rw [wrap_in] <;> omega
      cases b with
      | true =>
        refine mk h_nacelleref01_Number rfl rfl ?_
        conv => whnf
        split
        rotate_left
        · rename_i h
          exact Bool.noConfusion ((q1).symm.trans h)
        rename_i hN
        clear hN
        conv => whnf
        split
        rotate_left
        · rename_i h
          exact Bool.noConfusion ((qi).symm.trans h)
        rename_i hN
        clear hN
        conv => whnf
        split
        rotate_left
        · rename_i h
          exact Bool.noConfusion ((q3).symm.trans h)
        rename_i hN
        clear hN
        conv => whnf
        split
        rotate_left
        · rename_i h
          exact Bool.noConfusion ((q4).symm.trans h)
        rename_i hN
        clear hN
        conv => whnf
        split
        rotate_left
        · rename_i h
          exact Bool.noConfusion ((q5).symm.trans h)
        rename_i hN
        clear hN
        conv => whnf
        repeat first
          | (refine DRAW.seek ?_; repeat (first | refine TRYD.take ?_ | refine TRYD.next ?_); conv => whnf)
          | (refine HOLD.mk (by first | exact trivial | exact ⟨⟨rfl, rfl⟩, trivial⟩ | exact ⟨⟨rfl, rfl⟩, ⟨rfl, rfl⟩, trivial⟩) ?_; (conv => whnf))
          | (refine CALL0.by (ih2 ..) rfl ?_; conv => whnf)
          | (refine CALLQ.mk _ _ _ (leL_refl _) (ih2 ..) rfl ?_; conv => whnf)
        exact ⟨by rw [← ew]; rfl, rfl⟩
      | false =>
        refine mk h_nacelleref01_Number rfl rfl ?_
        conv => whnf
        split
        rotate_left
        · rename_i h
          exact Bool.noConfusion ((q1).symm.trans h)
        rename_i hN
        clear hN
        conv => whnf
        split
        rotate_left
        · rename_i h
          exact Bool.noConfusion ((qi).symm.trans h)
        rename_i hN
        clear hN
        conv => whnf
        split
        rotate_left
        · rename_i h
          exact Bool.noConfusion ((q3).symm.trans h)
        rename_i hN
        clear hN
        conv => whnf
        split
        rotate_left
        · rename_i h
          exact Bool.noConfusion ((q4).symm.trans h)
        rename_i hN
        clear hN
        conv => whnf
        split
        rotate_left
        · rename_i h
          exact Bool.noConfusion ((q5).symm.trans h)
        rename_i hN
        clear hN
        conv => whnf
        repeat first
          | (refine DRAW.seek ?_; repeat (first | refine TRYD.take ?_ | refine TRYD.next ?_); conv => whnf)
          | (refine HOLD.mk (by first | exact trivial | exact ⟨⟨rfl, rfl⟩, trivial⟩ | exact ⟨⟨rfl, rfl⟩, ⟨rfl, rfl⟩, trivial⟩) ?_; (conv => whnf))
          | (refine CALL0.by (ih2 ..) rfl ?_; conv => whnf)
          | (refine CALLQ.mk _ _ _ (leL_refl _) (ih2 ..) rfl ?_; conv => whnf)
        exact ⟨by rw [← ew]; rfl, rfl⟩
end Go.Proofs.YtkdlegfakefjgaaGreatDoor.Ix

namespace Go.Proofs.YtkdlegfakefjgaaGreatDoor.Ix
open Go.Proofs
set_option maxRecDepth 100000
set_option linter.unusedVariables false
set_option linter.unusedSimpArgs false
variable {gl : Nat → IV}
def SplI (c : UInt8) (l : List UInt8) (P : List (List UInt8)) (i f k : Nat) : Prop := (f ≤ i ∧ i ≤ l.length ∧ P.drop k = splitL c (l.drop f) ∧ ∀ j, f ≤ j → j < i → l[j]? ≠ some c) ∨ (i = l.length + 1 ∧ k = P.length)
theorem extract_mid (l : List UInt8) (a b : Nat) : (bytesS l).extract a b = bytesS ((l.drop a).take (b - a)) := by
  rw [Go.Lib.extract_eq]
theorem spl_end {c : UInt8} {l : List UInt8} {P : List (List UInt8)} {f k : Nat} (h : SplI c l P l.length f k) : f ≤ l.length ∧ P.getD k [] = (l.drop f).take (l.length - f) ∧ SplI c l P (l.length + 1) (l.length + 1) (k + 1) ∧ k < P.length := by
  rcases h with ⟨h1, h2, h3, h4⟩ | ⟨h1, _⟩
  rotate_left
  · omega
  have hn : c ∉ l.drop f := fun hm => by
    obtain ⟨j, hj⟩ := List.mem_iff_getElem?.1 hm
    rw [List.getElem?_drop] at hj
    have := (List.getElem?_eq_some_iff.1 hj).1
    exact h4 (f + j) (by omega) (by omega) hj
  rw [splitL_none hn] at h3
  obtain ⟨e1, e2, e3⟩ := drop_last h3
  refine ⟨h1, ?_, .inr ⟨rfl, by omega⟩, by omega⟩
  rw [e3, List.take_of_length_le (by rw [List.length_drop]; omega)]
theorem spl_hit {c : UInt8} {l : List UInt8} {P : List (List UInt8)} {i f k : Nat} (h : SplI c l P i f k) (hi : l[i]? = some c) : f ≤ i ∧ P.getD k [] = (l.drop f).take (i - f) ∧ SplI c l P (i + 1) (i + 1) (k + 1) ∧ k < P.length := by
  have hlt := (List.getElem?_eq_some_iff.1 hi).1
  rcases h with ⟨h1, h2, h3, h4⟩ | ⟨h1, _⟩
  rotate_left
  · omega
  have hs := splitL_hit (l := l.drop f) (i := i - f) (c := c) (by rw [List.getElem?_drop, show f + (i - f) = i by omega]; exact hi) (fun j hj hh => by
    rw [List.getElem?_drop] at hh
    exact h4 (f + j) (by omega) (by omega) hh)
  rw [List.drop_drop, show f + (i - f + 1) = i + 1 by omega] at hs
  rw [hs] at h3
  have hk : P[k]? = some ((l.drop f).take (i - f)) := by
    have : (P.drop k)[0]? = some ((l.drop f).take (i - f)) := by rw [h3]; rfl
    simpa using this
  have hd : P.drop (k + 1) = splitL c (l.drop (i + 1)) := by
    rw [← List.drop_drop, h3]; rfl
  refine ⟨h1, by rw [List.getD_eq_getElem?_getD, hk]; rfl, .inl ⟨Nat.le_refl _, hlt, hd, fun j h5 h6 => by omega⟩, (List.getElem?_eq_some_iff.1 hk).1⟩
theorem spl_miss {c : UInt8} {l : List UInt8} {P : List (List UInt8)} {i f k : Nat} (h : SplI c l P i f k) (hlt : i < l.length) (hi : l[i]? ≠ some c) : SplI c l P (i + 1) f k := by
  rcases h with ⟨h1, h2, h3, h4⟩ | ⟨h1, _⟩
  · refine .inl ⟨by omega, hlt, h3, fun j h5 h6 => ?_⟩
    rcases Nat.lt_or_ge j i with h7 | h7
    · exact h4 j h5 h7
    · rw [show j = i by omega]; exact hi
  · omega
set_option maxHeartbeats 8000000 in
theorem c_rSplit (up : List Ces) (l : List UInt8) (c : UInt8) (hl : l.length ≤ 1000000000) :
    Cs gl n_nacelleref01_Split up [.str (bytesS l), .int .u8 (c.toNat : Nat)] (.lst (some 31) 1 (splitL c l).length fun i => [.str (bytesS ((splitL c l).getD i []))]) up := by
  have hPl : (splitL c l).length ≤ l.length + 1 := by rw [splitL_len]; have := List.count_le_length (a := c) (l := l); omega
  obtain ⟨P, hP⟩ : ∃ P, P = splitL c l := ⟨_, rfl⟩
  rw [← hP] at hPl ⊢
  have hI0 : SplI c l P 0 0 0 := .inl ⟨Nat.le_refl _, Nat.zero_le _, by rw [hP]; rfl, fun j h1 h2 => by omega⟩
  obtain ⟨s, hs⟩ : ∃ s, s = bytesS l := ⟨_, rfl⟩
  have hsz : s.size = l.length := by rw [hs]; exact bytesS_size l
  have hdat : s.data.toList = l := by rw [hs, bytesS_data]
  have hex : ∀ (a b : Nat), s.extract ((a : Nat) : Int).toNat ((b : Nat) : Int).toNat = bytesS ((l.drop a).take (b - a)) := fun a b => by rw [Int.toNat_natCast, Int.toNat_natCast, hs, extract_mid]
  rw [← hs]
  let F : Nat → List IV := fun i => [.str (bytesS (P.getD i []))]
  refine mk h_nacelleref01_Split rfl rfl ?_
  conv => whnf
  refine .mk (α := {x : Nat × Nat × Nat // x.1 ≤ l.length + 1 ∧ SplI c l P x.1 x.2.1 x.2.2}) (fun x => ⟨[(7, .int .i64 x.1.1), (6, .int .i64 x.1.2.1), (5, .lst (some 31) 1 x.1.2.2 F), (1, .int .u8 (c.toNat : Nat)), (0, .str s)], [], up⟩) (fun x => l.length + 1 - x.1.1) ⟨(0, 0, 0), Nat.zero_le _, hI0⟩ ⟨?_, trivial, rfl, rfl⟩ ?_
  · exact ⟨leV_refl _, leV_refl _, rfl, leV_refl _, leV_refl _, trivial⟩
  rintro ⟨⟨i, f, k⟩, hi, hI⟩
  have hi : i ≤ l.length + 1 := hi
  have hI : SplI c l P i f k := hI
  have hiw : w64 ((i : Int) + 1) = ((i + 1 : Nat) : Int) := by rw [w64, wrap_in] <;> omega
  have q3 : decide ((i : Int) ≤ s.size) = true ∨ i = l.length + 1 := by
    by_cases h : i ≤ l.length
    · exact .inl (decide_eq_true (by omega))
    · exact .inr (by omega)
  rcases q3 with q | he
  rotate_left
  · have hk : k = P.length := by
      rcases hI with ⟨h1, h2, _⟩ | ⟨_, h⟩
      · omega
      · exact h
    have q : decide ((i : Int) ≤ s.size) = false := decide_eq_false (by omega)
    subst hk
    conv => whnf
    split
    · rename_i h
      exact Bool.noConfusion ((q).symm.trans h)
    rename_i hN
    clear hN
    conv => whnf
    exact ⟨rfl, rfl⟩
  have hil := of_decide_eq_true q
  have app : ∀ (piece : ByteArray), piece = bytesS (P.getD k []) → ∀ j, j < k + 1 → appF k F (litF 1 [.str piece]) j = F j := fun piece hp j hj => by
    show (if j < k then F j else litF 1 [.str piece] (j - k)) = F j
    split
    · rfl
    · have : j = k := by omega
      subst this
      rw [Nat.sub_self, hp]; rfl
  by_cases he : i = l.length
  · subst he
    obtain ⟨h1, h2, h3, h4⟩ := spl_end hI
    have q1 : (((l.length : Nat) : Int) == s.size) = true := by rw [beq_iff_eq]; omega
    have qa : decide (0 ≤ ((f : Nat) : Int)) = true := decide_eq_true (by omega)
    have qb : decide (((f : Nat) : Int) ≤ ((l.length : Nat) : Int)) = true := decide_eq_true (by omega)
    conv => whnf
    split
    rotate_left
    · rename_i h
      exact Bool.noConfusion ((q).symm.trans h)
    rename_i hN
    clear hN
    conv => whnf
    split
    rotate_left
    · rename_i h
      exact Bool.noConfusion ((q1).symm.trans h)
    rename_i hN
    clear hN
    conv => whnf
    split
    rotate_left
    · rename_i h
      exact Bool.noConfusion ((qb).symm.trans h)
    rename_i hN
    clear hN
    conv => whnf
    split
    rotate_left
    · rename_i h
      exact Bool.noConfusion ((q).symm.trans h)
    rename_i hN
    clear hN
    conv => whnf
    split
    rotate_left
    · rename_i h
      have h' : decide (k + 1 ≤ 1073741824) = false := h
      simp at h' <;> omega
    conv => whnf
    refine ⟨⟨(l.length + 1, l.length + 1, k + 1), Nat.le_refl _, h3⟩, ⟨⟨leV_int hiw, leV_int hiw, ⟨.inr rfl, rfl, rfl, app _ (by rw [h2]; exact hex f l.length)⟩, leV_refl _, leV_refl _, trivial⟩, trivial, rfl, rfl⟩, (by show l.length + 1 - (l.length + 1) < l.length + 1 - l.length; omega)⟩
  · have hlt : i < l.length := by omega
    have q1 : ((i : Int) == s.size) = false := by rw [beq_eq_false_iff_ne]; omega
    have q2 : decide ((i : Int) < s.size) = true := decide_eq_true (by omega)
    have hgi : s.data.toList.getD ((i : Nat) : Int).toNat 0 = l[i] := by
      rw [Int.toNat_natCast, hdat, List.getD_eq_getElem?_getD, List.getElem?_eq_getElem hlt]; rfl
    by_cases hc : l[i] = c
    · obtain ⟨h1, h2, h3, h4⟩ := spl_hit hI (by rw [List.getElem?_eq_getElem hlt, hc])
      have q4 : ((((s.data.toList.getD ((i : Nat) : Int).toNat 0).toNat : Nat) : Int) == (c.toNat : Nat)) = true := by rw [hgi, hc]; exact beq_self_eq_true _
      have qa : decide (0 ≤ ((f : Nat) : Int)) = true := decide_eq_true (by omega)
      have qb : decide (((f : Nat) : Int) ≤ ((i : Nat) : Int)) = true := decide_eq_true (by omega)
      conv => whnf
      split
      rotate_left
      · rename_i h
        exact Bool.noConfusion ((q).symm.trans h)
      rename_i hN
      clear hN
      conv => whnf
      split
      · rename_i h
        exact Bool.noConfusion ((q1).symm.trans h)
      rename_i hN
      clear hN
      conv => whnf
      split
      rotate_left
      · rename_i h
        exact Bool.noConfusion ((q2).symm.trans h)
      rename_i hN
      clear hN
      conv => whnf
      split
      rotate_left
      · rename_i h
        exact Bool.noConfusion ((q4).symm.trans h)
      rename_i hN
      clear hN
      conv => whnf
      split
      rotate_left
      · rename_i h
        exact Bool.noConfusion ((qb).symm.trans h)
      rename_i hN
      clear hN
      conv => whnf
      split
      rotate_left
      · rename_i h
        exact Bool.noConfusion ((q).symm.trans h)
      rename_i hN
      clear hN
      conv => whnf
      split
      rotate_left
      · rename_i h
        have h' : decide (k + 1 ≤ 1073741824) = false := h
        simp at h' <;> omega
      conv => whnf
      refine ⟨⟨(i + 1, i + 1, k + 1), (by show i + 1 ≤ l.length + 1; omega), h3⟩, ⟨⟨leV_int hiw, leV_int hiw, ⟨.inr rfl, rfl, rfl, app _ (by rw [h2]; exact hex f i)⟩, leV_refl _, leV_refl _, trivial⟩, trivial, rfl, rfl⟩, (by show l.length + 1 - (i + 1) < l.length + 1 - i; omega)⟩
    · have h3 := spl_miss hI hlt (by rw [List.getElem?_eq_getElem hlt]; exact fun e => hc (Option.some.inj e))
      have q4 : ((((s.data.toList.getD ((i : Nat) : Int).toNat 0).toNat : Nat) : Int) == (c.toNat : Nat)) = false := by
        rw [hgi, beq_eq_false_iff_ne]
        exact fun e => hc (UInt8.toNat_inj.1 (by omega))
      conv => whnf
      split
      rotate_left
      · rename_i h
        exact Bool.noConfusion ((q).symm.trans h)
      rename_i hN
      clear hN
      conv => whnf
      split
      · rename_i h
        exact Bool.noConfusion ((q1).symm.trans h)
      rename_i hN
      clear hN
      conv => whnf
      split
      rotate_left
      · rename_i h
        exact Bool.noConfusion ((q2).symm.trans h)
      rename_i hN
      clear hN
      conv => whnf
      split
      · rename_i h
        exact Bool.noConfusion ((q4).symm.trans h)
      rename_i hN
      clear hN
      conv => whnf
      exact ⟨⟨(i + 1, f, k), (by show i + 1 ≤ l.length + 1; omega), h3⟩, ⟨⟨leV_int hiw, leV_refl _, leV_refl _, leV_refl _, leV_refl _, trivial⟩, trivial, rfl, rfl⟩, (by show l.length + 1 - (i + 1) < l.length + 1 - i; omega)⟩
end Go.Proofs.YtkdlegfakefjgaaGreatDoor.Ix

namespace Go.Proofs.YtkdlegfakefjgaaGreatDoor.Ix
open Go.Proofs
set_option maxRecDepth 100000
set_option linter.unusedVariables false
set_option linter.unusedSimpArgs false
variable {gl : Nat → IV}
def Ac.e5p (a : Ac) : Int := orL [withinS a.wind 0 100, withinS a.pitch 0 100, withinS a.tor 0 100, withinS a.stuck (-1) 2, bif !a.formB then 2 else 0]
theorem checkE_split (a : Ac) : a.checkE 100 100 100 = orE (bif !hasW a.kind kindsL then 13 else 0) a.e5p := by
  unfold Ac.checkE Ac.e5p
  rw [has_idx _ _ 0 (Int.le_refl _)]
  simp only [orL, orE_right, orE_assoc]
set_option maxHeartbeats 8000000 in
theorem c_rCheckActs (up : List Ces) (n : Nat) (hn : n ≤ 10000000) (l : Nat → Ac) :
    Cs gl n_nacelleref05_CheckActs up [.lst none 5 n fun i => (l i).cs] (.int .i64 (actsE n l)) up := by
  refine mk h_nacelleref05_CheckActs rfl rfl ?_
  unfold actsE
  cases q0 : decide ((n : Int) > 1024) with
  | true =>
    conv => whnf
    split
    rotate_left
    · rename_i h
      exact Bool.noConfusion ((q0).symm.trans h)
    rename_i hN
    clear hN
    conv => whnf
    exact ⟨rfl, rfl⟩
  | false =>
  rw [cond_false]
  obtain ⟨E, hE⟩ : ∃ E : Nat → Int, E = fun i => (l i).checkE 100 100 100 := ⟨_, rfl⟩
  obtain ⟨R, hR⟩ : ∃ R, R = firstS E n 0 := ⟨_, rfl⟩
  rw [← hE, ← hR]
  conv => whnf
  split
  · rename_i h
    exact Bool.noConfusion ((q0).symm.trans h)
  rename_i hN
  clear hN
  conv => whnf
  refine .mk (α := {i : Nat // i ≤ n ∧ R = firstS E (n - i) i}) (fun i => ⟨[(3, .int .i64 i.1), (0, .lst none 5 n fun i => (l i).cs)], [], up⟩) (fun i => n - i.1) ⟨0, Nat.zero_le _, hR⟩ ⟨⟨leV_refl _, leV_refl _, trivial⟩, trivial, rfl, rfl⟩ ?_
  rintro ⟨i, hi, hr⟩
  have hiw : w64 ((i : Int) + 1) = ((i + 1 : Nat) : Int) := by rw [w64, wrap_in] <;> omega
  by_cases hin : i < n
  rotate_left
  · have q : decide ((i : Int) < n) = false := decide_eq_false (by omega)
    have hr2 : R = 0 := by rw [hr, show n - i = 0 by omega]; rfl
    conv => whnf
    split
    · rename_i h
      exact Bool.noConfusion ((q).symm.trans h)
    rename_i hN
    clear hN
    conv => whnf
    exact ⟨congrArg (fun z => IV.int .i64 z) hr2.symm, rfl⟩
  have q : decide ((i : Int) < n) = true := decide_eq_true (by omega)
  have hstep : R = bif E i != 0 then E i else firstS E (n - (i + 1)) (i + 1) := by
    rw [hr, show n - i = (n - (i + 1)) + 1 by omega]; rfl
  obtain ⟨a, ha⟩ : ∃ a, a = l i := ⟨_, rfl⟩
  have hEi : E i = orE (bif !hasW a.kind kindsL then 13 else 0) a.e5p := by rw [hE, ha]; exact checkE_split _
  have hH := fun up => c_rHas6 (gl := gl) up a.kind kindsF kindsF_at
  rw [ha] at hH
  cases qk : hasW a.kind kindsL with
  | false =>
    have e13 : E i = 13 := by rw [hEi, qk]; rfl
    rw [e13] at hstep
    rw [← ha, qk] at hH
    rw [ha] at hH
    have hr2 : R = 13 := hstep
    conv => whnf
    split
    rotate_left
    · rename_i h
      exact Bool.noConfusion ((q).symm.trans h)
    rename_i hN
    clear hN
    conv => whnf
    split
    rotate_left
    · rename_i h
      exact Bool.noConfusion ((q).symm.trans h)
    rename_i hN
    clear hN
    conv => whnf
    repeat first
      | (refine DRAW.seek ?_; repeat (first | refine TRYD.take ?_ | refine TRYD.next ?_); conv => whnf)
      | (refine HOLD.mk (by first | exact trivial | exact ⟨⟨rfl, rfl⟩, trivial⟩ | exact ⟨⟨rfl, rfl⟩, ⟨rfl, rfl⟩, trivial⟩) ?_; (conv => whnf))
      | (refine CALL0.by (c_rKinds ..) rfl ?_; conv => whnf)
      | (refine CALLQ.mk _ _ _ (leL_refl _) (c_rKinds ..) rfl ?_; conv => whnf)
      | (refine CALL0.by (hH ..) rfl ?_; conv => whnf)
      | (refine CALLQ.mk _ _ _ (leL_refl _) (hH ..) rfl ?_; conv => whnf)
    exact ⟨congrArg (fun z => IV.int .i64 z) hr2.symm, rfl⟩
  | true =>
    have e5 : E i = a.e5p := by rw [hEi, qk]; exact orE_no rfl
    rw [e5] at hstep
    rw [← ha, qk] at hH
    rw [ha] at hH hstep
    obtain ⟨e, he⟩ : ∃ e, e = (l i).e5p := ⟨_, rfl⟩
    rw [← he] at hstep
    have he' : orL [withinS (l i).wind 0 100, withinS (l i).pitch 0 100, withinS (l i).tor 0 100, withinS (l i).stuck (-1) 2, bif !(l i).formB then 2 else 0] = e := he.symm
    cases q1 : (e != 0) with
    | true =>
      have q1' : (orL [withinS (l i).wind 0 100, withinS (l i).pitch 0 100, withinS (l i).tor 0 100, withinS (l i).stuck (-1) 2, bif !(l i).formB then 2 else 0] != 0) = true := by rw [he']; exact q1
      rw [q1, cond_true] at hstep
      conv => whnf
      split
      rotate_left
      · rename_i h
        exact Bool.noConfusion ((q).symm.trans h)
      rename_i hN
      clear hN
      conv => whnf
      split
      rotate_left
      · rename_i h
        exact Bool.noConfusion ((q).symm.trans h)
      rename_i hN
      clear hN
      conv => whnf
      repeat first
        | (refine DRAW.seek ?_; repeat (first | refine TRYD.take ?_ | refine TRYD.next ?_); conv => whnf)
        | (refine HOLD.mk (by first | exact trivial | exact ⟨⟨rfl, rfl⟩, trivial⟩ | exact ⟨⟨rfl, rfl⟩, ⟨rfl, rfl⟩, trivial⟩) ?_; (conv => whnf))
        | (refine CALL0.by (c_rKinds ..) rfl ?_; conv => whnf)
        | (refine CALLQ.mk _ _ _ (leL_refl _) (c_rKinds ..) rfl ?_; conv => whnf)
        | (refine CALL0.by (hH ..) rfl ?_; conv => whnf)
        | (refine CALLQ.mk _ _ _ (leL_refl _) (hH ..) rfl ?_; conv => whnf)
      repeat first
        | (refine DRAW.seek ?_; repeat (first | refine TRYD.take ?_ | refine TRYD.next ?_); conv => whnf)
        | (refine HOLD.mk (by first | exact trivial | exact ⟨⟨rfl, rfl⟩, trivial⟩ | exact ⟨⟨rfl, rfl⟩, ⟨rfl, rfl⟩, trivial⟩) ?_; (conv => whnf))
        | (refine CALL0.by (c_CheckRange ..) rfl ?_; conv => whnf)
        | (refine CALLQ.mk _ _ _ (leL_refl _) (c_CheckRange ..) rfl ?_; conv => whnf)
        | (refine CALL0.by (c_rBlade ..) rfl ?_; conv => whnf)
        | (refine CALLQ.mk _ _ _ (leL_refl _) (c_rBlade ..) rfl ?_; conv => whnf)
        | (refine CALL0.by (c_rShape ..) rfl ?_; conv => whnf)
        | (refine CALLQ.mk _ _ _ (leL_refl _) (c_rShape ..) rfl ?_; conv => whnf)
      refine CALL0.by (c_rl5 _ _ _ _ _ _ _ rfl rfl rfl rfl rfl) rfl ?_
      conv => whnf
      split
      rotate_left
      · rename_i h
        exact Bool.noConfusion ((q1').symm.trans h)
      rename_i hN
      clear hN
      conv => whnf
      exact ⟨congrArg (fun z => IV.int .i64 z) (he'.trans hstep.symm), rfl⟩
    | false =>
      have q1' : (orL [withinS (l i).wind 0 100, withinS (l i).pitch 0 100, withinS (l i).tor 0 100, withinS (l i).stuck (-1) 2, bif !(l i).formB then 2 else 0] != 0) = false := by rw [he']; exact q1
      rw [q1, cond_false] at hstep
      conv => whnf
      split
      rotate_left
      · rename_i h
        exact Bool.noConfusion ((q).symm.trans h)
      rename_i hN
      clear hN
      conv => whnf
      split
      rotate_left
      · rename_i h
        exact Bool.noConfusion ((q).symm.trans h)
      rename_i hN
      clear hN
      conv => whnf
      repeat first
        | (refine DRAW.seek ?_; repeat (first | refine TRYD.take ?_ | refine TRYD.next ?_); conv => whnf)
        | (refine HOLD.mk (by first | exact trivial | exact ⟨⟨rfl, rfl⟩, trivial⟩ | exact ⟨⟨rfl, rfl⟩, ⟨rfl, rfl⟩, trivial⟩) ?_; (conv => whnf))
        | (refine CALL0.by (c_rKinds ..) rfl ?_; conv => whnf)
        | (refine CALLQ.mk _ _ _ (leL_refl _) (c_rKinds ..) rfl ?_; conv => whnf)
        | (refine CALL0.by (hH ..) rfl ?_; conv => whnf)
        | (refine CALLQ.mk _ _ _ (leL_refl _) (hH ..) rfl ?_; conv => whnf)
      repeat first
        | (refine DRAW.seek ?_; repeat (first | refine TRYD.take ?_ | refine TRYD.next ?_); conv => whnf)
        | (refine HOLD.mk (by first | exact trivial | exact ⟨⟨rfl, rfl⟩, trivial⟩ | exact ⟨⟨rfl, rfl⟩, ⟨rfl, rfl⟩, trivial⟩) ?_; (conv => whnf))
        | (refine CALL0.by (c_CheckRange ..) rfl ?_; conv => whnf)
        | (refine CALLQ.mk _ _ _ (leL_refl _) (c_CheckRange ..) rfl ?_; conv => whnf)
        | (refine CALL0.by (c_rBlade ..) rfl ?_; conv => whnf)
        | (refine CALLQ.mk _ _ _ (leL_refl _) (c_rBlade ..) rfl ?_; conv => whnf)
        | (refine CALL0.by (c_rShape ..) rfl ?_; conv => whnf)
        | (refine CALLQ.mk _ _ _ (leL_refl _) (c_rShape ..) rfl ?_; conv => whnf)
      refine CALL0.by (c_rl5 _ _ _ _ _ _ _ rfl rfl rfl rfl rfl) rfl ?_
      conv => whnf
      split
      · rename_i h
        exact Bool.noConfusion ((q1').symm.trans h)
      rename_i hN
      clear hN
      conv => whnf
      exact ⟨⟨i + 1, hin, hstep⟩, ⟨⟨leV_int hiw, leV_refl _, trivial⟩, trivial, rfl, rfl⟩, (by show n - (i + 1) < n - i; omega)⟩
theorem dec_step {u : Nat} (h : 10 ≤ u) : Go.Lib.decDigits u = Go.Lib.decDigits (u / 10) ++ Go.Lib.decDigits (u % 10) := by
  conv => lhs; rw [Go.Lib.decDigits]
  rw [dif_neg (by omega), Go.Lib.decDigits_one (i := u % 10) (by omega)]
theorem len21 {u : Nat} (h : u ≤ 1000000000000000000) : (Go.Lib.decDigits u).length ≤ 21 := by
  have := Go.Lib.itoa_length_le (u : Int) (by omega) (by omega)
  rw [Go.Lib.itoa_nonneg] at this
  exact this
theorem c_text1 (up : List Ces) (n : Nat) (h : n < 10) : Cs gl n_nacelleref01_Text up [.int .i64 n] (.str (bytesS (Go.Lib.decDigits n))) up := by
  have q1 : decide ((n : Int) > 9) = false := decide_eq_false (by omega)
  have q3 : decide ((n : Int) < 0) = false := decide_eq_false (by omega)
  have e : IntKind.u8.wrap (IntKind.i64.wrap (48 + (n : Int))) = 48 + (n : Int) := by
    have e1 : IntKind.i64.wrap (48 + (n : Int)) = 48 + (n : Int) := by rw [wrap_in] <;> omega
    rw [e1]
    unfold IntKind.wrap
    simp [IntKind.bits, IntKind.signed]
    omega
  have q4 : decide (0 ≤ IntKind.u8.wrap (IntKind.i64.wrap (48 + (n : Int)))) = true := decide_eq_true (by rw [e]; omega)
  have q5 : decide (IntKind.u8.wrap (IntKind.i64.wrap (48 + (n : Int))) < 256) = true := decide_eq_true (by rw [e]; omega)
  rw [Go.Lib.decDigits_one h]
  refine mk h_nacelleref01_Text rfl rfl ?_
  conv => whnf
  split
  · rename_i h
    exact Bool.noConfusion ((q1).symm.trans h)
  rename_i hN
  clear hN
  conv => whnf
  split
  rotate_left
  · rename_i h
    exact Bool.noConfusion ((q4).symm.trans h)
  rename_i hN
  clear hN
  conv => whnf
  split
  rotate_left
  · rename_i h
    exact Bool.noConfusion ((q5).symm.trans h)
  rename_i hN
  clear hN
  conv => whnf
  refine ⟨?_, rfl⟩
  show IV.str ⟨#[UInt8.ofNat (IntKind.u8.wrap (IntKind.i64.wrap (48 + (n : Int)))).toNat]⟩ = _
  rw [e, show (48 + (n : Int)).toNat = 48 + n by omega]
theorem c_text2 : ∀ (n : Nat), n ≤ 1000000000000000000 → ∀ up, Cs gl n_nacelleref01_Text up [.int .i64 n] (.str (bytesS (Go.Lib.decDigits n))) up := by
  intro n
  induction n using Nat.strongRecOn with
  | ind n ih =>
  intro hn up
  by_cases h : n < 10
  · exact c_text1 up n h
  have q1 : decide ((n : Int) > 9) = true := decide_eq_true (by omega)
  have e1 : w64 ((n : Int).tdiv 10) = ((n / 10 : Nat) : Int) := by
    rw [Int.tdiv_eq_ediv_of_nonneg (by omega), w64, wrap_in] <;> omega
  have e2 : (n : Int).tmod 10 = ((n % 10 : Nat) : Int) := by
    rw [Int.tmod_eq_emod_of_nonneg (by omega)]; omega
  have h1 := ih (n / 10) (by omega) (by omega)
  have h2 := fun up => c_text1 (gl := gl) up (n % 10) (by omega)
  rw [← e1] at h1
  rw [← e2] at h2
  have l1 := len21 (u := n / 10) (by omega)
  have l2 := len21 (u := n % 10) (by omega)
  have q2 : decide ((bytesS (Go.Lib.decDigits (n / 10))).size + (bytesS (Go.Lib.decDigits (n % 10))).size ≤ 1099511627776) = true := decide_eq_true (by rw [bytesS_size, bytesS_size]; omega)
  rw [dec_step (u := n) (by omega), ← bytesS_append]
  refine mk h_nacelleref01_Text rfl rfl ?_
  conv => whnf
  split
  rotate_left
  · rename_i h
    exact Bool.noConfusion ((q1).symm.trans h)
  rename_i hN
  clear hN
  conv => whnf
  repeat first
    | (refine DRAW.seek ?_; repeat (first | refine TRYD.take ?_ | refine TRYD.next ?_); conv => whnf)
    | (refine HOLD.mk (by first | exact trivial | exact ⟨⟨rfl, rfl⟩, trivial⟩ | exact ⟨⟨rfl, rfl⟩, ⟨rfl, rfl⟩, trivial⟩) ?_; (conv => whnf))
    | (refine CALL0.by (h1 ..) rfl ?_; conv => whnf)
    | (refine CALLQ.mk _ _ _ (leL_refl _) (h1 ..) rfl ?_; conv => whnf)
  repeat first
    | (refine DRAW.seek ?_; repeat (first | refine TRYD.take ?_ | refine TRYD.next ?_); conv => whnf)
    | (refine HOLD.mk (by first | exact trivial | exact ⟨⟨rfl, rfl⟩, trivial⟩ | exact ⟨⟨rfl, rfl⟩, ⟨rfl, rfl⟩, trivial⟩) ?_; (conv => whnf))
    | (refine CALL0.by (h2 ..) rfl ?_; conv => whnf)
    | (refine CALLQ.mk _ _ _ (leL_refl _) (h2 ..) rfl ?_; conv => whnf)
  split
  rotate_left
  · rename_i h
    exact Bool.noConfusion ((q2).symm.trans h)
  rename_i hN
  clear hN
  conv => whnf
  exact ⟨rfl, rfl⟩
theorem c_text3 : ∀ (n : Nat), 1 ≤ n → n ≤ 1000000000000000000 → ∀ up, Cs gl n_nacelleref01_Text up [.int .i64 (-(n : Int))] (.str (bytesS (45 :: Go.Lib.decDigits n))) up := by
  intro n
  induction n using Nat.strongRecOn with
  | ind n ih =>
  intro h0 hn up
  have q1 : decide (-(n : Int) > 9) = false := decide_eq_false (by omega)
  by_cases h : n < 10
  · have q2 : decide (-(n : Int) < -9) = false := decide_eq_false (by omega)
    have q3 : decide (-(n : Int) < 0) = true := decide_eq_true (by omega)
    have e1 : w64 (0 - -(n : Int)) = n := by rw [w64, wrap_in] <;> omega
    have h1 := fun up => c_text1 (gl := gl) up n h
    rw [← e1] at h1
    have l1 := len21 (u := n) (by omega)
    have q4 : decide ((bytesS [45]).size + (bytesS (Go.Lib.decDigits n)).size ≤ 1099511627776) = true := decide_eq_true (by rw [bytesS_size, bytesS_size]; simp; omega)
    rw [show (45 : UInt8) :: Go.Lib.decDigits n = [45] ++ Go.Lib.decDigits n from rfl, ← bytesS_append]
    refine mk h_nacelleref01_Text rfl rfl ?_
    conv => whnf
    split
    · rename_i h
      exact Bool.noConfusion ((q1).symm.trans h)
    rename_i hN
    clear hN
    conv => whnf
    split
    · rename_i h
      exact Bool.noConfusion ((q2).symm.trans h)
    rename_i hN
    clear hN
    conv => whnf
    split
    rotate_left
    · rename_i h
      exact Bool.noConfusion ((q3).symm.trans h)
    rename_i hN
    clear hN
    conv => whnf
    repeat first
      | (refine DRAW.seek ?_; repeat (first | refine TRYD.take ?_ | refine TRYD.next ?_); conv => whnf)
      | (refine HOLD.mk (by first | exact trivial | exact ⟨⟨rfl, rfl⟩, trivial⟩ | exact ⟨⟨rfl, rfl⟩, ⟨rfl, rfl⟩, trivial⟩) ?_; (conv => whnf))
      | (refine CALL0.by (h1 ..) rfl ?_; conv => whnf)
      | (refine CALLQ.mk _ _ _ (leL_refl _) (h1 ..) rfl ?_; conv => whnf)
    split
    rotate_left
    · rename_i h
      exact Bool.noConfusion ((q4).symm.trans h)
    rename_i hN
    clear hN
    conv => whnf
    exact ⟨rfl, rfl⟩
  · have q2 : decide (-(n : Int) < -9) = true := decide_eq_true (by omega)
    have e1 : w64 ((-(n : Int)).tdiv 10) = -((n / 10 : Nat) : Int) := by
      rw [Int.neg_tdiv, Int.tdiv_eq_ediv_of_nonneg (by omega), w64, wrap_in] <;> omega
    have e2 : w64 (0 - (-(n : Int)).tmod 10) = ((n % 10 : Nat) : Int) := by
      rw [Int.neg_tmod, Int.tmod_eq_emod_of_nonneg (by omega), w64, wrap_in] <;> omega
    have h1 := ih (n / 10) (by omega) (by omega) (by omega)
    have h2 := fun up => c_text1 (gl := gl) up (n % 10) (by omega)
    rw [← e1] at h1
    rw [← e2] at h2
    have l1 := len21 (u := n / 10) (by omega)
    have l2 := len21 (u := n % 10) (by omega)
    have q4 : decide ((bytesS (45 :: Go.Lib.decDigits (n / 10))).size + (bytesS (Go.Lib.decDigits (n % 10))).size ≤ 1099511627776) = true := decide_eq_true (by rw [bytesS_size, bytesS_size]; simp; omega)
    rw [dec_step (u := n) (by omega), ← List.cons_append, ← bytesS_append]
    refine mk h_nacelleref01_Text rfl rfl ?_
    conv => whnf
    split
    · rename_i h
      exact Bool.noConfusion ((q1).symm.trans h)
    rename_i hN
    clear hN
    conv => whnf
    split
    rotate_left
    · rename_i h
      exact Bool.noConfusion ((q2).symm.trans h)
    rename_i hN
    clear hN
    conv => whnf
    repeat first
      | (refine DRAW.seek ?_; repeat (first | refine TRYD.take ?_ | refine TRYD.next ?_); conv => whnf)
      | (refine HOLD.mk (by first | exact trivial | exact ⟨⟨rfl, rfl⟩, trivial⟩ | exact ⟨⟨rfl, rfl⟩, ⟨rfl, rfl⟩, trivial⟩) ?_; (conv => whnf))
      | (refine CALL0.by (h1 ..) rfl ?_; conv => whnf)
      | (refine CALLQ.mk _ _ _ (leL_refl _) (h1 ..) rfl ?_; conv => whnf)
    repeat first
      | (refine DRAW.seek ?_; repeat (first | refine TRYD.take ?_ | refine TRYD.next ?_); conv => whnf)
      | (refine HOLD.mk (by first | exact trivial | exact ⟨⟨rfl, rfl⟩, trivial⟩ | exact ⟨⟨rfl, rfl⟩, ⟨rfl, rfl⟩, trivial⟩) ?_; (conv => whnf))
      | (refine CALL0.by (h2 ..) rfl ?_; conv => whnf)
      | (refine CALLQ.mk _ _ _ (leL_refl _) (h2 ..) rfl ?_; conv => whnf)
    split
    rotate_left
    · rename_i h
      exact Bool.noConfusion ((q4).symm.trans h)
    rename_i hN
    clear hN
    conv => whnf
    exact ⟨rfl, rfl⟩
theorem c_rText (up : List Ces) (n : Int) (h0 : -1000000000000000000 ≤ n) (h1 : n ≤ 1000000000000000000) : Cs gl n_nacelleref01_Text up [.int .i64 n] (.str (bytesS (Go.Lib.itoa n))) up := by
  by_cases h : n < 0
  · have := c_text3 (gl := gl) n.natAbs (by omega) (by omega) up
    rw [show -((n.natAbs : Nat) : Int) = n by omega] at this
    unfold Go.Lib.itoa
    rw [if_pos h]; exact this
  · have := c_text2 (gl := gl) n.toNat (by omega) up
    rw [show ((n.toNat : Nat) : Int) = n by omega] at this
    unfold Go.Lib.itoa
    rw [if_neg h]; exact this
theorem itoa21 (n : Int) (h : i64 n) : (Go.Lib.itoa n).length ≤ 21 := Go.Lib.itoa_length_le n h.1 h.2
theorem c_rbladeS (up : List Ces) (a : Ac) (h : -1 ≤ a.stuck ∧ a.stuck ≤ 1000) : Cs gl n_nacelleref05_blade up [.int .i64 a.stuck] (.str (bytesS a.blade)) up := by
  refine mk h_nacelleref05_blade rfl rfl ?_
  unfold Ac.blade
  have hT := fun up => c_rText (gl := gl) up a.stuck (by omega) (by omega)
  cases q : (a.stuck == -1) with
  | true =>
    have q2 : (a.stuck != -1) = false := by rw [bne, q]; rfl
    rw [q2]
    conv => whnf
    split
    rotate_left
    · rename_i h
      exact Bool.noConfusion ((q).symm.trans h)
    rename_i hN
    clear hN
    conv => whnf
    exact ⟨rfl, rfl⟩
  | false =>
    have q2 : (a.stuck != -1) = true := by rw [bne, q]; rfl
    rw [q2]
    conv => whnf
    split
    · rename_i h
      exact Bool.noConfusion ((q).symm.trans h)
    rename_i hN
    clear hN
    conv => whnf
    repeat first
      | (refine DRAW.seek ?_; repeat (first | refine TRYD.take ?_ | refine TRYD.next ?_); conv => whnf)
      | (refine HOLD.mk (by first | exact trivial | exact ⟨⟨rfl, rfl⟩, trivial⟩ | exact ⟨⟨rfl, rfl⟩, ⟨rfl, rfl⟩, trivial⟩) ?_; (conv => whnf))
      | (refine CALL0.by (hT ..) rfl ?_; conv => whnf)
      | (refine CALLQ.mk _ _ _ (leL_refl _) (hT ..) rfl ?_; conv => whnf)
    exact ⟨rfl, rfl⟩
set_option maxHeartbeats 16000000 in
theorem c_rPrintActs (up : List Ces) (n : Nat) (l : Nat → Ac) (h0 : actsE n l = 0) :
    Cs gl n_nacelleref05_Print up [.lst none 5 n fun i => (l i).cs] (.str (bytesS (actsS l n))) up := by
  obtain ⟨hn, hok⟩ := actsE_ok h0
  refine mk h_nacelleref05_Print rfl rfl ?_
  conv => whnf
  refine .mk (α := {i : Nat // i ≤ n}) (fun i => ⟨[(4, .int .i64 i.1), (3, .str (bytesS (actsS l i.1))), (0, .lst none 5 n fun i => (l i).cs)], [], up⟩) (fun i => n - i.1) ⟨0, Nat.zero_le _⟩ ⟨⟨leV_refl _, leV_refl _, leV_refl _, trivial⟩, trivial, rfl, rfl⟩ ?_
  rintro ⟨i, hi⟩
  have hiw : w64 ((i : Int) + 1) = ((i + 1 : Nat) : Int) := by rw [w64, wrap_in] <;> omega
  by_cases hin : i < n
  rotate_left
  · have q : decide ((i : Int) < n) = false := decide_eq_false (by omega)
    have e : i = n := by omega
    subst e
    conv => whnf
    split
    · rename_i h
      exact Bool.noConfusion ((q).symm.trans h)
    rename_i hN
    clear hN
    conv => whnf
    exact ⟨rfl, rfl⟩
  have q : decide ((i : Int) < n) = true := decide_eq_true (by omega)
  have hA := hok i hin
  have hw := hA.wind
  have hp := hA.pitch
  have ht := hA.tor
  have hst := hA.stuck
  have t1 := fun up => c_rText (gl := gl) up (l i).wind (by omega) (by omega)
  have t2 := fun up => c_rText (gl := gl) up (l i).pitch (by omega) (by omega)
  have t3 := fun up => c_rText (gl := gl) up (l i).tor (by omega) (by omega)
  have t4 := fun up => c_rbladeS (gl := gl) up (l i) (by omega)
  have l0 := actsS_len i (fun j hj => hok j (by omega))
  have l1 := itoa21 (l i).wind (by unfold i64; omega)
  have l2 := itoa21 (l i).pitch (by unfold i64; omega)
  have l3 := itoa21 (l i).tor (by unfold i64; omega)
  have l4 : (l i).blade.length ≤ 21 := by
    unfold Ac.blade
    cases ((l i).stuck != -1)
    · simp
    · exact itoa21 _ (by unfold i64; omega)
  have l5 : (l i).kind.size ≤ 10 := by
    have := kind_len hA.kind
    rw [Go.Lib.size_eq]; omega
  obtain ⟨s, hs⟩ : ∃ s, s = actsS l i := ⟨_, rfl⟩
  rw [← hs] at l0
  have o32 : (ByteArray.mk #[32]).size = 1 := rfl
  have o10 : (ByteArray.mk #[10]).size = 1 := rfl
  have z0 : decide ((bytesS s).size + ((l i).kind).size ≤ 1099511627776) = true := decide_eq_true (by simp only [ByteArray.size_append, bytesS_size, o32, o10]; omega)
  have z1 : decide ((bytesS s ++ (l i).kind).size + ((ByteArray.mk #[32])).size ≤ 1099511627776) = true := decide_eq_true (by simp only [ByteArray.size_append, bytesS_size, o32, o10]; omega)
  have z2 : decide ((bytesS s ++ (l i).kind ++ (ByteArray.mk #[32])).size + (bytesS (Go.Lib.itoa (l i).wind)).size ≤ 1099511627776) = true := decide_eq_true (by simp only [ByteArray.size_append, bytesS_size, o32, o10]; omega)
  have z3 : decide ((bytesS s ++ (l i).kind ++ (ByteArray.mk #[32]) ++ bytesS (Go.Lib.itoa (l i).wind)).size + ((ByteArray.mk #[32])).size ≤ 1099511627776) = true := decide_eq_true (by simp only [ByteArray.size_append, bytesS_size, o32, o10]; omega)
  have z4 : decide ((bytesS s ++ (l i).kind ++ (ByteArray.mk #[32]) ++ bytesS (Go.Lib.itoa (l i).wind) ++ (ByteArray.mk #[32])).size + (bytesS (Go.Lib.itoa (l i).pitch)).size ≤ 1099511627776) = true := decide_eq_true (by simp only [ByteArray.size_append, bytesS_size, o32, o10]; omega)
  have z5 : decide ((bytesS s ++ (l i).kind ++ (ByteArray.mk #[32]) ++ bytesS (Go.Lib.itoa (l i).wind) ++ (ByteArray.mk #[32]) ++ bytesS (Go.Lib.itoa (l i).pitch)).size + ((ByteArray.mk #[32])).size ≤ 1099511627776) = true := decide_eq_true (by simp only [ByteArray.size_append, bytesS_size, o32, o10]; omega)
  have z6 : decide ((bytesS s ++ (l i).kind ++ (ByteArray.mk #[32]) ++ bytesS (Go.Lib.itoa (l i).wind) ++ (ByteArray.mk #[32]) ++ bytesS (Go.Lib.itoa (l i).pitch) ++ (ByteArray.mk #[32])).size + (bytesS (Go.Lib.itoa (l i).tor)).size ≤ 1099511627776) = true := decide_eq_true (by simp only [ByteArray.size_append, bytesS_size, o32, o10]; omega)
  have z7 : decide ((bytesS s ++ (l i).kind ++ (ByteArray.mk #[32]) ++ bytesS (Go.Lib.itoa (l i).wind) ++ (ByteArray.mk #[32]) ++ bytesS (Go.Lib.itoa (l i).pitch) ++ (ByteArray.mk #[32]) ++ bytesS (Go.Lib.itoa (l i).tor)).size + ((ByteArray.mk #[32])).size ≤ 1099511627776) = true := decide_eq_true (by simp only [ByteArray.size_append, bytesS_size, o32, o10]; omega)
  have z8 : decide ((bytesS s ++ (l i).kind ++ (ByteArray.mk #[32]) ++ bytesS (Go.Lib.itoa (l i).wind) ++ (ByteArray.mk #[32]) ++ bytesS (Go.Lib.itoa (l i).pitch) ++ (ByteArray.mk #[32]) ++ bytesS (Go.Lib.itoa (l i).tor) ++ (ByteArray.mk #[32])).size + (bytesS (l i).blade).size ≤ 1099511627776) = true := decide_eq_true (by simp only [ByteArray.size_append, bytesS_size, o32, o10]; omega)
  have z9 : decide ((bytesS s ++ (l i).kind ++ (ByteArray.mk #[32]) ++ bytesS (Go.Lib.itoa (l i).wind) ++ (ByteArray.mk #[32]) ++ bytesS (Go.Lib.itoa (l i).pitch) ++ (ByteArray.mk #[32]) ++ bytesS (Go.Lib.itoa (l i).tor) ++ (ByteArray.mk #[32]) ++ bytesS (l i).blade).size + ((ByteArray.mk #[10])).size ≤ 1099511627776) = true := decide_eq_true (by simp only [ByteArray.size_append, bytesS_size, o32, o10]; omega)
  have hfin : bytesS s ++ (l i).kind ++ ⟨#[32]⟩ ++ bytesS (Go.Lib.itoa (l i).wind) ++ ⟨#[32]⟩ ++ bytesS (Go.Lib.itoa (l i).pitch) ++ ⟨#[32]⟩ ++ bytesS (Go.Lib.itoa (l i).tor) ++ ⟨#[32]⟩ ++ bytesS (l i).blade ++ ⟨#[10]⟩ = bytesS (actsS l (i + 1)) := by
    show _ = bytesS (actsS l i ++ (l i).line)
    rw [← hs]
    unfold Ac.line
    rw [← bytesS_mk (l i).kind]
    rw [show (ByteArray.mk #[32]) = bytesS [32] from rfl, show (ByteArray.mk #[10]) = bytesS [10] from rfl]
    simp only [bytesS_append, bytesS_data]
    congr 1
    simp
  show iwp _ _ _ _ ⟨[(4, .int .i64 i), (3, .str (bytesS (actsS l i))), (0, .lst none 5 n fun i => (l i).cs)], [], up⟩
  rw [← hs]
  conv => whnf
  split
  rotate_left
  · rename_i h
    exact Bool.noConfusion ((q).symm.trans h)
  rename_i hN
  clear hN
  conv => whnf
  refine DRAW.seek ?_
  repeat (first | refine TRYD.take ?_ | refine TRYD.next ?_)
  conv => whnf
  split
  rotate_left
  · rename_i h
    exact Bool.noConfusion ((q).symm.trans h)
  rename_i hN
  clear hN
  conv => whnf
  split
  rotate_left
  · rename_i h
    exact Bool.noConfusion ((z0).symm.trans h)
  rename_i hN
  clear hN
  conv => whnf
  split
  rotate_left
  · rename_i h
    exact Bool.noConfusion ((z1).symm.trans h)
  rename_i hN
  clear hN
  conv => whnf
  split
  rotate_left
  · rename_i h
    exact Bool.noConfusion ((q).symm.trans h)
  rename_i hN
  clear hN
  conv => whnf
  repeat first
    | (refine DRAW.seek ?_; repeat (first | refine TRYD.take ?_ | refine TRYD.next ?_); conv => whnf)
    | (refine HOLD.mk (by first | exact trivial | exact ⟨⟨rfl, rfl⟩, trivial⟩ | exact ⟨⟨rfl, rfl⟩, ⟨rfl, rfl⟩, trivial⟩) ?_; (conv => whnf))
    | (refine CALL0.by (t1 ..) rfl ?_; conv => whnf)
    | (refine CALLQ.mk _ _ _ (leL_refl _) (t1 ..) rfl ?_; conv => whnf)
  split
  rotate_left
  · rename_i h
    exact Bool.noConfusion ((z2).symm.trans h)
  rename_i hN
  clear hN
  conv => whnf
  split
  rotate_left
  · rename_i h
    exact Bool.noConfusion ((z3).symm.trans h)
  rename_i hN
  clear hN
  conv => whnf
  split
  rotate_left
  · rename_i h
    exact Bool.noConfusion ((q).symm.trans h)
  rename_i hN
  clear hN
  conv => whnf
  repeat first
    | (refine DRAW.seek ?_; repeat (first | refine TRYD.take ?_ | refine TRYD.next ?_); conv => whnf)
    | (refine HOLD.mk (by first | exact trivial | exact ⟨⟨rfl, rfl⟩, trivial⟩ | exact ⟨⟨rfl, rfl⟩, ⟨rfl, rfl⟩, trivial⟩) ?_; (conv => whnf))
    | (refine CALL0.by (t2 ..) rfl ?_; conv => whnf)
    | (refine CALLQ.mk _ _ _ (leL_refl _) (t2 ..) rfl ?_; conv => whnf)
  split
  rotate_left
  · rename_i h
    exact Bool.noConfusion ((z4).symm.trans h)
  rename_i hN
  clear hN
  conv => whnf
  split
  rotate_left
  · rename_i h
    exact Bool.noConfusion ((z5).symm.trans h)
  rename_i hN
  clear hN
  conv => whnf
  split
  rotate_left
  · rename_i h
    exact Bool.noConfusion ((q).symm.trans h)
  rename_i hN
  clear hN
  conv => whnf
  repeat first
    | (refine DRAW.seek ?_; repeat (first | refine TRYD.take ?_ | refine TRYD.next ?_); conv => whnf)
    | (refine HOLD.mk (by first | exact trivial | exact ⟨⟨rfl, rfl⟩, trivial⟩ | exact ⟨⟨rfl, rfl⟩, ⟨rfl, rfl⟩, trivial⟩) ?_; (conv => whnf))
    | (refine CALL0.by (t3 ..) rfl ?_; conv => whnf)
    | (refine CALLQ.mk _ _ _ (leL_refl _) (t3 ..) rfl ?_; conv => whnf)
  split
  rotate_left
  · rename_i h
    exact Bool.noConfusion ((z6).symm.trans h)
  rename_i hN
  clear hN
  conv => whnf
  split
  rotate_left
  · rename_i h
    exact Bool.noConfusion ((z7).symm.trans h)
  rename_i hN
  clear hN
  conv => whnf
  split
  rotate_left
  · rename_i h
    exact Bool.noConfusion ((q).symm.trans h)
  rename_i hN
  clear hN
  conv => whnf
  repeat first
    | (refine DRAW.seek ?_; repeat (first | refine TRYD.take ?_ | refine TRYD.next ?_); conv => whnf)
    | (refine HOLD.mk (by first | exact trivial | exact ⟨⟨rfl, rfl⟩, trivial⟩ | exact ⟨⟨rfl, rfl⟩, ⟨rfl, rfl⟩, trivial⟩) ?_; (conv => whnf))
    | (refine CALL0.by (t4 ..) rfl ?_; conv => whnf)
    | (refine CALLQ.mk _ _ _ (leL_refl _) (t4 ..) rfl ?_; conv => whnf)
  split
  rotate_left
  · rename_i h
    exact Bool.noConfusion ((z8).symm.trans h)
  rename_i hN
  clear hN
  conv => whnf
  split
  rotate_left
  · rename_i h
    exact Bool.noConfusion ((z9).symm.trans h)
  rename_i hN
  clear hN
  conv => whnf
  exact ⟨⟨i + 1, hin⟩, ⟨⟨leV_int hiw, congrArg IV.str hfin, leV_refl _, trivial⟩, trivial, rfl, rfl⟩, (by show n - (i + 1) < n - i; omega)⟩
end Go.Proofs.YtkdlegfakefjgaaGreatDoor.Ix

namespace Go.Proofs.YtkdlegfakefjgaaGreatDoor.Ix
open Go.Proofs
set_option maxRecDepth 100000
set_option linter.unusedVariables false
set_option linter.unusedSimpArgs false
variable {gl : Nat → IV}
noncomputable def parseT (t : Nat) (P : List (List UInt8)) : IV :=
  let b := fb (lineG P) (linesN P) 0
  bif decide (b < linesN P) then .tup [.nilS, .int .i64 b, .int .i64 26] else
  bif actsE (linesN P) (fun k => (lineA P k).1) != 0 then .tup [.nilS, .int .i64 (linesN P), .int .i64 (actsE (linesN P) fun k => (lineA P k).1)] else
  .tup [.lst (some t) 5 (linesN P) fun k => (lineA P k).1.cs, .int .i64 0, .int .i64 0]
theorem parseT_eq (P : List (List UInt8)) : parseR P = parseT 39 P := rfl
theorem c_rHas4 (up : List Ces) (x : ByteArray) : Cs gl n_nacelleref01_HasWord up [.lst none 1 4 (litF 1 [.str bladeN, .str blade0, .str blade1, .str blade2]), .str x] (.bool (hasW x [bladeN, blade0, blade1, blade2])) up := by
  refine Comp.le ?_ (c_rHas (gl := gl) up [bladeN, blade0, blade1, blade2] (by decide) x)
  refine ⟨⟨.inl rfl, rfl, rfl, fun i hi => ?_⟩, leV_refl _, trivial⟩
  match i, hi with
  | 0, _ => rfl
  | 1, _ => rfl
  | 2, _ => rfl
  | 3, _ => rfl
theorem getLastD_getD (P : List (List UInt8)) (h : 1 ≤ P.length) : P.getLastD [] = P.getD (P.length - 1) [] := by
  rw [List.getLastD_eq_getLast?, List.getLast?_eq_getElem?, List.getD_eq_getElem?_getD]
theorem eqS_no {a b : ByteArray} (h : a ≠ b) : eqS a b = false := by
  cases q : eqS a b with
  | false => rfl
  | true => exact absurd (eqS_iff.1 q) h
theorem blade_word (w : List UInt8) (h : eqS (bytesS w) bladeN = false) (hh : hasW (bytesS w) [bladeN, blade0, blade1, blade2] = true) : (numR w).1 = idxS (bytesS w) [blade0, blade1, blade2] 0 := by
  have hb : ∀ (x : UInt8), bytesS w = ⟨#[x]⟩ → w = [x] := fun x e => by
    have := congrArg (fun s : ByteArray => s.data.toList) e
    simpa using this
  rw [has_idx _ _ 0 (Int.le_refl _)] at hh
  have hm := idxS_mem (Int.le_refl _) (of_decide_eq_true hh)
  simp only [List.mem_cons, List.not_mem_nil, or_false] at hm
  have e00 : eqS blade0 blade0 = true := eqS_iff.2 rfl
  have e11 : eqS blade1 blade1 = true := eqS_iff.2 rfl
  have e22 : eqS blade2 blade2 = true := eqS_iff.2 rfl
  have e10 : eqS blade1 blade0 = false := eqS_no (by decide)
  have e20 : eqS blade2 blade0 = false := eqS_no (by decide)
  have e21 : eqS blade2 blade1 = false := eqS_no (by decide)
  rcases hm with e | e | e | e
  · rw [eqS_iff.2 e] at h; cases h
  · rw [e, hb 48 e]
    simp only [idxS, e00, cond_true]
    decide
  · rw [e, hb 49 e]
    simp only [idxS, e10, e11, cond_true, cond_false]
    decide
  · rw [e, hb 50 e]
    simp only [idxS, e20, e21, e22, cond_true, cond_false]
    decide
theorem has_words (x : ByteArray) : hasW x [bladeN, blade0, blade1, blade2] = (decide (idxS x [blade0, blade1, blade2] 0 ≥ 0) || eqS x bladeN) := by
  rw [← has_idx x [blade0, blade1, blade2] 0 (Int.le_refl _)]
  show (bif eqS bladeN x then true else hasW x [blade0, blade1, blade2]) = _
  rw [eqS_comm bladeN x]
  cases eqS x bladeN <;> cases hasW x [blade0, blade1, blade2] <;> rfl
theorem idx_none {x : ByteArray} (h : eqS x bladeN = true) : idxS x [blade0, blade1, blade2] 0 = -1 := by
  have e := eqS_iff.1 h
  subst e
  simp only [idxS, eqS_no (show bladeN ≠ blade0 by decide), eqS_no (show bladeN ≠ blade1 by decide), eqS_no (show bladeN ≠ blade2 by decide), cond_false]
def rowN (n : Nat → Int) (k : Nat) : List IV := [.int .i64 (numA n k 0), .int .i64 (numA n k 1), .int .i64 (numA n k 2)]
set_option maxHeartbeats 16000000 in
theorem c_rParse (up : List Ces) (l : List UInt8) (hl : l.length ≤ 1000000) :
    Cs gl n_nacelleref05_Parse up [.str (bytesS l)] (parseT 116 (splitL 10 l)) up := by
  have hS : ∀ up, Cs gl n_nacelleref01_Split up [.str (bytesS l), .int .u8 10] _ up := fun up => c_rSplit (gl := gl) up l 10 (by omega)
  have hpl : ∀ i, ((splitL 10 l).getD i []).length ≤ 1000000 := fun i => Nat.le_trans (splitL_le 10 l i) hl
  have hPl : (splitL 10 l).length ≤ 1000001 := by rw [splitL_len]; have := List.count_le_length (a := (10 : UInt8)) (l := l); omega
  have hP1 : 1 ≤ (splitL 10 l).length := by rw [splitL_len]; omega
  have hsz : (bytesS l).size = l.length := bytesS_size l
  obtain ⟨P, hP⟩ : ∃ P, P = splitL 10 l := ⟨_, rfl⟩
  rw [← hP] at hS hpl hPl hP1 ⊢
  obtain ⟨s, hs⟩ : ∃ s, s = bytesS l := ⟨_, rfl⟩
  rw [← hs] at hS hsz ⊢
  have q0 : decide ((s.size : Int) > 1000000) = false := decide_eq_false (by omega)
  let F : Nat → List IV := fun k => (lineA P k).1.cs
  have hlines : linesN P = if P.getD (P.length - 1) [] = [] then P.length - 1 else P.length := by unfold linesN; rw [getLastD_getD P hP1]
  have hbad : ∀ i, i < P.length → (∀ j, j < i → j + 1 < P.length → lineG P j = true) → lineG P i = false → (i + 1 = P.length → P.getD (P.length - 1) [] ≠ []) → parseT 116 P = .tup [.nilS, .int .i64 i, .int .i64 26] := fun i h1 h2 h3 h4 => by
    have hlt : i < linesN P := by
      rw [hlines]
      split
      · rename_i he
        have : i + 1 ≠ P.length := fun e => h4 e he
        omega
      · exact h1
    have e : fb (lineG P) (linesN P) 0 = i := fb_at (Nat.zero_le _) (by omega) h3 (fun j _ hj => h2 j hj (by omega))
    unfold parseT
    simp only [e]
    rw [decide_eq_true hlt, cond_true]
  refine mkR [64] h_nacelleref05_Parse rfl rfl ?_
  conv => whnf
  split
  · rename_i h
    exact Bool.noConfusion ((q0).symm.trans h)
  rename_i hN
  clear hN
  conv => whnf
  repeat first
    | (refine DRAW.seek ?_; repeat (first | refine TRYD.take ?_ | refine TRYD.next ?_); conv => whnf)
    | (refine HOLD.mk (by first | exact trivial | exact ⟨⟨rfl, rfl⟩, trivial⟩ | exact ⟨⟨rfl, rfl⟩, ⟨rfl, rfl⟩, trivial⟩) ?_; (conv => whnf))
    | (refine CALL0.by (hS ..) rfl ?_; conv => whnf)
    | (refine CALLQ.mk _ _ _ (leL_refl _) (hS ..) rfl ?_; conv => whnf)
  refine .mk (α := {i : Nat // i ≤ P.length ∧ (∀ j, j < i → j + 1 < P.length → lineG P j = true) ∧ (i = P.length → P.getD (P.length - 1) [] = [])}) (fun i => ⟨[(7, .int .i64 i.1), (6, .lst none 1 P.length fun i => [.str (bytesS (P.getD i []))]), (5, .lst (some 116) 5 (min i.1 (P.length - 1)) F)], [], up⟩) (fun i => P.length - i.1) ⟨0, Nat.zero_le _, (fun j h => by omega), (fun h => by omega)⟩ ⟨⟨leV_refl _, ⟨.inl rfl, rfl, rfl, fun _ _ => rfl⟩, (by show min 0 (P.length - 1) = 0; omega), trivial⟩, trivial, rfl, rfl⟩ ?_
  rintro ⟨i, hi, hg, hlast⟩
  have hiw : w64 ((i : Int) + 1) = ((i + 1 : Nat) : Int) := by rw [w64, wrap_in] <;> omega
  have hw1 : w64 (((P.length : Nat) : Int) - 1) = ((P.length - 1 : Nat) : Int) := by rw [w64, wrap_in] <;> omega
  by_cases hin : i < P.length
  rotate_left
  · have he : i = P.length := by omega
    have hll := hlast he
    subst he
    have hN2 : linesN P = P.length - 1 := by rw [hlines, if_pos hll]
    have e : fb (lineG P) (linesN P) 0 = linesN P := by rw [fb_all (fun j _ hj => hg j (by omega) (by omega))]; omega
    have hm : min P.length (P.length - 1) = P.length - 1 := by omega
    have hp := fun up => c_rCheckActs (gl := gl) up (P.length - 1) (by omega) (fun j => (lineA P j).1)
    obtain ⟨E, hE⟩ : ∃ E, E = actsE (P.length - 1) fun j => (lineA P j).1 := ⟨_, rfl⟩
    have hR : parseT 116 P = bif E != 0 then .tup [.nilS, .int .i64 (P.length - 1 : Nat), .int .i64 E] else .tup [.lst (some 116) 5 (P.length - 1) F, .int .i64 0, .int .i64 0] := by
      unfold parseT
      simp only [e]
      rw [decide_eq_false (Nat.lt_irrefl _), cond_false, hN2, ← hE]
    rw [← hE] at hp
    rw [hR]
    have q : decide (((P.length : Nat) : Int) < ((P.length : Nat) : Int)) = false := decide_eq_false (by omega)
    show iwp _ _ _ _ ⟨[(7, .int .i64 (P.length : Nat)), (6, .lst none 1 P.length fun i => [.str (bytesS (P.getD i []))]), (5, .lst (some 116) 5 (min P.length (P.length - 1)) F)], [], up⟩
    rw [hm]
    cases qe : (E != 0) with
    | true =>
      conv => whnf
      split
      · rename_i h
        exact Bool.noConfusion ((q).symm.trans h)
      rename_i hN
      clear hN
      conv => whnf
      repeat first
        | (refine CALL0.by (hp ..) rfl ?_; conv => whnf)
        | (refine CALLQ.mk _ _ _ (leL_refl _) (hp ..) rfl ?_; conv => whnf)
      split
      rotate_left
      · rename_i h
        exact Bool.noConfusion ((qe).symm.trans h)
      rename_i hN
      clear hN
      conv => whnf
      exact ⟨by rw [show IntKind.i64.wrap (((P.length : Nat) : Int) - 1) = ((P.length - 1 : Nat) : Int) from hw1]; rfl, rfl⟩
    | false =>
      conv => whnf
      split
      · rename_i h
        exact Bool.noConfusion ((q).symm.trans h)
      rename_i hN
      clear hN
      conv => whnf
      repeat first
        | (refine CALL0.by (hp ..) rfl ?_; conv => whnf)
        | (refine CALLQ.mk _ _ _ (leL_refl _) (hp ..) rfl ?_; conv => whnf)
      split
      · rename_i h
        exact Bool.noConfusion ((qe).symm.trans h)
      rename_i hN
      clear hN
      conv => whnf
      exact ⟨rfl, rfl⟩
  have q : decide ((i : Int) < ((P.length : Nat) : Int)) = true := decide_eq_true (by omega)
  by_cases hil : i + 1 = P.length
  · have q1 : ((i : Int) == w64 (((P.length : Nat) : Int) - 1)) = true := by rw [hw1, beq_iff_eq]; omega
    have hg0 : lineG P i = false := by unfold lineG; rw [decide_eq_false (by omega)]; rfl
    cases qe : (!eqS (bytesS (P.getD i [])) ByteArray.empty) with
    | true =>
      have hne : P.getD (P.length - 1) [] ≠ [] := fun e => by
        rw [show P.length - 1 = i by omega] at e
        rw [e] at qe
        rw [show eqS (bytesS []) ByteArray.empty = true from eqS_iff.2 rfl] at qe
        cases qe
      have hb := hbad i hin hg hg0 (fun _ => hne)
      conv => whnf
      split
      rotate_left
      · rename_i h
        exact Bool.noConfusion ((q).symm.trans h)
      rename_i hN
      clear hN
      conv => whnf
      split
      rotate_left
      · rename_i h
        exact Bool.noConfusion ((q1).symm.trans h)
      rename_i hN
      clear hN
      conv => whnf
      split
      rotate_left
      · rename_i h
        exact Bool.noConfusion ((q).symm.trans h)
      rename_i hN
      clear hN
      conv => whnf
      split
      rotate_left
      · rename_i h
        exact Bool.noConfusion ((qe).symm.trans h)
      rename_i hN
      clear hN
      conv => whnf
      exact ⟨hb.symm, rfl⟩
    | false =>
      have hem : P.getD (P.length - 1) [] = [] := by
        have h1 : eqS (bytesS (P.getD i [])) ByteArray.empty = true := by simpa using qe
        have h2 := congrArg (fun s : ByteArray => s.data.toList) (eqS_iff.1 h1)
        rw [show P.length - 1 = i by omega]
        simpa using h2
      conv => whnf
      split
      rotate_left
      · rename_i h
        exact Bool.noConfusion ((q).symm.trans h)
      rename_i hN
      clear hN
      conv => whnf
      split
      rotate_left
      · rename_i h
        exact Bool.noConfusion ((q1).symm.trans h)
      rename_i hN
      clear hN
      conv => whnf
      split
      rotate_left
      · rename_i h
        exact Bool.noConfusion ((q).symm.trans h)
      rename_i hN
      clear hN
      conv => whnf
      split
      · rename_i h
        exact Bool.noConfusion ((qe).symm.trans h)
      rename_i hN
      clear hN
      conv => whnf
      refine ⟨⟨i + 1, by omega, fun j h1 h2 => hg j (by omega) h2, fun _ => hem⟩, ⟨⟨leV_int hiw, leV_refl _, ⟨.inr rfl, rfl, (by show min i (P.length - 1) = min (i + 1) (P.length - 1); omega), fun _ _ => rfl⟩, trivial⟩, trivial, rfl, rfl⟩, (by show P.length - (i + 1) < P.length - i; omega)⟩
  have q1 : ((i : Int) == w64 (((P.length : Nat) : Int) - 1)) = false := by rw [hw1, beq_eq_false_iff_ne]; omega
  have hb1 : lineG P i = false → parseT 116 P = .tup [.nilS, .int .i64 i, .int .i64 26] := fun h => hbad i hin hg h (fun e => absurd e hil)
  have hGi : lineG P i = (lineA P i).2 := by unfold lineG; rw [decide_eq_true (by omega), Bool.true_and]
  have hQ : ∀ up, Cs gl n_nacelleref01_Split up [.str (bytesS (P.getD i [])), .int .u8 32] _ up := fun up => c_rSplit (gl := gl) up (P.getD i []) 32 (by have := hpl i; omega)
  have hwl : ∀ k, ((splitL 32 (P.getD i [])).getD k []).length ≤ 1000000000 := fun k => Nat.le_trans (splitL_le 32 _ k) (by have := hpl i; omega)
  have hA : lineA P i = parsedR (splitL 32 (P.getD i [])) := rfl
  obtain ⟨Q, hQQ⟩ : ∃ Q, Q = splitL 32 (P.getD i []) := ⟨_, rfl⟩
  rw [← hQQ] at hQ hwl hA
  unfold parsedR at hA
  cases ql : ((Q.length : Int) != 5) with
  | true =>
    have hb := hb1 (by rw [hGi, hA, ql]; rfl)
    conv => whnf
    split
    rotate_left
    · rename_i h
      exact Bool.noConfusion ((q).symm.trans h)
    rename_i hN
    clear hN
    conv => whnf
    split
    · rename_i h
      exact Bool.noConfusion ((q1).symm.trans h)
    rename_i hN
    clear hN
    conv => whnf
    split
    rotate_left
    · rename_i h
      exact Bool.noConfusion ((q).symm.trans h)
    rename_i hN
    clear hN
    conv => whnf
    repeat first
      | (refine DRAW.seek ?_; repeat (first | refine TRYD.take ?_ | refine TRYD.next ?_); conv => whnf)
      | (refine HOLD.mk (by first | exact trivial | exact ⟨⟨rfl, rfl⟩, trivial⟩ | exact ⟨⟨rfl, rfl⟩, ⟨rfl, rfl⟩, trivial⟩) ?_; (conv => whnf))
      | (refine CALL0.by (hQ ..) rfl ?_; conv => whnf)
      | (refine CALLQ.mk _ _ _ (leL_refl _) (hQ ..) rfl ?_; conv => whnf)
    split
    rotate_left
    · rename_i h
      exact Bool.noConfusion ((ql).symm.trans h)
    rename_i hN
    clear hN
    conv => whnf
    exact ⟨hb.symm, rfl⟩
  | false =>
  have hlen : Q.length = 5 := by
    have : (Q.length : Int) = 5 := by simpa using ql
    omega
  rw [hlen] at hQ
  rw [ql, Bool.false_or] at hA
  cases qw : eqS (bytesS (Q.getD 0 [])) ByteArray.empty with
  | true =>
    have hb := hb1 (by rw [hGi, hA, qw]; rfl)
    conv => whnf
    split
    rotate_left
    · rename_i h
      exact Bool.noConfusion ((q).symm.trans h)
    rename_i hN
    clear hN
    conv => whnf
    split
    · rename_i h
      exact Bool.noConfusion ((q1).symm.trans h)
    rename_i hN
    clear hN
    conv => whnf
    split
    rotate_left
    · rename_i h
      exact Bool.noConfusion ((q).symm.trans h)
    rename_i hN
    clear hN
    conv => whnf
    repeat first
      | (refine DRAW.seek ?_; repeat (first | refine TRYD.take ?_ | refine TRYD.next ?_); conv => whnf)
      | (refine HOLD.mk (by first | exact trivial | exact ⟨⟨rfl, rfl⟩, trivial⟩ | exact ⟨⟨rfl, rfl⟩, ⟨rfl, rfl⟩, trivial⟩) ?_; (conv => whnf))
      | (refine CALL0.by (hQ ..) rfl ?_; conv => whnf)
      | (refine CALLQ.mk _ _ _ (leL_refl _) (hQ ..) rfl ?_; conv => whnf)
    split
    rotate_left
    · rename_i h
      exact Bool.noConfusion ((qw).symm.trans h)
    rename_i hN
    clear hN
    conv => whnf
    exact ⟨hb.symm, rfl⟩
  | false =>
  rw [qw, cond_false] at hA
  have hn := fun k up => c_rNumber (gl := gl) (Q.getD k []) (hwl k) up
  have hni := fun k => num_int (Q.getD k [])
  have hH := fun up => c_rHas4 (gl := gl) up (bytesS (Q.getD 4 []))
  obtain ⟨x, hx⟩ : ∃ x : Nat → ByteArray, x = fun k => bytesS (Q.getD k []) := ⟨_, rfl⟩
  obtain ⟨N, hN⟩ : ∃ N : Nat → Int, N = fun k => (numR (Q.getD k [])).1 := ⟨_, rfl⟩
  obtain ⟨B, hB⟩ : ∃ B : Nat → Bool, B = fun k => (numR (Q.getD k [])).2 := ⟨_, rfl⟩
  have hQ : ∀ up, Cs gl n_nacelleref01_Split up [.str (bytesS (P.getD i [])), .int .u8 32] (.lst (some 31) 1 5 fun k => [.str (x k)]) up := by rw [hx]; exact hQ
  have hn : ∀ k up, Cs gl n_nacelleref01_Number up [.str (x k)] (.tup [.int .i64 (N k), .bool (B k)]) up := by rw [hx, hN, hB]; exact hn
  have hH : ∀ up, Cs gl n_nacelleref01_HasWord up [.lst none 1 4 (litF 1 [.str bladeN, .str blade0, .str blade1, .str blade2]), .str (x 4)] (.bool (hasW (x 4) [bladeN, blade0, blade1, blade2])) up := by rw [hx]; exact hH
  have qw : eqS (x 0) ByteArray.empty = false := by rw [hx]; exact qw
  have hfine : (lineA P i).2 = (((hasW (x 4) [bladeN, blade0, blade1, blade2] && (B 1 && !decide (N 1 < 0))) && (B 2 && !decide (N 2 < 0))) && (B 3 && !decide (N 3 < 0))) := by
    rw [hA, has_words, hx, hB, hN]
    show _ = (((_ && ((numR (Q.getD 1 [])).2 && !decide ((numR (Q.getD 1 [])).1 < 0))) && ((numR (Q.getD 2 [])).2 && !decide ((numR (Q.getD 2 [])).1 < 0))) && ((numR (Q.getD 3 [])).2 && !decide ((numR (Q.getD 3 [])).1 < 0)))
    rw [(hni 1).1, (hni 2).1, (hni 3).1]
    rfl
  cases qh : hasW (x 4) [bladeN, blade0, blade1, blade2] with
  | false =>
    rw [qh] at hH
    have hb := hb1 (by rw [hGi, hfine, qh]; rfl)
    conv => whnf
    split
    rotate_left
    · rename_i h
      exact Bool.noConfusion ((q).symm.trans h)
    rename_i hN
    clear hN
    conv => whnf
    split
    · rename_i h
      exact Bool.noConfusion ((q1).symm.trans h)
    rename_i hN
    clear hN
    conv => whnf
    split
    rotate_left
    · rename_i h
      exact Bool.noConfusion ((q).symm.trans h)
    rename_i hN
    clear hN
    conv => whnf
    repeat first
      | (refine DRAW.seek ?_; repeat (first | refine TRYD.take ?_ | refine TRYD.next ?_); conv => whnf)
      | (refine HOLD.mk (by first | exact trivial | exact ⟨⟨rfl, rfl⟩, trivial⟩ | exact ⟨⟨rfl, rfl⟩, ⟨rfl, rfl⟩, trivial⟩) ?_; (conv => whnf))
      | (refine CALL0.by (hQ ..) rfl ?_; conv => whnf)
      | (refine CALLQ.mk _ _ _ (leL_refl _) (hQ ..) rfl ?_; conv => whnf)
    split
    · rename_i h
      exact Bool.noConfusion ((qw).symm.trans h)
    rename_i hN
    clear hN
    conv => whnf
    repeat first
      | (refine DRAW.seek ?_; repeat (first | refine TRYD.take ?_ | refine TRYD.next ?_); conv => whnf)
      | (refine HOLD.mk (by first | exact trivial | exact ⟨⟨rfl, rfl⟩, trivial⟩ | exact ⟨⟨rfl, rfl⟩, ⟨rfl, rfl⟩, trivial⟩) ?_; (conv => whnf))
      | (refine CALL0.by (hH ..) rfl ?_; conv => whnf)
      | (refine CALLQ.mk _ _ _ (leL_refl _) (hH ..) rfl ?_; conv => whnf)
    exact ⟨hb.symm, rfl⟩
  | true =>
  have hH2 := hH
  rw [qh] at hH2
  rw [qh, Bool.true_and] at hfine
  have hn1 := hn 1
  have hn2 := hn 2
  have hn3 := hn 3
  have hn4 := hn 4
  conv => whnf
  split
  rotate_left
  · rename_i h
    exact Bool.noConfusion ((q).symm.trans h)
  rename_i hN
  clear hN
  conv => whnf
  split
  · rename_i h
    exact Bool.noConfusion ((q1).symm.trans h)
  rename_i hN
  clear hN
  conv => whnf
  split
  rotate_left
  · rename_i h
    exact Bool.noConfusion ((q).symm.trans h)
  rename_i hN
  clear hN
  conv => whnf
  repeat first
    | (refine DRAW.seek ?_; repeat (first | refine TRYD.take ?_ | refine TRYD.next ?_); conv => whnf)
    | (refine HOLD.mk (by first | exact trivial | exact ⟨⟨rfl, rfl⟩, trivial⟩ | exact ⟨⟨rfl, rfl⟩, ⟨rfl, rfl⟩, trivial⟩) ?_; (conv => whnf))
    | (refine CALL0.by (hQ ..) rfl ?_; conv => whnf)
    | (refine CALLQ.mk _ _ _ (leL_refl _) (hQ ..) rfl ?_; conv => whnf)
  split
  · rename_i h
    exact Bool.noConfusion ((qw).symm.trans h)
  rename_i hN
  clear hN
  conv => whnf
  repeat first
    | (refine DRAW.seek ?_; repeat (first | refine TRYD.take ?_ | refine TRYD.next ?_); conv => whnf)
    | (refine HOLD.mk (by first | exact trivial | exact ⟨⟨rfl, rfl⟩, trivial⟩ | exact ⟨⟨rfl, rfl⟩, ⟨rfl, rfl⟩, trivial⟩) ?_; (conv => whnf))
    | (refine CALL0.by (hH2 ..) rfl ?_; conv => whnf)
    | (refine CALLQ.mk _ _ _ (leL_refl _) (hH2 ..) rfl ?_; conv => whnf)
  intro bb
  conv => whnf
  refine .mk (α := {k : Nat // k ≤ 3 ∧ ∀ j, j < k → B (j + 1) = true ∧ decide (N (j + 1) < 0) = false}) (fun k => ⟨[(11, .int .i64 k.1), (10, .row 64 1 3 3 bb), (9, .ptr 0 9 0), (8, .lst none 1 5 fun k => [.str (x k)]), (7, .int .i64 i), (6, .lst none 1 P.length fun i => [.str (bytesS (P.getD i []))]), (5, .lst (some 116) 5 (min i (P.length - 1)) F)],
    [(64, rowN N k.1), (9, [.str (x 0), .int .i64 0, .int .i64 0, .int .i64 0, .int .i64 (-1)])], up⟩) (fun k => 3 - k.1) ⟨0, by decide, fun j h => absurd h (Nat.not_lt_zero _)⟩ ⟨⟨leV_refl _, leV_refl _, leV_refl _, ⟨.inl rfl, rfl, rfl, fun _ _ => rfl⟩, leV_refl _, leV_refl _, leV_refl _, trivial⟩, ?_, rfl, ?_⟩ ?_
  · exact ⟨⟨rfl, rfl, rfl, trivial⟩, leL_refl _, trivial⟩
  · rfl
  rintro ⟨k, hk3, hk⟩
  match k, hk3 with
  | 0, hk3 =>
    cases qb : B 1 with
    | false =>
      have hb := hb1 (by rw [hGi, hfine, qb]; simp)
      rw [qb] at hn1
      conv => whnf
      repeat first
        | (refine DRAW.seek ?_; repeat (first | refine TRYD.take ?_ | refine TRYD.next ?_); conv => whnf)
        | (refine HOLD.mk (by first | exact trivial | exact ⟨⟨rfl, rfl⟩, trivial⟩ | exact ⟨⟨rfl, rfl⟩, ⟨rfl, rfl⟩, trivial⟩) ?_; (conv => whnf))
        | (refine CALL0.by (hn1 ..) rfl ?_; conv => whnf)
        | (refine CALLQ.mk _ _ _ (leL_refl _) (hn1 ..) rfl ?_; conv => whnf)
      exact ⟨hb.symm, rfl⟩
    | true =>
      cases qc : decide (N 1 < 0) with
      | true =>
        have hb := hb1 (by rw [hGi, hfine, qc]; simp)
        rw [qb] at hn1
        conv => whnf
        repeat first
          | (refine DRAW.seek ?_; repeat (first | refine TRYD.take ?_ | refine TRYD.next ?_); conv => whnf)
          | (refine HOLD.mk (by first | exact trivial | exact ⟨⟨rfl, rfl⟩, trivial⟩ | exact ⟨⟨rfl, rfl⟩, ⟨rfl, rfl⟩, trivial⟩) ?_; (conv => whnf))
          | (refine CALL0.by (hn1 ..) rfl ?_; conv => whnf)
          | (refine CALLQ.mk _ _ _ (leL_refl _) (hn1 ..) rfl ?_; conv => whnf)
        split
        rotate_left
        · rename_i h
          exact Bool.noConfusion ((qc).symm.trans h)
        rename_i hN
        clear hN
        conv => whnf
        exact ⟨hb.symm, rfl⟩
      | false =>
        rw [qb] at hn1
        conv => whnf
        repeat first
          | (refine DRAW.seek ?_; repeat (first | refine TRYD.take ?_ | refine TRYD.next ?_); conv => whnf)
          | (refine HOLD.mk (by first | exact trivial | exact ⟨⟨rfl, rfl⟩, trivial⟩ | exact ⟨⟨rfl, rfl⟩, ⟨rfl, rfl⟩, trivial⟩) ?_; (conv => whnf))
          | (refine CALL0.by (hn1 ..) rfl ?_; conv => whnf)
          | (refine CALLQ.mk _ _ _ (leL_refl _) (hn1 ..) rfl ?_; conv => whnf)
        split
        · rename_i h
          exact Bool.noConfusion ((qc).symm.trans h)
        rename_i hN
        clear hN
        conv => whnf
        refine ⟨⟨1, by decide, fun j hj => ?_⟩, ⟨⟨leV_refl _, leV_refl _, leV_refl _, leV_refl _, leV_refl _, leV_refl _, leV_refl _, trivial⟩, ?_, rfl, rfl⟩, (by show 3 - 1 < 3 - 0; decide)⟩
        · rcases Nat.lt_or_ge j 0 with h | h
          · exact hk j h
          · rw [show j = 0 by omega]; exact ⟨qb, qc⟩
        · exact ⟨⟨rfl, rfl, rfl, trivial⟩, ⟨rfl, rfl, rfl, rfl, rfl, trivial⟩, trivial⟩
  | 1, hk3 =>
    cases qb : B 2 with
    | false =>
      have hb := hb1 (by rw [hGi, hfine, qb]; simp)
      rw [qb] at hn2
      conv => whnf
      repeat first
        | (refine DRAW.seek ?_; repeat (first | refine TRYD.take ?_ | refine TRYD.next ?_); conv => whnf)
        | (refine HOLD.mk (by first | exact trivial | exact ⟨⟨rfl, rfl⟩, trivial⟩ | exact ⟨⟨rfl, rfl⟩, ⟨rfl, rfl⟩, trivial⟩) ?_; (conv => whnf))
        | (refine CALL0.by (hn2 ..) rfl ?_; conv => whnf)
        | (refine CALLQ.mk _ _ _ (leL_refl _) (hn2 ..) rfl ?_; conv => whnf)
      exact ⟨hb.symm, rfl⟩
    | true =>
      cases qc : decide (N 2 < 0) with
      | true =>
        have hb := hb1 (by rw [hGi, hfine, qc]; simp)
        rw [qb] at hn2
        conv => whnf
        repeat first
          | (refine DRAW.seek ?_; repeat (first | refine TRYD.take ?_ | refine TRYD.next ?_); conv => whnf)
          | (refine HOLD.mk (by first | exact trivial | exact ⟨⟨rfl, rfl⟩, trivial⟩ | exact ⟨⟨rfl, rfl⟩, ⟨rfl, rfl⟩, trivial⟩) ?_; (conv => whnf))
          | (refine CALL0.by (hn2 ..) rfl ?_; conv => whnf)
          | (refine CALLQ.mk _ _ _ (leL_refl _) (hn2 ..) rfl ?_; conv => whnf)
        split
        rotate_left
        · rename_i h
          exact Bool.noConfusion ((qc).symm.trans h)
        rename_i hN
        clear hN
        conv => whnf
        exact ⟨hb.symm, rfl⟩
      | false =>
        rw [qb] at hn2
        conv => whnf
        repeat first
          | (refine DRAW.seek ?_; repeat (first | refine TRYD.take ?_ | refine TRYD.next ?_); conv => whnf)
          | (refine HOLD.mk (by first | exact trivial | exact ⟨⟨rfl, rfl⟩, trivial⟩ | exact ⟨⟨rfl, rfl⟩, ⟨rfl, rfl⟩, trivial⟩) ?_; (conv => whnf))
          | (refine CALL0.by (hn2 ..) rfl ?_; conv => whnf)
          | (refine CALLQ.mk _ _ _ (leL_refl _) (hn2 ..) rfl ?_; conv => whnf)
        split
        · rename_i h
          exact Bool.noConfusion ((qc).symm.trans h)
        rename_i hN
        clear hN
        conv => whnf
        refine ⟨⟨2, by decide, fun j hj => ?_⟩, ⟨⟨leV_refl _, leV_refl _, leV_refl _, leV_refl _, leV_refl _, leV_refl _, leV_refl _, trivial⟩, ?_, rfl, rfl⟩, (by show 3 - 2 < 3 - 1; decide)⟩
        · rcases Nat.lt_or_ge j 1 with h | h
          · exact hk j h
          · rw [show j = 1 by omega]; exact ⟨qb, qc⟩
        · exact ⟨⟨rfl, rfl, rfl, trivial⟩, ⟨rfl, rfl, rfl, rfl, rfl, trivial⟩, trivial⟩
  | 2, hk3 =>
    cases qb : B 3 with
    | false =>
      have hb := hb1 (by rw [hGi, hfine, qb]; simp)
      rw [qb] at hn3
      conv => whnf
      repeat first
        | (refine DRAW.seek ?_; repeat (first | refine TRYD.take ?_ | refine TRYD.next ?_); conv => whnf)
        | (refine HOLD.mk (by first | exact trivial | exact ⟨⟨rfl, rfl⟩, trivial⟩ | exact ⟨⟨rfl, rfl⟩, ⟨rfl, rfl⟩, trivial⟩) ?_; (conv => whnf))
        | (refine CALL0.by (hn3 ..) rfl ?_; conv => whnf)
        | (refine CALLQ.mk _ _ _ (leL_refl _) (hn3 ..) rfl ?_; conv => whnf)
      exact ⟨hb.symm, rfl⟩
    | true =>
      cases qc : decide (N 3 < 0) with
      | true =>
        have hb := hb1 (by rw [hGi, hfine, qc]; simp)
        rw [qb] at hn3
        conv => whnf
        repeat first
          | (refine DRAW.seek ?_; repeat (first | refine TRYD.take ?_ | refine TRYD.next ?_); conv => whnf)
          | (refine HOLD.mk (by first | exact trivial | exact ⟨⟨rfl, rfl⟩, trivial⟩ | exact ⟨⟨rfl, rfl⟩, ⟨rfl, rfl⟩, trivial⟩) ?_; (conv => whnf))
          | (refine CALL0.by (hn3 ..) rfl ?_; conv => whnf)
          | (refine CALLQ.mk _ _ _ (leL_refl _) (hn3 ..) rfl ?_; conv => whnf)
        split
        rotate_left
        · rename_i h
          exact Bool.noConfusion ((qc).symm.trans h)
        rename_i hN
        clear hN
        conv => whnf
        exact ⟨hb.symm, rfl⟩
      | false =>
        rw [qb] at hn3
        conv => whnf
        repeat first
          | (refine DRAW.seek ?_; repeat (first | refine TRYD.take ?_ | refine TRYD.next ?_); conv => whnf)
          | (refine HOLD.mk (by first | exact trivial | exact ⟨⟨rfl, rfl⟩, trivial⟩ | exact ⟨⟨rfl, rfl⟩, ⟨rfl, rfl⟩, trivial⟩) ?_; (conv => whnf))
          | (refine CALL0.by (hn3 ..) rfl ?_; conv => whnf)
          | (refine CALLQ.mk _ _ _ (leL_refl _) (hn3 ..) rfl ?_; conv => whnf)
        split
        · rename_i h
          exact Bool.noConfusion ((qc).symm.trans h)
        rename_i hN
        clear hN
        conv => whnf
        refine ⟨⟨3, by decide, fun j hj => ?_⟩, ⟨⟨leV_refl _, leV_refl _, leV_refl _, leV_refl _, leV_refl _, leV_refl _, leV_refl _, trivial⟩, ?_, rfl, rfl⟩, (by show 3 - 3 < 3 - 2; decide)⟩
        · rcases Nat.lt_or_ge j 2 with h | h
          · exact hk j h
          · rw [show j = 2 by omega]; exact ⟨qb, qc⟩
        · exact ⟨⟨rfl, rfl, rfl, trivial⟩, ⟨rfl, rfl, rfl, rfl, rfl, trivial⟩, trivial⟩
  | 3, hk3 =>
    have h0 := hk 0 (by decide)
    have h1 := hk 1 (by decide)
    have h2 := hk 2 (by decide)
    have hgood : lineG P i = true := by rw [hGi, hfine, h0.1, h0.2, h1.1, h1.2, h2.1, h2.2]; rfl
    have happ : ∀ c, c = (lineA P i).1.cs → ∀ j, j < min i (P.length - 1) + 1 → appF (min i (P.length - 1)) F (litF 5 c) j = F j := fun c hc j hj => by
      have hmi : min i (P.length - 1) = i := by omega
      rw [hmi] at hj ⊢
      show (if j < i then F j else litF 5 c (j - i)) = F j
      split
      · rfl
      · have : j = i := by omega
        subst this
        rw [Nat.sub_self, hc]; rfl
    have hac : (lineA P i).1.cs = [.str (x 0), .int .i64 (N 1), .int .i64 (N 2), .int .i64 (N 3), .int .i64 (idxS (x 4) [blade0, blade1, blade2] 0)] := by
      have a1 : (numR (Q.getD 1 [])).2 = true := by have := h0.1; rw [hB] at this; exact this
      have b1 : decide ((numR (Q.getD 1 [])).1 < 0) = false := by have := h0.2; rw [hN] at this; exact this
      have e1 : (numR (Q.getD 1 [])).1 = (intR (Q.getD 1 [])).1 := (hni 1).2 (by rw [← (hni 1).1, a1, b1]; rfl)
      have a2 : (numR (Q.getD 2 [])).2 = true := by have := h1.1; rw [hB] at this; exact this
      have b2 : decide ((numR (Q.getD 2 [])).1 < 0) = false := by have := h1.2; rw [hN] at this; exact this
      have e2 : (numR (Q.getD 2 [])).1 = (intR (Q.getD 2 [])).1 := (hni 2).2 (by rw [← (hni 2).1, a2, b2]; rfl)
      have a3 : (numR (Q.getD 3 [])).2 = true := by have := h2.1; rw [hB] at this; exact this
      have b3 : decide ((numR (Q.getD 3 [])).1 < 0) = false := by have := h2.2; rw [hN] at this; exact this
      have e3 : (numR (Q.getD 3 [])).1 = (intR (Q.getD 3 [])).1 := (hni 3).2 (by rw [← (hni 3).1, a3, b3]; rfl)
      rw [hA, hx, hN]
      show [IV.str (bytesS (Q.getD 0 [])), .int .i64 (intR (Q.getD 1 [])).1, .int .i64 (intR (Q.getD 2 [])).1, .int .i64 (intR (Q.getD 3 [])).1, _] = [_, .int .i64 (numR (Q.getD 1 [])).1, .int .i64 (numR (Q.getD 2 [])).1, .int .i64 (numR (Q.getD 3 [])).1, _]
      rw [e1, e2, e3]
      rfl
    conv => whnf
    refine .mkFH 64 1 3 (fun j => [.int .i64 (numA N 3 j)]) [] rfl (fun j _ => ⟨rfl, rfl⟩) 9 [] [0, 1, 2, 3, 4, 5, 6, 7, 8] [] (by decide +kernel) ?_
    conv => whnf
    repeat first
      | (refine DRAW.seek ?_; repeat (first | refine TRYD.take ?_ | refine TRYD.next ?_); conv => whnf)
      | (refine HOLD.mk (by first | exact trivial | exact ⟨⟨rfl, rfl⟩, trivial⟩ | exact ⟨⟨rfl, rfl⟩, ⟨rfl, rfl⟩, trivial⟩) ?_; (conv => whnf))
    cases qs : eqS (x 4) bladeN with
    | true =>
      have qs' : (!eqS (x 4) bladeN) = false := by rw [qs]; rfl
      split
      · rename_i h
        exact Bool.noConfusion ((qs').symm.trans h)
      rename_i hN
      clear hN
      conv => whnf
      split
      rotate_left
      · rename_i h
        have h' : decide (min i (P.length - 1) + 1 ≤ 1073741824) = false := h
        simp at h' <;> omega
      conv => whnf
      refine ⟨⟨i + 1, by omega, fun j h1 h2 => ?_, fun h => by omega⟩, ⟨⟨leV_int hiw, leV_refl _, ⟨.inr rfl, rfl, (by show min i (P.length - 1) + 1 = min (i + 1) (P.length - 1); omega), fun j hj => ?_⟩, trivial⟩, trivial, rfl, rfl⟩, (by show P.length - (i + 1) < P.length - i; omega)⟩
      · rcases Nat.lt_or_ge j i with h | h
        · exact hg j h h2
        · rw [show j = i by omega]; exact hgood
      · exact happ _ (by rw [hac]; show [IV.str (x 0), .int .i64 (N 1), .int .i64 (N 2), .int .i64 (N 3), .int .i64 (-1)] = [IV.str (x 0), .int .i64 (N 1), .int .i64 (N 2), .int .i64 (N 3), .int .i64 (idxS (x 4) [blade0, blade1, blade2] 0)]; rw [idx_none qs]) j (by have : j < min i (P.length - 1) + 1 := hj; omega)
    | false =>
      have qs' : (!eqS (x 4) bladeN) = true := by rw [qs]; rfl
      have hw4 : N 4 = idxS (x 4) [blade0, blade1, blade2] 0 := by rw [hN, hx]; rw [hx] at qs qh; exact blade_word _ qs qh
      split
      rotate_left
      · rename_i h
        exact Bool.noConfusion ((qs').symm.trans h)
      rename_i hN
      clear hN
      conv => whnf
      repeat first
        | (refine DRAW.seek ?_; repeat (first | refine TRYD.take ?_ | refine TRYD.next ?_); conv => whnf)
        | (refine HOLD.mk (by first | exact trivial | exact ⟨⟨rfl, rfl⟩, trivial⟩ | exact ⟨⟨rfl, rfl⟩, ⟨rfl, rfl⟩, trivial⟩) ?_; (conv => whnf))
        | (refine CALL0.by (hn4 ..) rfl ?_; conv => whnf)
        | (refine CALLQ.mk _ _ _ (leL_refl _) (hn4 ..) rfl ?_; conv => whnf)
      split
      rotate_left
      · rename_i h
        have h' : decide (min i (P.length - 1) + 1 ≤ 1073741824) = false := h
        simp at h' <;> omega
      conv => whnf
      refine ⟨⟨i + 1, by omega, fun j h1 h2 => ?_, fun h => by omega⟩, ⟨⟨leV_int hiw, leV_refl _, ⟨.inr rfl, rfl, (by show min i (P.length - 1) + 1 = min (i + 1) (P.length - 1); omega), fun j hj => ?_⟩, trivial⟩, trivial, rfl, rfl⟩, (by show P.length - (i + 1) < P.length - i; omega)⟩
      · rcases Nat.lt_or_ge j i with h | h
        · exact hg j h h2
        · rw [show j = i by omega]; exact hgood
      · exact happ _ (by rw [hac, ← hw4]; rfl) j (by have : j < min i (P.length - 1) + 1 := hj; omega)
end Go.Proofs.YtkdlegfakefjgaaGreatDoor.Ix

namespace Go.Proofs.YtkdlegfakefjgaaGreatDoor.Ix
set_option linter.unusedVariables false
def setRow (f : Nat → List IV) (i j : Nat) (v : IV) : Nat → List IV := fun k => if k = i then (f i).set j v else f k
end Go.Proofs.YtkdlegfakefjgaaGreatDoor.Ix

namespace Go.Proofs.YtkdlegfakefjgaaGreatDoor.Ix
set_option linter.unusedVariables false
mutual
def rowV (d e n : Nat) : IV → Prop
  | .row c e' n' k' b' => match Nat.beq c d with
    | true => e' = e ∧ n' = n
    | false => True
  | .agg xs => rowVL d e n xs
  | .tup xs => rowVL d e n xs
  | .fn _ a c => rowVL d e n a ∧ rowVL d e n c
  | _ => True
def rowVL (d e n : Nat) : List IV → Prop
  | [] => True
  | x :: r => rowV d e n x ∧ rowVL d e n r
end
def rowT (d e n : Nat) : Tms → Prop
  | [] => True
  | (_, v) :: r => rowV d e n v ∧ rowT d e n r
def rowC (d e n : Nat) : Ces → Prop
  | [] => True
  | (i, c) :: r => match Nat.beq i d with
    | true => rowC d e n r
    | false => rowVL d e n c ∧ rowC d e n r
mutual
def thwV (d : Nat) (g : Nat → List IV) : IV → IV
  | .ptr 0 c off => match Nat.beq c d with
    | true => .dead
    | false => .ptr 0 c off
  | .row c e' n' k' b' => match Nat.beq c d with
    | true => .lst none e' n' g
    | false => .row c e' n' k' b'
  | .agg xs => .agg (thwVL d g xs)
  | .tup xs => .tup (thwVL d g xs)
  | .fn f a c => .fn f (thwVL d g a) (thwVL d g c)
  | v => v
def thwVL (d : Nat) (g : Nat → List IV) : List IV → List IV
  | [] => []
  | x :: r => thwV d g x :: thwVL d g r
end
def thwT (d : Nat) (g : Nat → List IV) : Tms → Tms
  | [] => []
  | (i, v) :: r => (i, thwV d g v) :: thwT d g r
def thwC (d : Nat) (g : Nat → List IV) : Ces → Ces
  | [] => []
  | (i, c) :: r => match Nat.beq i d with
    | true => thwC d g r
    | false => (i, thwVL d g c) :: thwC d g r
mutual
theorem thwV_eq (d e n : Nat) (g : Nat → List IV) : ∀ v, rowV d e n v → frzV d e n g v = thwV d g v
  | .ptr l c off, _ => by
    cases l with
    | zero => simp only [frzV, thwV]; cases Nat.beq c d <;> rfl
    | succ l => simp only [frzV, thwV]
  | .row c e' n' k' b', h => by
    simp only [rowV] at h
    simp only [frzV, thwV]
    cases hc : Nat.beq c d with
    | false => rfl
    | true =>
      rw [hc] at h
      obtain ⟨rfl, rfl⟩ := h
      simp
  | .agg xs, h => by
    simp only [rowV] at h
    simp only [frzV, thwV, thwVL_eq d e n g xs h]
  | .tup xs, h => by
    simp only [rowV] at h
    simp only [frzV, thwV, thwVL_eq d e n g xs h]
  | .fn f a c, h => by
    simp only [rowV] at h
    simp only [frzV, thwV, thwVL_eq d e n g a h.1, thwVL_eq d e n g c h.2]
  | .int _ _, _ => rfl
  | .bool _, _ => rfl
  | .str _, _ => rfl
  | .lit _, _ => rfl
  | .nilS, _ => rfl
  | .lst _ _ _ _, _ => rfl
  | .vptr _ _ _ _ _, _ => rfl
  | .raw _ _ _, _ => rfl
  | .dead, _ => rfl
theorem thwVL_eq (d e n : Nat) (g : Nat → List IV) : ∀ l, rowVL d e n l → frzVL d e n g l = thwVL d g l
  | [], _ => rfl
  | x :: r, h => by
    simp only [rowVL] at h
    simp only [frzVL, thwVL, thwV_eq d e n g x h.1, thwVL_eq d e n g r h.2]
end
theorem thwT_eq (d e n : Nat) (g : Nat → List IV) : ∀ l, rowT d e n l → frzT d e n g l = thwT d g l
  | [], _ => rfl
  | (i, v) :: r, h => by
    simp only [rowT] at h
    simp only [frzT, thwT, thwV_eq d e n g v h.1, thwT_eq d e n g r h.2]
theorem thwC_eq (d e n : Nat) (g : Nat → List IV) : ∀ l, rowC d e n l → frzC d e n g l = thwC d g l
  | [], _ => rfl
  | (i, c) :: r, h => by
    simp only [rowC] at h
    simp only [frzC, thwC]
    cases hc : Nat.beq i d with
    | true =>
      rw [hc] at h
      simp only [thwC_eq d e n g r h]
    | false =>
      rw [hc] at h
      simp only [thwVL_eq d e n g c h.1, thwC_eq d e n g r h.2]
theorem DRAW.mkR {C : Con} {Γ : Env} {all : List Oper} {K : St → Prop} {S : St} (d e n : Nat) (g : Nat → List IV) (junk : List IV) (hc : lookC S.ce d = some (flatR e n g ++ junk)) (hg : ∀ i, i < n → (g i).length = e ∧ allInt (g i) = true) (p : Nat) (h : drawOK all p = true)
    (ht : rowT d e n S.tm) (hce : rowC d e n S.ce) (hk : fps (thwT d g S.tm) fun tm => fcs (thwC d g S.ce) fun ce => drawn C Γ all p K ⟨tm, ce, S.up⟩) : DRAW C Γ all K S := by
  refine .mkF d e n g junk hc hg p h ?_
  rw [thwT_eq d e n g _ ht, thwC_eq d e n g _ hce]
  exact hk
end Go.Proofs.YtkdlegfakefjgaaGreatDoor.Ix

namespace Go.Proofs.YtkdlegfakefjgaaGreatDoor.Ix
open Go.Proofs
set_option maxRecDepth 100000
set_option linter.unusedVariables false
set_option linter.unusedSimpArgs false
variable {gl : Nat → IV}
end Go.Proofs.YtkdlegfakefjgaaGreatDoor.Ix
