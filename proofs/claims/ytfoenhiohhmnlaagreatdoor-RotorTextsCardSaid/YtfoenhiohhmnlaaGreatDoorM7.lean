/- YtfoenhiohhmnlaaGreatDoorM7 -/
import Derived.Test.YtfoenhiohhmnlaaGreatDoorM6
import Derived.Lib.Split
import Derived.Lib.SplitLaws
import Derived.Shelf.LaysC
import Derived.Shelf.Strconv.AtoiAll
import Derived.Shelf.Strings.Prefix
import Derived.Test.YtfoenhiohhmnlaaGreatDoorProg
import Derived.Lib.AtoiErrMem
import Derived.MakeChecks
import Derived.Test.YtfoenhiohhmnlaaGreatDoorRows
import Derived.Test.YtfoenhiohhmnlaaGreatDoorTie
import Derived.Test.YtfoenhiohhmnlaaGreatDoorCards
import Derived.ProofKit
import Derived.OpenShut
import Derived.LaidMore
import Derived.Lay
import Derived.Stop.Joined
import Derived.SevenTiedAt
namespace Go.Proofs.YtfoenhiohhmnlaaGreatDoor.Ix
set_option linter.unusedVariables false
open Go.Lib
def splitL (c : UInt8) : List UInt8 → List (List UInt8)
  | [] => [[]]
  | b :: l => if b = c then [] :: splitL c l else match splitL c l with
    | [] => [[b]]
    | p :: r => (b :: p) :: r
theorem splitL_ne (c : UInt8) : ∀ l, splitL c l ≠ []
  | [] => nofun
  | b :: l => by
    unfold splitL
    split
    · nofun
    · split <;> nofun
theorem splitL_none {c : UInt8} : ∀ {l : List UInt8}, c ∉ l → splitL c l = [l]
  | [], _ => rfl
  | b :: l, h => by
    unfold splitL
    rw [if_neg (fun e => h (by simp [e])), splitL_none (fun hh => h (by simp [hh]))]
theorem splitL_hit {c : UInt8} : ∀ {l : List UInt8} {i : Nat}, l[i]? = some c → (∀ j, j < i → l[j]? ≠ some c) → splitL c l = l.take i :: splitL c (l.drop (i + 1))
  | [], i, h, _ => by simp at h
  | b :: l, 0, h, _ => by
    have hb : b = c := by simpa using h
    have e : splitL c (b :: l) = [] :: splitL c l := by
      show (if b = c then _ else _) = _
      rw [if_pos hb]
    rw [e]; rfl
  | b :: l, i + 1, h, hn => by
    have hb : b ≠ c := fun e => hn 0 (by omega) (by simp [e])
    have ih := splitL_hit (l := l) (i := i) (by simpa using h) (fun j hj hh => hn (j + 1) (by omega) (by simpa using hh))
    have e : splitL c (b :: l) = match splitL c l with
      | [] => [[b]]
      | p :: r => (b :: p) :: r := by
      show (if b = c then _ else _) = _
      rw [if_neg hb]
    rw [e, ih]
    rfl
theorem splitK_eq (c : UInt8) : ∀ (k : Nat) (l : List UInt8), l.count c = k → splitK [c] 0 k l = splitL c l
  | 0, l, h => by
    rw [splitL_none (fun hm => by have := List.count_pos_iff.2 hm; omega)]
    rfl
  | k + 1, l, h => by
    have hm : c ∈ l := List.count_pos_iff.1 (by omega)
    unfold splitK
    have hi := index_one l c
    cases hix : indexByte l c with
    | negSucc q =>
      have hge := indexByte_ge l c
      have e : indexByte l c = -1 := by rw [hix] at hge ⊢; omega
      have := indexByte_none e
      obtain ⟨j, hj⟩ := List.mem_iff_getElem?.1 hm
      exact absurd hj (this j)
    | ofNat i =>
      have hix' : indexByte l c = ((i : Nat) : Int) := hix
      obtain ⟨h1, h2⟩ := indexByte_some hix'
      rw [if_neg (by rw [hi, hix']; simp), hi, hix']
      rw [splitL_hit h1 h2]
      have hlt := (List.getElem?_eq_some_iff.1 h1).1
      have hc : (l.drop (i + 1)).count c = k := by
        have e : l = l.take i ++ c :: l.drop (i + 1) := by
          have h3 : l.drop i = c :: l.drop (i + 1) := by
            rw [List.drop_eq_getElem_cons hlt]
            congr 1
            exact (List.getElem?_eq_some_iff.1 h1).2
          rw [← h3, List.take_append_drop]
        have h4 : (l.take i).count c = 0 := by
          rw [List.count_eq_zero]
          intro hm
          obtain ⟨j, hj⟩ := List.mem_iff_getElem?.1 hm
          rw [List.getElem?_take] at hj
          split at hj
          · rename_i hji; exact h2 j hji hj
          · cases hj
        have h5 : l.count c = ((l.take i).count c + ((l.drop (i + 1)).count c + 1)) := by
          conv => lhs; rw [e]
          rw [List.count_append, List.count_cons_self]
        omega
      simp only [Int.toNat_natCast, Nat.add_zero, List.length_cons, List.length_nil, Nat.zero_add]
      rw [splitK_eq c k _ hc]
theorem splitB_eq (c : UInt8) (s : ByteArray) : (splitB ⟨#[c]⟩ 0 (countB s ⟨#[c]⟩) s) = (splitL c s.data.toList).map bytesS := by
  have h := splitB_data ⟨#[c]⟩ 0 (countB s ⟨#[c]⟩) s
  have hc : countB s ⟨#[c]⟩ = s.data.toList.count c := count_one c _
  rw [hc] at h ⊢
  rw [show (ByteArray.mk #[c]).data.toList = [c] from rfl, splitK_eq c _ _ rfl] at h
  rw [← h, List.map_map]
  conv => lhs; rw [← List.map_id (splitB _ _ _ _)]
  exact List.map_congr_left fun x _ => (bytesS_mk x).symm
theorem splitL_len (c : UInt8) : ∀ l : List UInt8, (splitL c l).length = l.count c + 1
  | [] => rfl
  | b :: l => by
    have ih := splitL_len c l
    unfold splitL
    split
    · rename_i e; subst e; simp [ih]
    · rename_i hb
      rw [List.count_cons_of_ne (fun e => hb e)]
      cases h : splitL c l with
      | nil => exact absurd h (splitL_ne c l)
      | cons p r => rw [h] at ih; simpa using ih
theorem splitL_mem {c : UInt8} : ∀ {l p : List UInt8}, p ∈ splitL c l → p.length ≤ l.length ∧ c ∉ p
  | [], p, h => by
    have : p = [] := by simpa [splitL] using h
    subst this; simp
  | b :: l, p, h => by
    unfold splitL at h
    split at h
    · rcases List.mem_cons.1 h with rfl | h
      · simp
      · have := splitL_mem h; exact ⟨by simp; omega, this.2⟩
    · rename_i hb
      split at h
      · rename_i e; exact absurd e (splitL_ne c l)
      · rename_i q r e
        rcases List.mem_cons.1 h with rfl | h
        · have := splitL_mem (c := c) (l := l) (p := q) (by rw [e]; simp)
          refine ⟨by simp; omega, fun hm => ?_⟩
          rcases List.mem_cons.1 hm with rfl | hm
          · exact hb rfl
          · exact this.2 hm
        · have := splitL_mem (c := c) (l := l) (p := p) (by rw [e]; simp [h])
          exact ⟨by simp; omega, this.2⟩
theorem splitL_le (c : UInt8) (l : List UInt8) (i : Nat) : ((splitL c l).getD i []).length ≤ l.length := by
  rw [List.getD_eq_getElem?_getD]
  cases h : (splitL c l)[i]? with
  | none => simp
  | some p => exact (splitL_mem (List.mem_of_getElem? h)).1
theorem splitL_no (c : UInt8) (l : List UInt8) (i : Nat) : c ∉ (splitL c l).getD i [] := by
  rw [List.getD_eq_getElem?_getD]
  cases h : (splitL c l)[i]? with
  | none => simp
  | some p => exact (splitL_mem (List.mem_of_getElem? h)).2
end Go.Proofs.YtfoenhiohhmnlaaGreatDoor.Ix

namespace Go.Proofs.YtfoenhiohhmnlaaGreatDoor.Ix
set_option linter.unusedVariables false
def dig (b : UInt8) : Bool := decide (48 ≤ b.toNat) && decide (b.toNat ≤ 57)
def valL (l : List UInt8) : Nat := l.foldl (fun n b => 10 * n + (b.toNat - 48)) 0
theorem dig_iff {b : UInt8} : dig b = true ↔ 48 ≤ b.toNat ∧ b.toNat ≤ 57 := by simp [dig]
theorem valL_snoc (l : List UInt8) (b : UInt8) : valL (l ++ [b]) = 10 * valL l + (b.toNat - 48) := by simp [valL]
theorem valL_take {l : List UInt8} {p : Nat} {b : UInt8} (h : l[p]? = some b) : valL (l.take (p + 1)) = 10 * valL (l.take p) + (b.toNat - 48) := by
  rw [List.take_add_one, h]
  exact valL_snoc _ _
theorem valL_lt : ∀ (k : Nat) (l : List UInt8), l.length ≤ k → (∀ b ∈ l, dig b = true) → valL l < 10 ^ k := by
  intro k
  induction k with
  | zero => intro l h _; have : l = [] := List.length_eq_zero_iff.1 (by omega); subst this; decide
  | succ k ih =>
    intro l h hd
    rcases List.eq_nil_or_concat l with rfl | ⟨r, b, rfl⟩
    · exact Nat.pos_of_ne_zero (by simp)
    · rw [List.concat_eq_append] at h hd ⊢
      rw [valL_snoc]
      have h1 := ih r (by simp at h; omega) (fun x hx => hd x (by simp [hx]))
      have h2 := dig_iff.1 (hd b (by simp))
      rw [Nat.pow_succ]; omega
end Go.Proofs.YtfoenhiohhmnlaaGreatDoor.Ix

namespace Go.Proofs.YtfoenhiohhmnlaaGreatDoor.Ix
open Go.Proofs
set_option maxRecDepth 100000
set_option linter.unusedVariables false
set_option linter.unusedSimpArgs false
variable {gl : Nat → IV}
theorem c_IndexByte (up : List Ces) (s : ByteArray) (c : Int) : Cs gl n_strings_IndexByte up [.str s, .int .u8 c] (.int .i64 (Go.Lib.indexByte s.data.toList c.toNat.toUInt8)) up := by
  refine comp_of_below h_strings_IndexByte rfl rfl fun vals w I X β σ m hl ha => ?_
  obtain ⟨v, u, rfl⟩ := two_args hl
  have hv : v = .string s := noSig_str (ha 0 _ rfl)
  have hu : u = .int .u8 c := noSig_int (ha 1 _ rfl)
  subst hv; subst hu
  refine (Any.strings_IndexByte laysIndexByte s c w).mono ?_
  rintro e w' ⟨rfl, rfl⟩
  exact ⟨_, rfl, .int _ _, Go.RowKit.Below.refl _ _⟩
theorem four_args {vals : Array Value} (h : 4 = vals.size) : ∃ v u x y, vals = #[v, u, x, y] := by
  rcases vals with ⟨l⟩
  match l, h with
  | [v, u, x, y], _ => exact ⟨v, u, x, y, rfl⟩
theorem c_genSplit (up : List Ces) (s : ByteArray) (c : UInt8) (hs : s.size < 4294967281) :
    Cs gl n_strings_genSplit up [.str s, .str ⟨#[c]⟩, .int .i64 0, .int .i64 (-1)] (.lst none 1 (splitL c s.data.toList).length fun i => [.str (bytesS ((splitL c s.data.toList).getD i []))]) up := by
  have e : (IV.lst none 1 (splitL c s.data.toList).length fun i => [.str (bytesS ((splitL c s.data.toList).getD i []))]) = .lst none 1 ((splitL c s.data.toList).map bytesS).length fun i => [.str (((splitL c s.data.toList).map bytesS).getD i ByteArray.empty)] := by
    rw [List.length_map]
    congr 1
    funext i
    have : ((splitL c s.data.toList).map bytesS).getD i ByteArray.empty = bytesS ((splitL c s.data.toList).getD i []) := by
      rw [List.getD_eq_getElem?_getD, List.getD_eq_getElem?_getD, List.getElem?_map]
      cases (splitL c s.data.toList)[i]? <;> rfl
    rw [this]
  rw [e]
  refine comp_of_row h_strings_genSplit rfl rfl _ fun vals w I X β σ m hl ha => ?_
  obtain ⟨v0, v1, v2, v3, rfl⟩ := four_args hl
  have h0 : v0 = .string s := noSig_str (ha 0 _ rfl)
  have h1 : v1 = .string ⟨#[c]⟩ := noSig_str (ha 1 _ rfl)
  have h2 : v2 = .int .i64 0 := noSig_int (ha 2 _ rfl)
  have h3 : v3 = .int .i64 (-1) := noSig_int (ha 3 _ rfl)
  subst h0; subst h1; subst h2; subst h3
  have h1c : 1 ≤ (ByteArray.mk #[c]).size := Nat.le_refl 1
  have hle := Go.Lib.countB_le ⟨#[c]⟩ h1c s.size s (Nat.le_refl _)
  have hall := Go.Lib.splitB_all ⟨#[c]⟩ h1c 0 _ s rfl
  refine (Any.strings_genSplit_core laysGenSplit (by kernel_rfl) s ⟨#[c]⟩ 0 (-1) (Go.Lib.countB s ⟨#[c]⟩ + 1) w hs h1c (Nat.zero_le _) (fun x cc hx => ?_) ?_ (by decide) (by decide) (by rw [if_pos (by decide)]; omega)).mono ?_
  · refine (Any.strings_Index_one { laysGenSplit with } x c _).mono fun e w' ⟨he, hw⟩ => ⟨?_, hw⟩
    rw [he]
    show _ = Ending.returned (Value.int .i64 (Go.Lib.index x.data.toList [c]))
    rw [Go.Lib.index_one]
  · refine (Any.strings_Count_one { laysGenSplit with } s c w).mono fun e w' ⟨he, hw⟩ => ⟨?_, hw⟩
    rw [he]
    show _ = Ending.returned (Value.int .i64 ((Go.Lib.count s.data.toList [c] : Nat) : Int))
    rw [Go.Lib.count_one]
    rfl
  rintro e w' ⟨rfl, rfl⟩
  rw [Nat.add_sub_cancel]
  have hcells : Go.Lib.cellsOf (Go.Lib.splitB ⟨#[c]⟩ 0 (Go.Lib.countB s ⟨#[c]⟩) s) (Go.Lib.countB s ⟨#[c]⟩ + 1) = ((Go.Lib.splitB ⟨#[c]⟩ 0 (Go.Lib.countB s ⟨#[c]⟩) s).map Value.string).toArray := by rw [← hall]; exact Go.Lib.cellsOf_full _
  rw [hcells, ← hall, splitB_eq]
  exact ⟨_, rfl, rfl⟩
theorem c_sSplit (up : List Ces) (s : ByteArray) (c : UInt8) (hs : s.size < 4294967281) :
    Cs gl n_strings_Split up [.str s, .str ⟨#[c]⟩] (.lst none 1 (splitL c s.data.toList).length fun i => [.str (bytesS ((splitL c s.data.toList).getD i []))]) up := by
  refine mk h_strings_Split rfl rfl ?_
  have h := fun up => c_genSplit (gl := gl) up s c hs
  conv => whnf
  repeat first
    | (refine DRAW.seek ?_; repeat (first | refine TRYD.take ?_ | refine TRYD.next ?_); conv => whnf)
    | (refine HOLD.mk (by first | exact trivial | exact ⟨⟨rfl, rfl⟩, trivial⟩ | exact ⟨⟨rfl, rfl⟩, ⟨rfl, rfl⟩, trivial⟩) ?_; (conv => whnf))
    | (refine CALL0.by (h ..) rfl ?_; conv => whnf)
    | (refine CALLQ.mk _ _ _ (leL_refl _) (h ..) rfl ?_; conv => whnf)
  exact ⟨rfl, rfl⟩
theorem c_HasSuffix (up : List Ces) (l : List UInt8) (c : UInt8) (hl : l.length ≤ 1000000000) :
    Cs gl n_internal_stringslite_HasSuffix up [.str (bytesS l), .str (bytesS [c])] (.bool (l.getLast? == some c)) up := by
  refine mk h_internal_stringslite_HasSuffix rfl rfl ?_
  have hsz : (bytesS l).size = l.length := bytesS_size l
  have hsc : (bytesS [c]).size = 1 := bytesS_size [c]
  obtain ⟨S, hS⟩ : ∃ S, S = bytesS l := ⟨_, rfl⟩
  obtain ⟨C, hC⟩ : ∃ S, S = bytesS [c] := ⟨_, rfl⟩
  rw [← hS] at hsz ⊢
  rw [← hC] at hsc ⊢
  by_cases h0 : l = []
  · have q : decide ((S.size : Int) ≥ C.size) = false := by rw [hsz, hsc, h0]; rfl
    have e : (l.getLast? == some c) = false := by rw [h0]; rfl
    rw [e]
    conv => whnf
    split
    · rename_i h
      exact Bool.noConfusion ((q).symm.trans h)
    rename_i hN
    clear hN
    conv => whnf
    exact ⟨rfl, rfl⟩
  · have hpos : 0 < l.length := List.length_pos_iff.2 h0
    have q : decide ((S.size : Int) ≥ C.size) = true := by rw [hsz, hsc]; exact decide_eq_true (by omega)
    have hw : w64 ((S.size : Int) - C.size) = ((l.length - 1 : Nat) : Int) := by rw [hsz, hsc, w64, wrap_in] <;> omega
    have q1 : decide (0 ≤ w64 ((S.size : Int) - C.size)) = true := by rw [hw]; exact decide_eq_true (by omega)
    have q2 : decide (w64 ((S.size : Int) - C.size) ≤ S.size) = true := by rw [hw, hsz]; exact decide_eq_true (by omega)
    have q3 : decide ((S.size : Int) ≤ S.size) = true := decide_eq_true (Int.le_refl _)
    have hx : (S.extract (w64 ((S.size : Int) - C.size)).toNat (S.size : Int).toNat).toList = l.drop (l.length - 1) := by
      rw [hw, Go.Lib.toList_data, Go.Lib.extract_data, hsz, hS, bytesS_data]
      simp only [Int.toNat_natCast]
      exact List.take_of_length_le (by rw [List.length_drop]; omega)
    have hCl : C.toList = [c] := by rw [Go.Lib.toList_data, hC]
    have hd : l.drop (l.length - 1) = [l.getLast h0] := by
      have e := List.dropLast_concat_getLast h0
      have hl2 : l.length - 1 = l.dropLast.length := by simp
      conv => lhs; rw [← e]
      rw [List.length_append, List.length_singleton, Nat.add_sub_cancel]
      exact List.drop_left
    have e : (l.getLast? == some c) = ((S.extract (w64 ((S.size : Int) - C.size)).toNat (S.size : Int).toNat).toList == C.toList) := by
      rw [hx, hCl, hd, List.getLast?_eq_some_getLast h0]
      by_cases h : l.getLast h0 = c
      · simp [h]
      · have : ¬ (some (l.getLast h0) = some c) := fun e => h (Option.some.inj e)
        simp [h]
    rw [e]
    conv => whnf
    split
    rotate_left
    · rename_i h
      exact Bool.noConfusion ((q).symm.trans h)
    rename_i hN
    clear hN
    conv => whnf
    split
    rotate_left
    · rename_i h
      exact Bool.noConfusion ((q1).symm.trans h)
    rename_i hN
    clear hN
    conv => whnf
    split
    rotate_left
    · rename_i h
      exact Bool.noConfusion ((q2).symm.trans h)
    rename_i hN
    clear hN
    conv => whnf
    split
    rotate_left
    · rename_i h
      exact Bool.noConfusion ((q3).symm.trans h)
    rename_i hN
    clear hN
    conv => whnf
    exact ⟨rfl, rfl⟩
noncomputable abbrev CsL (gl : Nat → IV) : Con := ⟨fun g up args r up' => Cs gl g up args r up' ∧ up'.length = up.length, CompO prog gl, VisO prog gl, CompL prog gl⟩
theorem extract_all0 (l : List UInt8) (k : Nat) : (bytesS l).extract 0 k = bytesS (l.take k) := by
  rw [Go.Lib.extract_eq]
  simp
theorem c_CutSuffix1 (up : List Ces) (l : List UInt8) (c : UInt8) (hl : l.length ≤ 1000000000) :
    Cs gl n_internal_stringslite_CutSuffix up [.str (bytesS l), .str (bytesS [c])] (bif l.getLast? == some c then .tup [.str (bytesS l.dropLast), .bool true] else .tup [.str (bytesS l), .bool false]) up := by
  refine mk h_internal_stringslite_CutSuffix rfl rfl ?_
  have hS := fun up => c_HasSuffix (gl := gl) up l c hl
  cases q : (l.getLast? == some c) with
  | false =>
    rw [q] at hS
    conv => whnf
    repeat first
      | (refine DRAW.seek ?_; repeat (first | refine TRYD.take ?_ | refine TRYD.next ?_); conv => whnf)
      | (refine HOLD.mk (by first | exact trivial | exact ⟨⟨rfl, rfl⟩, trivial⟩ | exact ⟨⟨rfl, rfl⟩, ⟨rfl, rfl⟩, trivial⟩) ?_; (conv => whnf))
      | (refine CALL0.by (hS ..) rfl ?_; conv => whnf)
      | (refine CALLQ.mk _ _ _ (leL_refl _) (hS ..) rfl ?_; conv => whnf)
    exact ⟨rfl, rfl⟩
  | true =>
    rw [q] at hS
    have hne : l ≠ [] := by rintro rfl; cases q
    have hpos : 0 < l.length := List.length_pos_iff.2 hne
    have hsz : (bytesS l).size = l.length := bytesS_size l
    have hsc : (bytesS [c]).size = 1 := bytesS_size [c]
    have hw : w64 (((bytesS l).size : Int) - (bytesS [c]).size) = ((l.length - 1 : Nat) : Int) := by rw [hsz, hsc, w64, wrap_in] <;> omega
    have q1 : decide (0 ≤ w64 (((bytesS l).size : Int) - (bytesS [c]).size)) = true := by rw [hw]; exact decide_eq_true (by omega)
    have q2 : decide (w64 (((bytesS l).size : Int) - (bytesS [c]).size) ≤ (bytesS l).size) = true := by rw [hw, hsz]; exact decide_eq_true (by omega)
    have hx : (bytesS l).extract 0 (w64 (((bytesS l).size : Int) - (bytesS [c]).size)).toNat = bytesS l.dropLast := by
      rw [hw, extract_all0, Int.toNat_natCast, List.dropLast_eq_take]
    conv => whnf
    repeat first
      | (refine DRAW.seek ?_; repeat (first | refine TRYD.take ?_ | refine TRYD.next ?_); conv => whnf)
      | (refine HOLD.mk (by first | exact trivial | exact ⟨⟨rfl, rfl⟩, trivial⟩ | exact ⟨⟨rfl, rfl⟩, ⟨rfl, rfl⟩, trivial⟩) ?_; (conv => whnf))
      | (refine CALL0.by (hS ..) rfl ?_; conv => whnf)
      | (refine CALLQ.mk _ _ _ (leL_refl _) (hS ..) rfl ?_; conv => whnf)
    split
    rotate_left
    · rename_i h
      exact Bool.noConfusion ((q1).symm.trans h)
    rename_i hN
    clear hN
    conv => whnf
    split
    rotate_left
    · rename_i h
      exact Bool.noConfusion ((q2).symm.trans h)
    rename_i hN
    clear hN
    conv => whnf
    exact ⟨congrArg (fun s => IV.tup [.str s, .bool true]) hx, rfl⟩
theorem c_CutSuffix (up : List Ces) (l : List UInt8) (c : UInt8) (hl : l.length ≤ 1000000000) :
    Cs gl n_strings_CutSuffix up [.str (bytesS l), .str (bytesS [c])] (bif l.getLast? == some c then .tup [.str (bytesS l.dropLast), .bool true] else .tup [.str (bytesS l), .bool false]) up := by
  refine mk h_strings_CutSuffix rfl rfl ?_
  have h := fun up => c_CutSuffix1 (gl := gl) up l c hl
  cases q : (l.getLast? == some c) with
  | false =>
    rw [q] at h
    conv => whnf
    repeat first
      | (refine DRAW.seek ?_; repeat (first | refine TRYD.take ?_ | refine TRYD.next ?_); conv => whnf)
      | (refine HOLD.mk (by first | exact trivial | exact ⟨⟨rfl, rfl⟩, trivial⟩ | exact ⟨⟨rfl, rfl⟩, ⟨rfl, rfl⟩, trivial⟩) ?_; (conv => whnf))
      | (refine CALL0.by (h ..) rfl ?_; conv => whnf)
      | (refine CALLQ.mk _ _ _ (leL_refl _) (h ..) rfl ?_; conv => whnf)
    exact ⟨rfl, rfl⟩
  | true =>
    rw [q] at h
    conv => whnf
    repeat first
      | (refine DRAW.seek ?_; repeat (first | refine TRYD.take ?_ | refine TRYD.next ?_); conv => whnf)
      | (refine HOLD.mk (by first | exact trivial | exact ⟨⟨rfl, rfl⟩, trivial⟩ | exact ⟨⟨rfl, rfl⟩, ⟨rfl, rfl⟩, trivial⟩) ?_; (conv => whnf))
      | (refine CALL0.by (h ..) rfl ?_; conv => whnf)
      | (refine CALLQ.mk _ _ _ (leL_refl _) (h ..) rfl ?_; conv => whnf)
    exact ⟨rfl, rfl⟩
theorem own_Lines (s : ByteArray) : CompO prog gl n_strings_Lines [.str s] n_strings_Lines_1 [[.str s]] := by
  refine own_of_body (Γ := Γs gl) (C := Cs gl) mixed0 tok0 ⟨fun _ _ _ _ _ h => h, fun _ _ _ _ h => h, fun _ _ _ _ _ h => h⟩ ⟨fun _ _ _ _ h => h, fun _ _ _ _ h => h⟩ h_strings_Lines rfl rfl ?_
  conv => whnf
  intro up
  conv => whnf
  exact ⟨rfl, [1], rfl, ⟨⟨_, rfl, rfl, rfl⟩, trivial⟩, rfl⟩
def lineF (P : List (List UInt8)) (k : Nat) : List UInt8 := if k + 1 < P.length then P.getD k [] ++ [10] else P.getD k []
def linesN (P : List (List UInt8)) : Nat := if P.getLastD [] = [] then P.length - 1 else P.length
def LinI (P : List (List UInt8)) (k : Nat) (r : List UInt8) : Prop := (splitL 10 r = P.drop k ∧ k < P.length) ∨ (k = P.length ∧ r = [] ∧ linesN P = k)
theorem drop_last {P : List (List UInt8)} {k : Nat} {r : List UInt8} (h : P.drop k = [r]) : P.length = k + 1 ∧ P.getLastD [] = r ∧ P.getD k [] = r := by
  have hlen : P.length - k = 1 := by rw [← List.length_drop, h]; rfl
  have hk : P[k]? = some r := by
    have : (P.drop k)[0]? = some r := by rw [h]; rfl
    simpa using this
  refine ⟨by omega, ?_, by rw [List.getD_eq_getElem?_getD, hk]; rfl⟩
  have hne : P ≠ [] := by rintro rfl; simp at hlen
  rw [List.getLastD_eq_getLast?, List.getLast?_eq_getElem?, show P.length - 1 = k by omega, hk]; rfl
theorem lin_end {P : List (List UInt8)} {k : Nat} (h : LinI P k []) : linesN P = k := by
  rcases h with ⟨h1, h2⟩ | ⟨_, _, h3⟩
  · obtain ⟨e1, e2, _⟩ := drop_last (show P.drop k = [[]] from h1.symm)
    unfold linesN
    rw [if_pos e2]; omega
  · exact h3
theorem lin_cut {P : List (List UInt8)} {k i : Nat} {r : List UInt8} (h : LinI P k r) (hi : Go.Lib.indexByte r 10 = (i : Int)) : k < linesN P ∧ lineF P k = r.take (i + 1) ∧ LinI P (k + 1) (r.drop (i + 1)) ∧ i < r.length := by
  obtain ⟨h1, h2⟩ := Go.Lib.indexByte_some hi
  have hlt := (List.getElem?_eq_some_iff.1 h1).1
  rcases h with ⟨g1, g2⟩ | ⟨_, rfl, _⟩
  · have hs := splitL_hit h1 h2
    rw [g1] at hs
    have hne := splitL_ne 10 (r.drop (i + 1))
    have hd : P.drop (k + 1) = splitL 10 (r.drop (i + 1)) := by
      rw [← List.drop_drop, hs]; rfl
    have hk : P[k]? = some (r.take i) := by
      have : (P.drop k)[0]? = some (r.take i) := by rw [hs]; rfl
      simpa using this
    have hk1 : k + 1 < P.length := by
      rcases Nat.lt_or_ge (k + 1) P.length with h | h
      · exact h
      · rw [List.drop_eq_nil_of_le h] at hd; exact absurd hd.symm hne
    refine ⟨?_, ?_, .inl ⟨hd.symm, hk1⟩, hlt⟩
    · unfold linesN; split <;> omega
    · unfold lineF
      rw [if_pos hk1, List.getD_eq_getElem?_getD, hk, List.take_add_one, h1]
      rfl
  · simp at hlt
theorem lin_rest {P : List (List UInt8)} {k : Nat} {r : List UInt8} (h : LinI P k r) (hr : r ≠ []) (hi : Go.Lib.indexByte r 10 = -1) : k < linesN P ∧ lineF P k = r ∧ LinI P (k + 1) [] := by
  have hn : (10 : UInt8) ∉ r := fun hm => by
    obtain ⟨j, hj⟩ := List.mem_iff_getElem?.1 hm
    exact Go.Lib.indexByte_none hi j hj
  rcases h with ⟨g1, g2⟩ | ⟨_, e, _⟩
  · rw [splitL_none hn] at g1
    obtain ⟨e1, e2, e3⟩ := drop_last g1.symm
    have hN : linesN P = k + 1 := by unfold linesN; rw [if_neg (by rw [e2]; exact hr)]; exact e1
    refine ⟨by omega, ?_, .inr ⟨e1.symm, rfl, hN⟩⟩
    unfold lineF
    rw [if_neg (by omega)]; exact e3
  · exact absurd e hr
theorem extract_rest (l : List UInt8) (k : Nat) : (bytesS l).extract k (bytesS l).size = bytesS (l.drop k) := by
  rw [Go.Lib.extract_eq, bytesS_size]
  simp only [bytesS_data]
  rw [List.take_of_length_le (by rw [List.length_drop]; omega)]
set_option maxHeartbeats 8000000 in
theorem lines_ivis (l : List UInt8) (hl : l.length ≤ 1000000000) :
    ivisO (CsL gl) (Γs gl) f_strings_Lines_1 [1] [[.str (bytesS l)]] (linesN (splitL 10 l)) (fun k => [.str (bytesS (lineF (splitL 10 l) k))]) := by
  obtain ⟨P, hP⟩ : ∃ P, P = splitL 10 l := ⟨_, rfl⟩
  rw [← hP]
  have h0 : LinI P 0 l := .inl ⟨by rw [hP]; rfl, by rw [hP, splitL_len]; omega⟩
  obtain ⟨N, hN⟩ : ∃ N, N = linesN P := ⟨_, rfl⟩
  rw [← hN]
  conv => whnf
  intro l0
  conv => whnf
  refine .mk (α := {x : Nat × List UInt8 // LinI P x.1 x.2 ∧ x.2.length ≤ 1000000000}) (fun x => ⟨[(1, .ptr 0 1 0), (0, .lit (.func (.yield l0) #[] #[]))], [(1, [.str (bytesS x.1.2)])], List.replicate x.1.1 []⟩) (fun x => x.1.2.length) ⟨(0, l), h0, hl⟩ ⟨?_, ?_, rfl, rfl⟩ ?_
  · exact ⟨leV_refl _, leV_refl _, trivial⟩
  · exact ⟨leL_refl _, trivial⟩
  rintro ⟨⟨k, r⟩, hI, hr⟩
  have hI : LinI P k r := hI
  have hr : r.length ≤ 1000000000 := hr
  have hsz : (bytesS r).size = r.length := bytesS_size r
  have hix := fun up => c_IndexByte (gl := gl) up (bytesS r) 10
  by_cases hne : r = []
  · subst hne
    have hk := lin_end hI
    conv => whnf
    show N ≤ (List.replicate k []).length
    rw [List.length_replicate]; omega
  · have hpos : 0 < r.length := List.length_pos_iff.2 hne
    have q0 : decide (((bytesS r).size : Int) > 0) = true := by rw [hsz]; exact decide_eq_true (by omega)
    obtain ⟨I, hIx⟩ : ∃ I, I = Go.Lib.indexByte r 10 := ⟨_, rfl⟩
    have hge := Go.Lib.indexByte_ge r 10
    rw [show Go.Lib.indexByte (bytesS r).data.toList (Int.toNat 10).toUInt8 = I by rw [bytesS_data]; exact hIx.symm] at hix
    obtain ⟨R, hR⟩ : ∃ R, R = bytesS r := ⟨_, rfl⟩
    rw [← hR] at hix hsz q0
    by_cases hneg : I = -1
    · have q1 : decide (I ≥ 0) = false := by rw [hneg]; rfl
      obtain ⟨k1, k2, k3⟩ := lin_rest hI hne (hIx.symm.trans hneg)
      show iwp _ _ _ _ ⟨[(1, .ptr 0 1 0), (0, .lit (.func (.yield l0) #[] #[]))], [(1, [.str (bytesS r)])], List.replicate k []⟩
      rw [← hR]
      conv => whnf
      split
      rotate_left
      · rename_i h
        exact Bool.noConfusion ((q0).symm.trans h)
      rename_i hN
      clear hN
      conv => whnf
      refine .mk _ _ _ _ _ (leL_refl _) ⟨hix _, rfl⟩ rfl ?_
      conv => whnf
      split
      · rename_i h
        exact Bool.noConfusion ((q1).symm.trans h)
      rename_i hN
      clear hN
      conv => whnf
      refine .mk rfl (by simp) (by simpa [← hN] using k1) (by simp [k2, hR]) rfl ?_
      intro bb
      cases bb
      · conv => whnf
        show N ≤ (List.replicate (N + 1) [] ++ List.replicate k []).length
        simp; omega
      · conv => whnf
        exact ⟨⟨(k + 1, []), k3, Nat.zero_le _⟩, ⟨⟨leV_refl _, leV_refl _, trivial⟩, ⟨leL_refl _, trivial⟩, rfl, rfl⟩, hpos⟩
    · obtain ⟨i, hi⟩ : ∃ i : Nat, I = i := ⟨I.toNat, by omega⟩
      have q1 : decide (I ≥ 0) = true := decide_eq_true (by omega)
      obtain ⟨k1, k2, k3, k4⟩ := lin_cut hI (hIx.symm.trans hi)
      have hw : w64 (I + 1) = ((i + 1 : Nat) : Int) := by rw [hi, w64, wrap_in] <;> omega
      have qa : decide (0 ≤ w64 (I + 1)) = true := by rw [hw]; exact decide_eq_true (by omega)
      have qb : decide (w64 (I + 1) ≤ (R.size : Int)) = true := by rw [hw, hsz]; exact decide_eq_true (by omega)
      have qc : decide ((R.size : Int) ≤ R.size) = true := decide_eq_true (Int.le_refl _)
      have e1 : R.extract 0 (w64 (I + 1)).toNat = bytesS (lineF P k) := by rw [hw, Int.toNat_natCast, hR, extract_all0, k2]
      have e2 : R.extract (w64 (I + 1)).toNat (R.size : Int).toNat = bytesS (r.drop (i + 1)) := by rw [hw, Int.toNat_natCast, Int.toNat_natCast, hR, extract_rest]
      show iwp _ _ _ _ ⟨[(1, .ptr 0 1 0), (0, .lit (.func (.yield l0) #[] #[]))], [(1, [.str (bytesS r)])], List.replicate k []⟩
      rw [← hR]
      conv => whnf
      split
      rotate_left
      · rename_i h
        exact Bool.noConfusion ((q0).symm.trans h)
      rename_i hN
      clear hN
      conv => whnf
      refine .mk _ _ _ _ _ (leL_refl _) ⟨hix _, rfl⟩ rfl ?_
      conv => whnf
      split
      rotate_left
      · rename_i h
        exact Bool.noConfusion ((q1).symm.trans h)
      rename_i hN
      clear hN
      conv => whnf
      refine .mk 9 (by kernel_rfl) ?_
      conv => whnf
      split
      rotate_left
      · rename_i h
        exact Bool.noConfusion ((qa).symm.trans h)
      rename_i hN
      clear hN
      conv => whnf
      split
      rotate_left
      · rename_i h
        exact Bool.noConfusion ((qb).symm.trans h)
      rename_i hN
      clear hN
      conv => whnf
      split
      rotate_left
      · rename_i h
        exact Bool.noConfusion ((qa).symm.trans h)
      rename_i hN
      clear hN
      conv => whnf
      split
      rotate_left
      · rename_i h
        exact Bool.noConfusion ((qb).symm.trans h)
      rename_i hN
      clear hN
      conv => whnf
      split
      rotate_left
      · rename_i h
        exact Bool.noConfusion ((qc).symm.trans h)
      rename_i hN
      clear hN
      conv => whnf
      refine .mk rfl (by simp) (by simpa [← hN] using k1) ?_ rfl ?_
      · show [IV.str (R.extract 0 (w64 (I + 1)).toNat)] = [.str (bytesS (lineF P (List.replicate k []).length))]
        rw [e1, List.length_replicate]
      intro bb
      cases bb
      · conv => whnf
        show N ≤ (List.replicate (N + 1) [] ++ List.replicate k []).length
        simp; omega
      · conv => whnf
        refine ⟨⟨(k + 1, r.drop (i + 1)), k3, by rw [List.length_drop]; omega⟩, ⟨⟨leV_refl _, leV_refl _, trivial⟩, ⟨⟨?_, trivial⟩, trivial⟩, rfl, rfl⟩, (by show (r.drop (i + 1)).length < r.length; rw [List.length_drop]; omega)⟩
        show IV.str (R.extract (w64 (I + 1)).toNat (R.size : Int).toNat) = _
        rw [e2]
theorem v_Lines (l : List UInt8) (hl : l.length ≤ 1000000000) : VisO prog gl n_strings_Lines_1 [[.str (bytesS l)]] (linesN (splitL 10 l)) (fun k => [.str (bytesS (lineF (splitL 10 l) k))]) :=
  vis_of_bodyO (Γ := Γs gl) (C := CsL gl) mixed0 tok0 ⟨fun _ _ _ _ _ h => h.1, fun _ _ _ _ h => h, fun _ _ _ _ _ h => h⟩ (fun _ _ _ _ _ h => h.2) h_strings_Lines_1 rfl rfl (by kernel_rfl) rfl rfl (lines_ivis l hl)
end Go.Proofs.YtfoenhiohhmnlaaGreatDoor.Ix

namespace Go.Proofs.YtfoenhiohhmnlaaGreatDoor.Ix
open Go.Proofs Go.Shelf
def laysAtoi_ren : Go.Shelf.Ren := ⟨fun | 172 => 75 | 244 => 96 | 245 => 97 | 247 => 113 | 279 => 114 | 280 => 115 | 281 => 116 | 282 => 117 | 287 => 126 | 316 => 127 | 171 => 76 | 205 => 128 | 321 => 136 | 322 => 137 | 243 => 98 | 246 => 118 | 283 => 129 | 284 => 130 | 285 => 131 | 286 => 132 | 129 => 139 | 317 => 138 | 318 => 140 | 319 => 141 | 320 => 142 | 337 => 143 | 338 => 144 | n => n, fun | 9 => 9 | 3 => 3 | 75 => 136 | 76 => 137 | 4 => 4 | 5 => 5 | 167 => 171 | 37 => 161 | 0 => 0 | 85 => 172 | 2 => 2 | 168 => 174 | 53 => 180 | 175 => 181 | 46 => 179 | 210 => 185 | 127 => 178 | 145 => 205 | 143 => 203 | 21 => 21 | 171 => 187 | 173 => 190 | 212 => 207 | 51 => 199 | 20 => 20 | 213 => 208 | 232 => 211 | 233 => 212 | 80 => 165 | n => n, fun | 15 => 2 | 16 => 3 | 17 => 6 | 18 => 7 | 19 => 8 | n => n⟩
theorem laysAtoi : Go.Proofs.LaysC.n172 Tryz.prog laysAtoi_ren := {
  mixed := by kernel_rfl
  f129 := Tryz.func139.trans (congrArg some (by kernel_rfl))
  f171 := Tryz.func76.trans (congrArg some (by kernel_rfl))
  f172 := Tryz.func75.trans (congrArg some (by kernel_rfl))
  f205 := Tryz.func128.trans (congrArg some (by kernel_rfl))
  f243 := Tryz.func98.trans (congrArg some (by kernel_rfl))
  f244 := Tryz.func96.trans (congrArg some (by kernel_rfl))
  f245 := Tryz.func97.trans (congrArg some (by kernel_rfl))
  f246 := Tryz.func118.trans (congrArg some (by kernel_rfl))
  f247 := Tryz.func113.trans (congrArg some (by kernel_rfl))
  f279 := Tryz.func114.trans (congrArg some (by kernel_rfl))
  f280 := Tryz.func115.trans (congrArg some (by kernel_rfl))
  f281 := Tryz.func116.trans (congrArg some (by kernel_rfl))
  f282 := Tryz.func117.trans (congrArg some (by kernel_rfl))
  f283 := Tryz.func129.trans (congrArg some (by kernel_rfl))
  f284 := Tryz.func130.trans (congrArg some (by kernel_rfl))
  f285 := Tryz.func131.trans (congrArg some (by kernel_rfl))
  f286 := Tryz.func132.trans (congrArg some (by kernel_rfl))
  f287 := Tryz.func126.trans (congrArg some (by kernel_rfl))
  f316 := Tryz.func127.trans (congrArg some (by kernel_rfl))
  f317 := Tryz.func138.trans (congrArg some (by kernel_rfl))
  f318 := Tryz.func140.trans (congrArg some (by kernel_rfl))
  f319 := Tryz.func141.trans (congrArg some (by kernel_rfl))
  f320 := Tryz.func142.trans (congrArg some (by kernel_rfl))
  f321 := Tryz.func136.trans (congrArg some (by kernel_rfl))
  f322 := Tryz.func137.trans (congrArg some (by kernel_rfl))
  f337 := Tryz.func143.trans (congrArg some (by kernel_rfl))
  f338 := Tryz.func144.trans (congrArg some (by kernel_rfl))
  t0 := Tryz.underlying0
  a0 := Tryz.isAgg0
  z0 := Tryz.sizeOf0
  v0 := Tryz.zeroValue0
  t2 := Tryz.underlying2
  a2 := Tryz.isAgg2
  z2 := Tryz.sizeOf2
  v2 := Tryz.zeroValue2
  t3 := Tryz.underlying3
  a3 := Tryz.isAgg3
  z3 := Tryz.sizeOf3
  v3 := Tryz.zeroValue3
  t4 := Tryz.underlying4
  a4 := Tryz.isAgg4
  z4 := Tryz.sizeOf4
  v4 := Tryz.zeroValue4
  t5 := Tryz.underlying5
  a5 := Tryz.isAgg5
  z5 := Tryz.sizeOf5
  v5 := Tryz.zeroValue5
  t9 := Tryz.underlying9
  a9 := Tryz.isAgg9
  z9 := Tryz.sizeOf9
  v9 := Tryz.zeroValue9
  t20 := Tryz.underlying20
  a20 := Tryz.isAgg20
  z20 := Tryz.sizeOf20
  v20 := Tryz.zeroValue20
  t21 := Tryz.underlying21
  a21 := Tryz.isAgg21
  z21 := Tryz.sizeOf21
  v21 := Tryz.zeroValue21
  t37 := Tryz.underlying161
  a37 := Tryz.isAgg161
  z37 := Tryz.sizeOf161
  v37 := Tryz.zeroValue161
  t46 := Tryz.underlying179
  a46 := Tryz.isAgg179
  z46 := Tryz.sizeOf179
  v46 := Tryz.zeroValue179
  t51 := Tryz.underlying199
  a51 := Tryz.isAgg199
  z51 := Tryz.sizeOf199
  v51 := Tryz.zeroValue199
  t53 := Tryz.underlying180
  a53 := Tryz.isAgg180
  z53 := Tryz.sizeOf180
  v53 := Tryz.zeroValue180
  t75 := Tryz.underlying136
  a75 := Tryz.isAgg136
  z75 := Tryz.sizeOf136
  v75 := Tryz.zeroValue136
  t76 := Tryz.underlying137
  a76 := Tryz.isAgg137
  z76 := Tryz.sizeOf137
  v76 := Tryz.zeroValue137
  t85 := Tryz.underlying172
  a85 := Tryz.isAgg172
  z85 := Tryz.sizeOf172
  v85 := Tryz.zeroValue172
  t127 := Tryz.underlying178
  a127 := Tryz.isAgg178
  z127 := Tryz.sizeOf178
  v127 := Tryz.zeroValue178
  t143 := Tryz.underlying203
  a143 := Tryz.isAgg203
  z143 := Tryz.sizeOf203
  v143 := Tryz.zeroValue203
  t145 := Tryz.underlying205
  a145 := Tryz.isAgg205
  z145 := Tryz.sizeOf205
  v145 := Tryz.zeroValue205
  t167 := Tryz.underlying171
  a167 := Tryz.isAgg171
  z167 := Tryz.sizeOf171
  v167 := Tryz.zeroValue171
  t168 := Tryz.underlying174
  a168 := Tryz.isAgg174
  z168 := Tryz.sizeOf174
  v168 := Tryz.zeroValue174
  t171 := Tryz.underlying187
  a171 := Tryz.isAgg187
  z171 := Tryz.sizeOf187
  v171 := Tryz.zeroValue187
  t173 := Tryz.underlying190
  a173 := Tryz.isAgg190
  z173 := Tryz.sizeOf190
  v173 := Tryz.zeroValue190
  t175 := Tryz.underlying181
  a175 := Tryz.isAgg181
  z175 := Tryz.sizeOf181
  v175 := Tryz.zeroValue181
  t210 := Tryz.underlying185
  a210 := Tryz.isAgg185
  z210 := Tryz.sizeOf185
  v210 := Tryz.zeroValue185
  t212 := Tryz.underlying207
  a212 := Tryz.isAgg207
  z212 := Tryz.sizeOf207
  v212 := Tryz.zeroValue207
  t213 := Tryz.underlying208
  a213 := Tryz.isAgg208
  z213 := Tryz.sizeOf208
  t232 := Tryz.underlying211
  a232 := Tryz.isAgg211
  z232 := Tryz.sizeOf211
  v232 := Tryz.zeroValue211
  t233 := Tryz.underlying212
  a233 := Tryz.isAgg212
  z233 := Tryz.sizeOf212
  v233 := Tryz.zeroValue212
  g15 := by kernel_rfl
  g16 := by kernel_rfl
  g17 := by kernel_rfl
  g18 := by kernel_rfl
  g19 := by kernel_rfl
  t80 := Tryz.underlying165
  a80 := Tryz.isAgg165
  z80 := Tryz.sizeOf165
  v80 := Tryz.zeroValue165
  i0 := by kernel_rfl
  i2 := by kernel_rfl
  i3 := by kernel_rfl
  i4 := by kernel_rfl
  i5 := by kernel_rfl
  i9 := by kernel_rfl
  i20 := by kernel_rfl
  i21 := by kernel_rfl
  i37 := by kernel_rfl
  i46 := by kernel_rfl
  i51 := by kernel_rfl
  i53 := by kernel_rfl
  i75 := by kernel_rfl
  i76 := by kernel_rfl
  i80 := by kernel_rfl
  i85 := by kernel_rfl
  i127 := by kernel_rfl
  i143 := by kernel_rfl
  i145 := by kernel_rfl
  i167 := by kernel_rfl
  i168 := by kernel_rfl
  i171 := by kernel_rfl
  i173 := by kernel_rfl
  i175 := by kernel_rfl
  i210 := by kernel_rfl
  i212 := by kernel_rfl
  i232 := by kernel_rfl
  i233 := by kernel_rfl
  m15 := by kernel_rfl
  m16 := by kernel_rfl
  m17 := by kernel_rfl
  m18 := by kernel_rfl
  m19 := by kernel_rfl
  c0 := by kernel_rfl
  c2 := by kernel_rfl
  c3 := by kernel_rfl
  c4 := by kernel_rfl
  c5 := by kernel_rfl
  c9 := by kernel_rfl
  c20 := by kernel_rfl
  c21 := by kernel_rfl
  c37 := by kernel_rfl
  c46 := by kernel_rfl
  c51 := by kernel_rfl
  c53 := by kernel_rfl
  c75 := by kernel_rfl
  c76 := by kernel_rfl
  c80 := by kernel_rfl
  c85 := by kernel_rfl
  c127 := by kernel_rfl
  c143 := by kernel_rfl
  c145 := by kernel_rfl
  c167 := by kernel_rfl
  c168 := by kernel_rfl
  c171 := by kernel_rfl
  c173 := by kernel_rfl
  c175 := by kernel_rfl
  c210 := by kernel_rfl
  c212 := by kernel_rfl
  c213 := by kernel_rfl
  c232 := by kernel_rfl
  c233 := by kernel_rfl }
def laysTrimPrefix_ren : Go.Shelf.Ren := ⟨fun | 101 => 77 | 208 => 99 | 206 => 119 | n => n, fun | 9 => 9 | 4 => 4 | 3 => 3 | n => n, fun | n => n⟩
theorem laysTrimPrefix : Go.Proofs.Lays.n101 Tryz.prog laysTrimPrefix_ren := {
  mixed := by kernel_rfl
  f101 := Tryz.func77.trans (congrArg some (by kernel_rfl))
  f206 := Tryz.func119.trans (congrArg some (by kernel_rfl))
  f208 := Tryz.func99.trans (congrArg some (by kernel_rfl))
  t3 := Tryz.underlying3
  a3 := Tryz.isAgg3
  z3 := Tryz.sizeOf3
  v3 := Tryz.zeroValue3
  t4 := Tryz.underlying4
  a4 := Tryz.isAgg4
  z4 := Tryz.sizeOf4
  v4 := Tryz.zeroValue4
  t9 := Tryz.underlying9
  a9 := Tryz.isAgg9
  z9 := Tryz.sizeOf9
  v9 := Tryz.zeroValue9 }
end Go.Proofs.YtfoenhiohhmnlaaGreatDoor.Ix

namespace Go.Proofs.YtfoenhiohhmnlaaGreatDoor.Ix
open Go.Proofs
set_option maxRecDepth 100000
set_option linter.unusedVariables false
set_option linter.unusedSimpArgs false
variable {gl : Nat → IV}
def atoiN (l : List UInt8) : Int := match Go.Lib.atoiAll l with
  | .ok v => v
  | .range => Go.Lib.atoiSat l
  | _ => 0
def atoiB (l : List UInt8) : Bool := match Go.Lib.atoiAll l with
  | .ok _ => true
  | _ => false
abbrev errI : IV := .vptr 1 1 (fun _ => [.ifc]) 0 0
def nilE (b : Bool) : IV := match b with
  | true => .lit .nilIface
  | false => .ifc
theorem err_in {w : World} {I : Imm} {X : Nat → Prop} {β : Beta} {σ : Nat → Sig} {up : List Ces} (m : MemR gl up w I X β σ) {g : Nat} (h : gl g = errI) : ∃ t p, w.cell? ⟨g, 0, none⟩ = some (.iface t p) := by
  have hd := m.glo g
  rw [h] at hd
  generalize hv : Value.pointer (some ⟨g, 0, none⟩) = v at hd
  cases hd with
  | vptr e n f i j b off gg hi hl hI h1 hD =>
    simp at hv
    obtain ⟨rfl, hoff⟩ := hv
    subst hoff
    have hx := m.im _ _ (hI 0 0 (by decide) (by decide))
    have hd := hD 0 0 .ifc (by decide) rfl
    generalize gg 0 0 = u at hx hd
    cases hd with
    | ifc d x => exact ⟨d, x, by simpa [hcell_none] using hx⟩
theorem c_Atoi (up : List Ces) (h2 : gl g_strconv_ErrSyntax = errI) (h3 : gl g_strconv_ErrRange = errI) (l : List UInt8) (hl : l.length ≤ 1000000000) :
    Cs gl n_strconv_Atoi up [.str (bytesS l)] (.tup [.int .i64 (atoiN l), nilE (atoiB l)]) up := by
  refine comp_of_below h_strconv_Atoi rfl rfl fun vals w I X β σ m hln ha => ?_
  obtain ⟨v, rfl⟩ := one_arg hln
  have hv : v = .string (bytesS l) := noSig_str (ha 0 _ rfl)
  subst hv
  have hsz : (bytesS l).size = l.length := bytesS_size l
  have hdat : (bytesS l).data.toList = l := bytesS_data l
  have tup : ∀ (n : Int) (x : IV) (v : Value), D I x v → D I (.tup [.int .i64 n, x]) (.tuple #[.int .i64 n, v]) := fun n x v hx => by
    refine .tup _ _ rfl fun j y hy => ?_
    match j, hy with
    | 0, hy => cases hy; exact .int _ _
    | 1, hy => cases hy; exact hx
  cases hA : Go.Lib.atoiAll l with
  | ok n =>
    have e1 : atoiN l = n := by unfold atoiN; rw [hA]
    have e2 : atoiB l = true := by unfold atoiB; rw [hA]
    rw [e1, e2]
    refine (Any.strconv_Atoi_ok laysAtoi (bytesS l) (by omega) n (by rw [hdat]; exact hA) w).mono ?_
    rintro e w' ⟨rfl, hw⟩
    refine ⟨_, rfl, tup _ _ _ (.lit _ rfl), ?_⟩
    rcases hw with rfl | ⟨t, rfl⟩
    · exact Go.RowKit.Below.refl _ _
    · exact Go.Lib.bytesWorld_below _ _ _
  | range =>
    have e1 : atoiN l = Go.Lib.atoiSat l := by unfold atoiN; rw [hA]
    have e2 : atoiB l = false := by unfold atoiB; rw [hA]
    rw [e1, e2]
    obtain ⟨t, p, hc⟩ := err_in m h3
    refine (Any.strconv_Atoi_range laysAtoi (bytesS l) (by omega) (by rw [hdat]; exact hA) (.iface t p) w hc (.inr ⟨t, p, rfl⟩)).mono ?_
    rintro e w' ⟨N, rfl, _, _, hb⟩
    rw [hdat]
    exact ⟨_, rfl, tup _ _ _ (.ifc _ _), hb⟩
  | _ =>
    have e1 : atoiN l = 0 := by unfold atoiN; rw [hA]
    have e2 : atoiB l = false := by unfold atoiB; rw [hA]
    rw [e1, e2]
    obtain ⟨t, p, hc⟩ := err_in m h2
    refine (Any.strconv_Atoi_syntax laysAtoi (bytesS l) (by omega) (by rw [hdat]; exact hA) (.iface t p) w hc (.inr ⟨t, p, rfl⟩)).mono ?_
    rintro e w' ⟨N, rfl, _, _, hb⟩
    exact ⟨_, rfl, tup _ _ _ (.ifc _ _), hb⟩
theorem atoi_i64 (l : List UInt8) : i64 (atoiN l) := by
  unfold atoiN
  cases hA : Go.Lib.atoiAll l with
  | ok n => have := Go.Lib.atoiAll_bounds hA; simp only; unfold i64; omega
  | range => simp only; unfold Go.Lib.atoiSat i64; split <;> omega
  | _ => simp only; unfold i64; omega
theorem c_TrimPrefix (up : List Ces) (l p : List UInt8) : Cs gl n_strings_TrimPrefix up [.str (bytesS l), .str (bytesS p)] (.str (bytesS (Go.Lib.trimPrefix l p))) up := by
  refine comp_of_below h_strings_TrimPrefix rfl rfl fun vals w I X β σ m hln ha => ?_
  obtain ⟨v, u, rfl⟩ := two_args hln
  have hv : v = .string (bytesS l) := noSig_str (ha 0 _ rfl)
  have hu : u = .string (bytesS p) := noSig_str (ha 1 _ rfl)
  subst hv; subst hu
  refine (Any.strings_TrimPrefix laysTrimPrefix (bytesS l) (bytesS p) w).mono ?_
  rintro e w' ⟨rfl, rfl⟩
  rw [bytesS_data, bytesS_data]
  exact ⟨_, rfl, .str _, Go.RowKit.Below.refl _ _⟩
def goodW (l : List UInt8) : Bool := (atoiB l && decide (Go.Lib.itoa (atoiN l) = l)) && decide ((Go.Lib.trimPrefix l [45]).length ≤ 9)
theorem bytes_eq (a b : List UInt8) : ((bytesS a).toList == (bytesS b).toList) = decide (a = b) := by
  rw [Go.Lib.toList_data, Go.Lib.toList_data, bytesS_data, bytesS_data]
  by_cases h : a = b
  · subst h; simp
  · rw [decide_eq_false h]; simpa using h
set_option maxHeartbeats 4000000 in
theorem c_integers1 (ce0 : Ces) (up : List Ces) (hp : gl g_internal_strconv_uint64pow10 = powI) (h2 : gl g_strconv_ErrSyntax = errI) (h3 : gl g_strconv_ErrRange = errI) (l : List UInt8) (hl : l.length ≤ 1000000000) (g : Bool) :
    Cs gl n_rotor_integers_1 (ce0 :: [(4, [.bool g])] :: up) [.str (bytesS l), .ptr 2 4 0] (.int .i64 (atoiN l)) (ce0 :: [(4, [.bool (g && goodW l)])] :: up) := by
  have hA := fun up => c_Atoi (gl := gl) up h2 h3 l hl
  have hI := fun up => c_Itoa (gl := gl) up hp (atoiN l) (atoi_i64 l)
  have hT := fun up => c_TrimPrefix (gl := gl) up l [45]
  have hq := bytes_eq (Go.Lib.itoa (atoiN l)) l
  have hsz : (bytesS (Go.Lib.trimPrefix l [45])).size = (Go.Lib.trimPrefix l [45]).length := bytesS_size _
  unfold goodW
  obtain ⟨n, hn⟩ : ∃ n, n = atoiN l := ⟨_, rfl⟩
  obtain ⟨b, hb⟩ : ∃ b, b = atoiB l := ⟨_, rfl⟩
  obtain ⟨c, hc⟩ : ∃ c, c = decide (Go.Lib.itoa (atoiN l) = l) := ⟨_, rfl⟩
  rw [← hc] at hq ⊢
  rw [← hn, ← hb] at hA
  rw [← hn] at hI hq ⊢
  rw [← hb]
  obtain ⟨s, hs⟩ : ∃ s, s = bytesS l := ⟨_, rfl⟩
  obtain ⟨u, hu⟩ : ∃ u, u = bytesS (Go.Lib.itoa n) := ⟨_, rfl⟩
  obtain ⟨t, ht⟩ : ∃ t, t = bytesS (Go.Lib.trimPrefix l [45]) := ⟨_, rfl⟩
  rw [← hs] at hA hT hq ⊢
  rw [← hu] at hI hq
  rw [← ht] at hT hsz
  have q9 : decide ((t.size : Int) ≤ 9) = decide ((Go.Lib.trimPrefix l [45]).length ≤ 9) := by
    rw [hsz]
    by_cases h : (Go.Lib.trimPrefix l [45]).length ≤ 9
    · rw [decide_eq_true h]; exact decide_eq_true (by omega)
    · rw [decide_eq_false h]; exact decide_eq_false (by omega)
  obtain ⟨d, hd⟩ : ∃ d, d = decide ((Go.Lib.trimPrefix l [45]).length ≤ 9) := ⟨_, rfl⟩
  rw [← hd] at q9 ⊢
  cases g with
  | false =>
    cases b with
    | false =>
      refine mk h_rotor_integers_1 rfl rfl ?_
      conv => whnf
      repeat first
        | (refine DRAW.seek ?_; repeat (first | refine TRYD.take ?_ | refine TRYD.next ?_); conv => whnf)
        | (refine HOLD.mk (by first | exact trivial | exact ⟨⟨rfl, rfl⟩, trivial⟩ | exact ⟨⟨rfl, rfl⟩, ⟨rfl, rfl⟩, trivial⟩) ?_; (conv => whnf))
        | (refine CALL0.by (hA ..) rfl ?_; conv => whnf)
        | (refine CALLQ.mk _ _ _ (leL_refl _) (hA ..) rfl ?_; conv => whnf)
        | (refine CALL0.by (hI ..) rfl ?_; conv => whnf)
        | (refine CALLQ.mk _ _ _ (leL_refl _) (hI ..) rfl ?_; conv => whnf)
        | (refine CALL0.by (hT ..) rfl ?_; conv => whnf)
        | (refine CALLQ.mk _ _ _ (leL_refl _) (hT ..) rfl ?_; conv => whnf)
      exact ⟨rfl, rfl⟩
    | true =>
      refine mk h_rotor_integers_1 rfl rfl ?_
      conv => whnf
      repeat first
        | (refine DRAW.seek ?_; repeat (first | refine TRYD.take ?_ | refine TRYD.next ?_); conv => whnf)
        | (refine HOLD.mk (by first | exact trivial | exact ⟨⟨rfl, rfl⟩, trivial⟩ | exact ⟨⟨rfl, rfl⟩, ⟨rfl, rfl⟩, trivial⟩) ?_; (conv => whnf))
        | (refine CALL0.by (hA ..) rfl ?_; conv => whnf)
        | (refine CALLQ.mk _ _ _ (leL_refl _) (hA ..) rfl ?_; conv => whnf)
        | (refine CALL0.by (hI ..) rfl ?_; conv => whnf)
        | (refine CALLQ.mk _ _ _ (leL_refl _) (hI ..) rfl ?_; conv => whnf)
        | (refine CALL0.by (hT ..) rfl ?_; conv => whnf)
        | (refine CALLQ.mk _ _ _ (leL_refl _) (hT ..) rfl ?_; conv => whnf)
      exact ⟨rfl, rfl⟩
  | true =>
  cases b with
  | false =>
    refine mk h_rotor_integers_1 rfl rfl ?_
    conv => whnf
    repeat first
      | (refine DRAW.seek ?_; repeat (first | refine TRYD.take ?_ | refine TRYD.next ?_); conv => whnf)
      | (refine HOLD.mk (by first | exact trivial | exact ⟨⟨rfl, rfl⟩, trivial⟩ | exact ⟨⟨rfl, rfl⟩, ⟨rfl, rfl⟩, trivial⟩) ?_; (conv => whnf))
      | (refine CALL0.by (hA ..) rfl ?_; conv => whnf)
      | (refine CALLQ.mk _ _ _ (leL_refl _) (hA ..) rfl ?_; conv => whnf)
      | (refine CALL0.by (hI ..) rfl ?_; conv => whnf)
      | (refine CALLQ.mk _ _ _ (leL_refl _) (hI ..) rfl ?_; conv => whnf)
      | (refine CALL0.by (hT ..) rfl ?_; conv => whnf)
      | (refine CALLQ.mk _ _ _ (leL_refl _) (hT ..) rfl ?_; conv => whnf)
    exact ⟨rfl, rfl⟩
  | true =>
  cases c with
  | false =>
    refine mk h_rotor_integers_1 rfl rfl ?_
    conv => whnf
    repeat first
      | (refine DRAW.seek ?_; repeat (first | refine TRYD.take ?_ | refine TRYD.next ?_); conv => whnf)
      | (refine HOLD.mk (by first | exact trivial | exact ⟨⟨rfl, rfl⟩, trivial⟩ | exact ⟨⟨rfl, rfl⟩, ⟨rfl, rfl⟩, trivial⟩) ?_; (conv => whnf))
      | (refine CALL0.by (hA ..) rfl ?_; conv => whnf)
      | (refine CALLQ.mk _ _ _ (leL_refl _) (hA ..) rfl ?_; conv => whnf)
      | (refine CALL0.by (hI ..) rfl ?_; conv => whnf)
      | (refine CALLQ.mk _ _ _ (leL_refl _) (hI ..) rfl ?_; conv => whnf)
      | (refine CALL0.by (hT ..) rfl ?_; conv => whnf)
      | (refine CALLQ.mk _ _ _ (leL_refl _) (hT ..) rfl ?_; conv => whnf)
    split
    · rename_i h
      exact Bool.noConfusion ((hq).symm.trans h)
    rename_i hN
    clear hN
    conv => whnf
    repeat first
      | (refine DRAW.seek ?_; repeat (first | refine TRYD.take ?_ | refine TRYD.next ?_); conv => whnf)
      | (refine HOLD.mk (by first | exact trivial | exact ⟨⟨rfl, rfl⟩, trivial⟩ | exact ⟨⟨rfl, rfl⟩, ⟨rfl, rfl⟩, trivial⟩) ?_; (conv => whnf))
      | (refine CALL0.by (hA ..) rfl ?_; conv => whnf)
      | (refine CALLQ.mk _ _ _ (leL_refl _) (hA ..) rfl ?_; conv => whnf)
      | (refine CALL0.by (hI ..) rfl ?_; conv => whnf)
      | (refine CALLQ.mk _ _ _ (leL_refl _) (hI ..) rfl ?_; conv => whnf)
      | (refine CALL0.by (hT ..) rfl ?_; conv => whnf)
      | (refine CALLQ.mk _ _ _ (leL_refl _) (hT ..) rfl ?_; conv => whnf)
    exact ⟨rfl, rfl⟩
  | true =>
  cases d with
  | false =>
    refine mk h_rotor_integers_1 rfl rfl ?_
    conv => whnf
    repeat first
      | (refine DRAW.seek ?_; repeat (first | refine TRYD.take ?_ | refine TRYD.next ?_); conv => whnf)
      | (refine HOLD.mk (by first | exact trivial | exact ⟨⟨rfl, rfl⟩, trivial⟩ | exact ⟨⟨rfl, rfl⟩, ⟨rfl, rfl⟩, trivial⟩) ?_; (conv => whnf))
      | (refine CALL0.by (hA ..) rfl ?_; conv => whnf)
      | (refine CALLQ.mk _ _ _ (leL_refl _) (hA ..) rfl ?_; conv => whnf)
      | (refine CALL0.by (hI ..) rfl ?_; conv => whnf)
      | (refine CALLQ.mk _ _ _ (leL_refl _) (hI ..) rfl ?_; conv => whnf)
      | (refine CALL0.by (hT ..) rfl ?_; conv => whnf)
      | (refine CALLQ.mk _ _ _ (leL_refl _) (hT ..) rfl ?_; conv => whnf)
    split
    rotate_left
    · rename_i h
      exact Bool.noConfusion ((hq).symm.trans h)
    rename_i hN
    clear hN
    conv => whnf
    repeat first
      | (refine DRAW.seek ?_; repeat (first | refine TRYD.take ?_ | refine TRYD.next ?_); conv => whnf)
      | (refine HOLD.mk (by first | exact trivial | exact ⟨⟨rfl, rfl⟩, trivial⟩ | exact ⟨⟨rfl, rfl⟩, ⟨rfl, rfl⟩, trivial⟩) ?_; (conv => whnf))
      | (refine CALL0.by (hA ..) rfl ?_; conv => whnf)
      | (refine CALLQ.mk _ _ _ (leL_refl _) (hA ..) rfl ?_; conv => whnf)
      | (refine CALL0.by (hI ..) rfl ?_; conv => whnf)
      | (refine CALLQ.mk _ _ _ (leL_refl _) (hI ..) rfl ?_; conv => whnf)
      | (refine CALL0.by (hT ..) rfl ?_; conv => whnf)
      | (refine CALLQ.mk _ _ _ (leL_refl _) (hT ..) rfl ?_; conv => whnf)
    exact ⟨rfl, by rw [q9]; rfl⟩
  | true =>
    refine mk h_rotor_integers_1 rfl rfl ?_
    conv => whnf
    repeat first
      | (refine DRAW.seek ?_; repeat (first | refine TRYD.take ?_ | refine TRYD.next ?_); conv => whnf)
      | (refine HOLD.mk (by first | exact trivial | exact ⟨⟨rfl, rfl⟩, trivial⟩ | exact ⟨⟨rfl, rfl⟩, ⟨rfl, rfl⟩, trivial⟩) ?_; (conv => whnf))
      | (refine CALL0.by (hA ..) rfl ?_; conv => whnf)
      | (refine CALLQ.mk _ _ _ (leL_refl _) (hA ..) rfl ?_; conv => whnf)
      | (refine CALL0.by (hI ..) rfl ?_; conv => whnf)
      | (refine CALLQ.mk _ _ _ (leL_refl _) (hI ..) rfl ?_; conv => whnf)
      | (refine CALL0.by (hT ..) rfl ?_; conv => whnf)
      | (refine CALLQ.mk _ _ _ (leL_refl _) (hT ..) rfl ?_; conv => whnf)
    split
    rotate_left
    · rename_i h
      exact Bool.noConfusion ((hq).symm.trans h)
    rename_i hN
    clear hN
    conv => whnf
    repeat first
      | (refine DRAW.seek ?_; repeat (first | refine TRYD.take ?_ | refine TRYD.next ?_); conv => whnf)
      | (refine HOLD.mk (by first | exact trivial | exact ⟨⟨rfl, rfl⟩, trivial⟩ | exact ⟨⟨rfl, rfl⟩, ⟨rfl, rfl⟩, trivial⟩) ?_; (conv => whnf))
      | (refine CALL0.by (hA ..) rfl ?_; conv => whnf)
      | (refine CALLQ.mk _ _ _ (leL_refl _) (hA ..) rfl ?_; conv => whnf)
      | (refine CALL0.by (hI ..) rfl ?_; conv => whnf)
      | (refine CALLQ.mk _ _ _ (leL_refl _) (hI ..) rfl ?_; conv => whnf)
      | (refine CALL0.by (hT ..) rfl ?_; conv => whnf)
      | (refine CALLQ.mk _ _ _ (leL_refl _) (hT ..) rfl ?_; conv => whnf)
    exact ⟨rfl, by rw [q9]; rfl⟩
end Go.Proofs.YtfoenhiohhmnlaaGreatDoor.Ix

namespace Go.Proofs.YtfoenhiohhmnlaaGreatDoor.Ix
open Go.Proofs
set_option maxRecDepth 100000
set_option linter.unusedVariables false
set_option linter.unusedSimpArgs false
variable {gl : Nat → IV}
def loadS (a b c : Int) : Int := orE (withinS a (-1000000) 1000000) (orE (withinS b (-1000000) 1000000) (withinS c (-1000000) 1000000))
theorem c_checkLoads (up : List Ces) (a b c : Int) : Cs gl n_rotor_checkLoads up [.agg [.int .i64 a, .int .i64 b, .int .i64 c]] (.int .i64 (loadS a b c)) up := by
  refine mk h_rotor_checkLoads rfl rfl ?_
  conv => whnf
  refine .mk _ _ _ _ _ ?_ (c_mapped _ 3 (by decide) (fun i => [a, b, c].getD i 0) (fun i => withinS ([a, b, c].getD i 0) (-1000000) 1000000) n_rotor_checkLoads_1 (fun up i _ => c_checkLoads1 up _)) rfl ?_
  · refine ⟨⟨.inl rfl, rfl, rfl, fun i hi => ?_⟩, rfl, trivial⟩
    match i, hi with
    | 0, _ => rfl
    | 1, _ => rfl
    | 2, _ => rfl
  conv => whnf
  refine .mk _ _ _ _ _ (leL_refl _) (c_f3 _ _ _ _ _ rfl rfl rfl) rfl ?_
  conv => whnf
  exact ⟨rfl, rfl⟩
theorem loadS_ok {a b c : Int} (h : loadS a b c = 0) : (-1000000 ≤ a ∧ a ≤ 1000000) ∧ (-1000000 ≤ b ∧ b ≤ 1000000) ∧ (-1000000 ≤ c ∧ c ≤ 1000000) := by
  unfold loadS at h
  simpa only [orE_zero, withinS_zero] using h
def splitR (a b c : Int) : IV :=
  bif loadS a b c != 0 then .tup [.int .i64 0, .agg [.int .i64 0, .int .i64 0], .int .i64 (loadS a b c)]
  else .tup [.int .i64 (a + b + c), .agg [.int .i64 (a - c), .int .i64 (b - c)], .int .i64 0]
theorem c_Split (up : List Ces) (a b c : Int) : Cs gl n_rotor_Split up [.agg [.int .i64 a, .int .i64 b, .int .i64 c]] (splitR a b c) up := by
  refine mk h_rotor_Split rfl rfl ?_
  unfold splitR
  conv => whnf
  refine .mk _ _ _ _ _ (leL_refl _) (c_checkLoads _ _ _ _) rfl ?_
  conv => whnf
  split
  · rename_i h
    have h : (loadS a b c != 0) = true := h
    conv => whnf
    refine ⟨?_, rfl⟩
    rw [h]; rfl
  · rename_i h
    have h : (loadS a b c != 0) = false := h
    rw [h, cond_false]
    obtain ⟨h1, h2, h3⟩ := loadS_ok (show loadS a b c = 0 by simpa using h)
    have e1 : w64 (w64 (a + b) + c) = a + b + c := by
      have : w64 (a + b) = a + b := by rw [w64, wrap_in] <;> omega
      rw [this, w64, wrap_in] <;> omega
    have e2 : w64 (a - c) = a - c := by rw [w64, wrap_in] <;> omega
    have e3 : w64 (b - c) = b - c := by rw [w64, wrap_in] <;> omega
    conv => whnf
    split
    · rename_i g
      have g : (a == 0 && (b == 0 && (c == 0 && true))) = true := g
      simp at g
      obtain ⟨rfl, rfl, rfl⟩ := g
      conv => whnf
      exact ⟨rfl, rfl⟩
    · conv => whnf
      refine .mk 10 (by kernel_rfl) ?_
      conv => whnf
      first | refine CALLQ.mk _ _ _ (leL_refl _) (c_component _ _ _ _) rfl ?_ | refine CALL0.mk _ _ _ _ _ (leL_refl _) (c_component _ _ _ _) rfl ?_
      conv => whnf
      refine ⟨?_, rfl⟩
      show IV.tup [.int .i64 (w64 (w64 (a + b) + c)), .agg [.int .i64 (w64 (a - c)), .int .i64 (w64 (b - c))], .int .i64 0] = _
      rw [e1, e2, e3]
def pairS (a b : Int) : Int := orE (withinS a (-999999999) 999999999) (withinS b (-999999999) 999999999)
theorem c_PairCheck (up : List Ces) (a b : Int) : Cs gl n_rotor_Pair_check up [.agg [.int .i64 a, .int .i64 b]] (.int .i64 (pairS a b)) up := by
  refine mk h_rotor_Pair_check rfl rfl ?_
  conv => whnf
  refine .mk 8 (by kernel_rfl) ?_
  conv => whnf
  first | refine CALLQ.mk _ _ _ (leL_refl _) (c_within _ _ _ _) rfl ?_ | refine CALL0.mk _ _ _ _ _ (leL_refl _) (c_within _ _ _ _) rfl ?_
  conv => whnf
  first | refine CALLQ.mk _ _ _ (leL_refl _) (c_within _ _ _ _) rfl ?_ | refine CALL0.mk _ _ _ _ _ (leL_refl _) (c_within _ _ _ _) rfl ?_
  conv => whnf
  first | refine CALLQ.mk _ _ _ (leL_refl _) (c_f2 _ _ _ _ rfl rfl) rfl ?_ | refine CALL0.mk _ _ _ _ _ (leL_refl _) (c_f2 _ _ _ _ rfl rfl) rfl ?_
  conv => whnf
  exact ⟨rfl, rfl⟩
theorem pairS_ok {a b : Int} (h : pairS a b = 0) : (-999999999 ≤ a ∧ a ≤ 999999999) ∧ (-999999999 ≤ b ∧ b ≤ 999999999) := by
  unfold pairS at h
  simpa only [orE_zero, withinS_zero] using h
theorem mulA {x y A B : Int} (h1 : -A ≤ x ∧ x ≤ A) (h3 : -B ≤ y ∧ y ≤ B) : -(A * B) ≤ x * y ∧ x * y ≤ A * B := by
  by_cases hx : 0 ≤ x
  · by_cases hy : 0 ≤ y
    · have := mulB hx h1.2 hy h3.2; omega
    · have := mulB (y := -y) hx h1.2 (by omega) (show -y ≤ B by omega)
      rw [Int.mul_neg] at this; omega
  · by_cases hy : 0 ≤ y
    · have := mulB (x := -x) (by omega) (show -x ≤ A by omega) hy h3.2
      rw [Int.neg_mul] at this; omega
    · have := mulB (x := -x) (y := -y) (by omega) (show -x ≤ A by omega) (by omega) (show -y ≤ B by omega)
      rw [Int.neg_mul_neg] at this; omega
def normR (a b : Int) : IV :=
  bif pairS a b != 0 then .tup [.int .i64 0, .int .i64 (pairS a b)] else .tup [.int .i64 (a * a - a * b + b * b), .int .i64 0]
theorem c_Norm (up : List Ces) (a b : Int) : Cs gl n_rotor_Norm up [.agg [.int .i64 a, .int .i64 b]] (normR a b) up := by
  refine mk h_rotor_Norm rfl rfl ?_
  unfold normR
  conv => whnf
  refine .mk _ _ _ _ _ (leL_refl _) (c_PairCheck _ _ _) rfl ?_
  conv => whnf
  split
  · rename_i h
    have h : (pairS a b != 0) = true := h
    conv => whnf
    refine ⟨?_, rfl⟩
    rw [h]; rfl
  · rename_i h
    have h : (pairS a b != 0) = false := h
    rw [h, cond_false]
    obtain ⟨h1, h2⟩ := pairS_ok (show pairS a b = 0 by simpa using h)
    have b1 := mulA (A := 999999999) (B := 999999999) h1 h1
    have b2 := mulA (A := 999999999) (B := 999999999) h1 h2
    have b3 := mulA (A := 999999999) (B := 999999999) h2 h2
    have e1 : w64 (a * a) = a * a := by rw [w64, wrap_in] <;> omega
    have e2 : w64 (a * b) = a * b := by rw [w64, wrap_in] <;> omega
    have e3 : w64 (b * b) = b * b := by rw [w64, wrap_in] <;> omega
    have e4 : w64 (a * a - a * b) = a * a - a * b := by rw [w64, wrap_in] <;> omega
    have e5 : w64 (a * a - a * b + b * b) = a * a - a * b + b * b := by rw [w64, wrap_in] <;> omega
    conv => whnf
    refine ⟨?_, rfl⟩
    show IV.tup [.int .i64 (w64 (w64 (w64 (a * a) - w64 (a * b)) + w64 (b * b))), .int .i64 0] = _
    rw [e1, e2, e3, e4, e5]
end Go.Proofs.YtfoenhiohhmnlaaGreatDoor.Ix

namespace Go.Proofs.YtfoenhiohhmnlaaGreatDoor.Ix
open Go.Proofs
set_option maxRecDepth 100000
set_option linter.unusedVariables false
set_option linter.unusedSimpArgs false
variable {gl : Nat → IV}
abbrev rootsI : IV := .vptr 6 1 (fun _ => [.int .i64 1, .int .i64 0, .int .i64 0, .int .i64 1, .int .i64 (-1), .int .i64 (-1)]) 0 0
def timesP (a b c d : Int) : Int × Int := (a * c - b * d, a * d + b * c - b * d)
theorem c_times (up : List Ces) (a b c d : Int) (ha : -999999999 ≤ a ∧ a ≤ 999999999) (hb : -999999999 ≤ b ∧ b ≤ 999999999) (hc : -999999999 ≤ c ∧ c ≤ 999999999) (hd : -999999999 ≤ d ∧ d ≤ 999999999) :
    Cs gl n_rotor_Pair_times up [.agg [.int .i64 a, .int .i64 b], .agg [.int .i64 c, .int .i64 d]] (.agg [.int .i64 (timesP a b c d).1, .int .i64 (timesP a b c d).2]) up := by
  refine mk h_rotor_Pair_times rfl rfl ?_
  have b1 := mulA (A := 999999999) (B := 999999999) ha hc
  have b2 := mulA (A := 999999999) (B := 999999999) hb hd
  have b3 := mulA (A := 999999999) (B := 999999999) ha hd
  have b4 := mulA (A := 999999999) (B := 999999999) hb hc
  have e1 : w64 (a * c) = a * c := by rw [w64, wrap_in] <;> omega
  have e2 : w64 (b * d) = b * d := by rw [w64, wrap_in] <;> omega
  have e3 : w64 (a * d) = a * d := by rw [w64, wrap_in] <;> omega
  have e4 : w64 (b * c) = b * c := by rw [w64, wrap_in] <;> omega
  have e5 : w64 (a * c - b * d) = a * c - b * d := by rw [w64, wrap_in] <;> omega
  have e6 : w64 (a * d + b * c) = a * d + b * c := by rw [w64, wrap_in] <;> omega
  have e7 : w64 (a * d + b * c - b * d) = a * d + b * c - b * d := by rw [w64, wrap_in] <;> omega
  conv => whnf
  refine ⟨?_, rfl⟩
  show IV.agg [.int .i64 (w64 (w64 (a * c) - w64 (b * d))), .int .i64 (w64 (w64 (w64 (a * d) + w64 (b * c)) - w64 (b * d)))] = _
  rw [e1, e2, e3, e4, e5, e6, e7]; rfl
def thirdS (n : Int) : Int := (n.tmod 3 + 3).tmod 3
def turnP (a b n : Int) : Int × Int := if thirdS n = 0 then (a, b) else if thirdS n = 1 then (-b, a - b) else (b - a, -a)
theorem thirdS_cases (n : Int) : thirdS n = 0 ∨ thirdS n = 1 ∨ thirdS n = 2 := by
  unfold thirdS
  have h1 := Int.tmod_lt_of_pos n (show (0 : Int) < 3 by decide)
  have h2 : -3 < n.tmod 3 := by
    have := Int.neg_le_neg (Int.le_of_lt (Int.tmod_lt_of_pos (-n) (show (0 : Int) < 3 by decide)))
    have h3 := Int.tmod_lt_of_pos (-n) (show (0 : Int) < 3 by decide)
    rw [Int.neg_tmod] at h3
    omega
  rw [Int.tmod_eq_emod_of_nonneg (by omega)]
  omega
theorem evo_gl {P : Program} {T : Nat → Ty} {gl : Nat → IV} {nt : Nat} {vis : Nat → List IV → Nat → (Nat → List IV) → Prop} {yld : Option (Nat × Nat × (Nat → List IV))} {ds : Option (List Deferred)} {rw : List Nat} {S : St} {n : Nat} {v : IV} (h : gl n = v) : evo ⟨P, T, gl, nt, vis, yld, ds, rw⟩ S (.global n) = v := h
theorem c_turned (up : List Ces) (hg : gl g_rotor_roots = rootsI) (a b n : Int) (ha : -999999999 ≤ a ∧ a ≤ 999999999) (hb : -999999999 ≤ b ∧ b ≤ 999999999) :
    Cs gl n_rotor_Pair_turned up [.agg [.int .i64 a, .int .i64 b], .int .i64 n] (.agg [.int .i64 (turnP a b n).1, .int .i64 (turnP a b n).2]) up := by
  refine mk h_rotor_Pair_turned rfl rfl ?_
  have hw : w64 (n.tmod 3 + 3) = n.tmod 3 + 3 := by
    have h1 := Int.tmod_lt_of_pos n (show (0 : Int) < 3 by decide)
    have h3 := Int.tmod_lt_of_pos (-n) (show (0 : Int) < 3 by decide)
    rw [Int.neg_tmod] at h3
    rw [w64, wrap_in] <;> omega
  have ht : (IntKind.i64.wrap (n.tmod 3 + 3)).tmod 3 = thirdS n := by
    show (w64 (n.tmod 3 + 3)).tmod 3 = _
    rw [hw]; rfl
  conv => whnf
  refine .mk 8 (by kernel_rfl) ?_
  conv => whnf
  rw [ht]
  rcases thirdS_cases n with e | e | e
  · have r : turnP a b n = timesP a b 1 0 := by
      unfold turnP timesP
      rw [if_pos e]; simp
    rw [e, r]
    conv => whnf
    rw [evo_gl hg]
    conv => whnf
    first | refine CALLQ.mk _ _ _ (leL_refl _) (c_times _ _ _ _ _ ha hb (by decide) (by decide)) rfl ?_ | refine CALL0.mk _ _ _ _ _ (leL_refl _) (c_times _ _ _ _ _ ha hb (by decide) (by decide)) rfl ?_
    conv => whnf
    exact ⟨rfl, rfl⟩
  · have r : turnP a b n = timesP a b 0 1 := by
      unfold turnP timesP
      rw [if_neg (by omega), if_pos e]; simp
    rw [e, r]
    conv => whnf
    rw [evo_gl hg]
    conv => whnf
    first | refine CALLQ.mk _ _ _ (leL_refl _) (c_times _ _ _ _ _ ha hb (by decide) (by decide)) rfl ?_ | refine CALL0.mk _ _ _ _ _ (leL_refl _) (c_times _ _ _ _ _ ha hb (by decide) (by decide)) rfl ?_
    conv => whnf
    exact ⟨rfl, rfl⟩
  · have r : turnP a b n = timesP a b (-1) (-1) := by
      unfold turnP timesP
      rw [if_neg (by omega), if_neg (by omega)]; simp; omega
    rw [e, r]
    conv => whnf
    rw [evo_gl hg]
    conv => whnf
    first | refine CALLQ.mk _ _ _ (leL_refl _) (c_times _ _ _ _ _ ha hb (by decide) (by decide)) rfl ?_ | refine CALL0.mk _ _ _ _ _ (leL_refl _) (c_times _ _ _ _ _ ha hb (by decide) (by decide)) rfl ?_
    conv => whnf
    exact ⟨rfl, rfl⟩
def turnErr (a b n : Int) : Int := orE (pairS a b) (withinS n (-999999999) 999999999)
def turnR (a b n : Int) : IV :=
  bif turnErr a b n != 0 then .tup [.agg [.int .i64 0, .int .i64 0], .int .i64 (turnErr a b n)] else .tup [.agg [.int .i64 (turnP a b n).1, .int .i64 (turnP a b n).2], .int .i64 0]
theorem c_Turn (up : List Ces) (hg : gl g_rotor_roots = rootsI) (a b n : Int) : Cs gl n_rotor_Turn up [.agg [.int .i64 a, .int .i64 b], .int .i64 n] (turnR a b n) up := by
  refine mk h_rotor_Turn rfl rfl ?_
  unfold turnR
  conv => whnf
  refine .mk _ _ _ _ _ (leL_refl _) (c_PairCheck _ _ _) rfl ?_
  conv => whnf
  refine .mk _ _ _ _ _ (leL_refl _) (c_within _ _ _ _) rfl ?_
  conv => whnf
  refine .mk _ _ _ _ _ (leL_refl _) (c_f2 _ _ _ _ rfl rfl) rfl ?_
  conv => whnf
  split
  · rename_i h
    have h : (turnErr a b n != 0) = true := h
    conv => whnf
    refine ⟨?_, rfl⟩
    rw [h]; rfl
  · rename_i h
    have h : (turnErr a b n != 0) = false := h
    rw [h, cond_false]
    have h0 : turnErr a b n = 0 := by simpa using h
    unfold turnErr at h0
    rw [orE_zero] at h0
    obtain ⟨k1, k2⟩ := pairS_ok h0.1
    conv => whnf
    refine .mk _ _ _ _ _ (leL_refl _) (c_turned _ hg _ _ _ k1 k2) rfl ?_
    conv => whnf
    exact ⟨rfl, rfl⟩
def mergeE (s a b : Int) : Int := orE (withinS s (-3000000) 3000000) (pairS a b)
def mergeR (s a b : Int) : IV :=
  bif mergeE s a b != 0 then .tup [.agg [.int .i64 0, .int .i64 0, .int .i64 0], .int .i64 (mergeE s a b)] else
    bif (s - a - b).tmod 3 != 0 then .tup [.agg [.int .i64 0, .int .i64 0, .int .i64 0], .int .i64 30] else
      let t := (s - a - b).tdiv 3
      bif loadS (a + t) (b + t) t != 0 then .tup [.agg [.int .i64 0, .int .i64 0, .int .i64 0], .int .i64 (loadS (a + t) (b + t) t)] else .tup [.agg [.int .i64 (a + t), .int .i64 (b + t), .int .i64 t], .int .i64 0]
theorem c_Merge (up : List Ces) (s a b : Int) : Cs gl n_rotor_Merge up [.int .i64 s, .agg [.int .i64 a, .int .i64 b]] (mergeR s a b) up := by
  refine mk h_rotor_Merge rfl rfl ?_
  unfold mergeR
  conv => whnf
  refine .mk 6 (by kernel_rfl) ?_
  conv => whnf
  first | refine CALLQ.mk _ _ _ (leL_refl _) (c_within _ _ _ _) rfl ?_ | refine CALL0.mk _ _ _ _ _ (leL_refl _) (c_within _ _ _ _) rfl ?_
  conv => whnf
  first | refine CALLQ.mk _ _ _ (leL_refl _) (c_PairCheck _ _ _) rfl ?_ | refine CALL0.mk _ _ _ _ _ (leL_refl _) (c_PairCheck _ _ _) rfl ?_
  conv => whnf
  first | refine CALLQ.mk _ _ _ (leL_refl _) (c_f2 _ _ _ _ rfl rfl) rfl ?_ | refine CALL0.mk _ _ _ _ _ (leL_refl _) (c_f2 _ _ _ _ rfl rfl) rfl ?_
  conv => whnf
  split
  · rename_i h
    have h : (mergeE s a b != 0) = true := h
    conv => whnf
    refine ⟨?_, rfl⟩
    rw [h]; rfl
  · rename_i h
    have h : (mergeE s a b != 0) = false := h
    rw [h, cond_false]
    have h0 : mergeE s a b = 0 := by simpa using h
    unfold mergeE at h0
    rw [orE_zero, withinS_zero] at h0
    obtain ⟨k1, k2⟩ := pairS_ok h0.2
    have e1 : w64 (w64 (s - a) - b) = s - a - b := by
      have : w64 (s - a) = s - a := by rw [w64, wrap_in] <;> omega
      rw [this, w64, wrap_in] <;> omega
    have q1 : -3000000000 ≤ (s - a - b).tdiv 3 ∧ (s - a - b).tdiv 3 ≤ 3000000000 := by
      by_cases hp : 0 ≤ s - a - b
      · rw [Int.tdiv_eq_ediv_of_nonneg hp]; omega
      · have := Int.neg_tdiv (a := s - a - b) (b := 3)
        rw [Int.tdiv_eq_ediv_of_nonneg (show 0 ≤ -(s - a - b) by omega)] at this
        omega
    have e2 : w64 ((s - a - b).tdiv 3) = (s - a - b).tdiv 3 := by rw [w64, wrap_in] <;> omega
    have e3 : w64 (a + (s - a - b).tdiv 3) = a + (s - a - b).tdiv 3 := by rw [w64, wrap_in] <;> omega
    have e4 : w64 (b + (s - a - b).tdiv 3) = b + (s - a - b).tdiv 3 := by rw [w64, wrap_in] <;> omega
    conv => whnf
    split
    · rename_i h
      have h : ((w64 (w64 (s - a) - b)).tmod 3 != 0) = true := h
      rw [e1] at h
      conv => whnf
      refine ⟨?_, rfl⟩
      rw [h]; rfl
    · rename_i h
      have h : ((w64 (w64 (s - a) - b)).tmod 3 != 0) = false := h
      rw [e1] at h
      rw [h, cond_false]
      have hl : ∀ up, Cs gl n_rotor_checkLoads up [.agg [.int .i64 (w64 (a + w64 ((w64 (w64 (s - a) - b)).tdiv 3))), .int .i64 (w64 (b + w64 ((w64 (w64 (s - a) - b)).tdiv 3))), .int .i64 (w64 ((w64 (w64 (s - a) - b)).tdiv 3))]]
          (.int .i64 (loadS (a + (s - a - b).tdiv 3) (b + (s - a - b).tdiv 3) ((s - a - b).tdiv 3))) up := fun up => by
        rw [e1, e2, e3, e4]
        exact c_checkLoads up _ _ _
      conv => whnf
      refine .mk _ _ _ _ _ (leL_refl _) (hl _) rfl ?_
      conv => whnf
      split
      · rename_i h
        have h : (loadS (a + (s - a - b).tdiv 3) (b + (s - a - b).tdiv 3) ((s - a - b).tdiv 3) != 0) = true := h
        conv => whnf
        refine ⟨?_, rfl⟩
        simp only [h]; rfl
      · rename_i h
        have h : (loadS (a + (s - a - b).tdiv 3) (b + (s - a - b).tdiv 3) ((s - a - b).tdiv 3) != 0) = false := h
        conv => whnf
        refine ⟨?_, rfl⟩
        simp only [h, cond_false]
        show IV.tup [.agg [.int .i64 (w64 (a + w64 ((w64 (w64 (s - a) - b)).tdiv 3))), .int .i64 (w64 (b + w64 ((w64 (w64 (s - a) - b)).tdiv 3))), .int .i64 (w64 ((w64 (w64 (s - a) - b)).tdiv 3))], .int .i64 0] = _
        rw [e1, e2, e3, e4]
end Go.Proofs.YtfoenhiohhmnlaaGreatDoor.Ix

namespace Go.Proofs.YtfoenhiohhmnlaaGreatDoor.Ix
open Go.RowKit
set_option linter.unusedVariables false
theorem laid_in {P : Program} {w : World} {n : String} {d : DataW Unit} : ∀ {l : List (String × DataW Unit)} {ps : List MemPlace}, DataW.LaidVars P w l ps → (n, d) ∈ l →
    ∃ g t cs fuel p, P.globalNamed n = some g ∧ (P.globals[g]?).map (·.type) = some t ∧ w.var? P n = some cs ∧ DataW.trod (fun _ => ()) P w 0 (fun _ => true) false fuel t cs.toList = some (d, p)
  | [], ps, _, hm => by cases hm
  | (m, e) :: r, ps, h, hm => by
    simp only [DataW.LaidVars] at h
    obtain ⟨g, t, cs, fuel, p, q, h1, h2, h3, h4, h5, _⟩ := h
    cases hm with
    | head => exact ⟨g, t, cs, fuel, p, h1, h2, h3, h4⟩
    | tail _ hm => exact laid_in h5 hm
theorem laid_tab {P : Program} {w : World} {laid : List (String × DataW Unit)} (h : laidMetH P laid w) (hp : (laid.all fun x => x.2.handleName?.isNone) = true) {n : String} {d : DataW Unit} {g t : Nat} (hm : (n, d) ∈ laid)
    (hg : P.globalNamed n = some g) (ht : (P.globals[g]?).map (·.type) = some t) {s : Shp} (hs : shpB P s t = true) (hf : flatS s = true) {vs : List Value} (hv : flatD d = vs) :
    (∀ j, w.cell? ⟨g, j, none⟩ = vs[j]?) ∧ ∃ arr el m, w.heap[g]? = some (.cells arr el m) ∧ arr.size = vs.length := by
  rw [MakeChecks.laidMetH_plain _ _ _ hp] at h
  obtain ⟨ps, h, _, _⟩ := h
  obtain ⟨g0, t0, cs0, f0, p0, hg0, ht0, hv0, hd0⟩ := laid_in h hm
  obtain rfl := Option.some.inj (hg.symm.trans hg0)
  obtain rfl := Option.some.inj (ht.symm.trans ht0)
  have hfl := flat_of_trod s _ (shp_ok _ _ hs) hf _ _ _ hd0
  have hcs : cs0.toList = vs := by rw [← hfl]; exact hv
  refine ⟨fun j => ?_, ?_⟩
  · have := World.var?_cell hg0 hv0 j
    rw [← hcs]
    simpa using this
  · unfold World.var? at hv0
    rw [hg0] at hv0
    simp only [Option.bind_some] at hv0
    split at hv0
    · rename_i arr el m he
      cases hv0
      exact ⟨_, _, _, he, by rw [← hcs]; simp⟩
    · cases hv0
theorem D_tab {I : Imm} {g : Nat} (xs : List IV) (vs : List Value) (hl : xs.length = vs.length) (hI : ∀ j v, vs[j]? = some v → I ⟨g, j, none⟩ = some v)
    (hx : ∀ (j : Nat) x, xs[j]? = some x → ∃ k z, x = .int k z ∧ vs[j]? = some (.int k z)) : D I (.vptr xs.length 1 (fun _ => xs) 0 0) (.pointer (some ⟨g, 0, none⟩)) := by
  have hat : ∀ j, j < xs.length → vs[j]? = some (vs.getD j undef) := fun j hj => by
    rw [List.getD_eq_getElem?_getD, List.getElem?_eq_getElem (by omega)]; rfl
  have := D.vptr (I := I) xs.length 1 (fun _ => xs) 0 0 g 0 (fun _ j => vs.getD j undef) (by decide) (fun _ _ => rfl)
    (fun i j hi hj => by
      have : i = 0 := by omega
      subst this
      simp only [Nat.zero_mul, Nat.zero_add]
      exact hI j _ (hat j hj))
    (fun i j hi hj => by
      obtain ⟨k, z, _, e⟩ := hx j _ (List.getElem?_eq_getElem hj)
      show (vs.getD j undef).oneCell' = true
      rw [List.getD_eq_getElem?_getD, e]; rfl)
    (fun i j x hi hxj => by
      obtain ⟨k, z, rfl, e⟩ := hx j x hxj
      show D I _ (vs.getD j undef)
      rw [List.getD_eq_getElem?_getD, e]; exact .int k z)
  simpa using this
theorem D_tabG {I : Imm} {g : Nat} (xs : List IV) (vs : List Value) (hl : xs.length = vs.length) (hI : ∀ j v, vs[j]? = some v → I ⟨g, j, none⟩ = some v)
    (hx : ∀ (j : Nat) x, xs[j]? = some x → ∃ v, vs[j]? = some v ∧ v.oneCell' = true ∧ D I x v) : D I (.vptr xs.length 1 (fun _ => xs) 0 0) (.pointer (some ⟨g, 0, none⟩)) := by
  have hat : ∀ j, j < xs.length → vs[j]? = some (vs.getD j undef) := fun j hj => by
    rw [List.getD_eq_getElem?_getD, List.getElem?_eq_getElem (by omega)]; rfl
  have := D.vptr (I := I) xs.length 1 (fun _ => xs) 0 0 g 0 (fun _ j => vs.getD j undef) (by decide) (fun _ _ => rfl)
    (fun i j hi hj => by
      have : i = 0 := by omega
      subst this
      simp only [Nat.zero_mul, Nat.zero_add]
      exact hI j _ (hat j hj))
    (fun i j hi hj => by
      obtain ⟨v, e, h1, _⟩ := hx j _ (List.getElem?_eq_getElem hj)
      show (vs.getD j undef).oneCell' = true
      rw [List.getD_eq_getElem?_getD, e]; exact h1)
    (fun i j x hi hxj => by
      obtain ⟨v, e, _, h2⟩ := hx j x hxj
      show D I _ (vs.getD j undef)
      rw [List.getD_eq_getElem?_getD, e]; exact h2)
  simpa using this
end Go.Proofs.YtfoenhiohhmnlaaGreatDoor.Ix

namespace Go.Proofs.YtfoenhiohhmnlaaGreatDoor.Ix
abbrev intS : Shp := .int .i64
end Go.Proofs.YtfoenhiohhmnlaaGreatDoor.Ix

namespace Go.Proofs.YtfoenhiohhmnlaaGreatDoor
open Go Go.ChangeShapes Go.WideShapes Go.ChangeAt Go.RowKit Go.Proofs.YtfoenhiohhmnlaaGreatDoor.Ix
set_option linter.unusedVariables false
open Go.Proofs.YtfoenhiohhmnlaaGreatDoor.Ix in
theorem cellsS {ys : List IV} (h : Fit .str ys) : ∃ s, ys = [.str s] ∧ s.size ≤ maxLen := by
  obtain ⟨s, rfl, h⟩ := h
  exact ⟨s, rfl, h⟩
theorem own : ownKnob Tryz.prog.godebug = none := by kernel_rfl
theorem laidOut : laidOutB Tryz.prog = true := by kernel_rfl
theorem gRoots : Tryz.prog.globalNamed "nacelle/rotor.roots" = some 0 := by kernel_rfl
theorem tRoots : (Tryz.prog.globals[0]?).map (·.type) = some 154 := by kernel_rfl
noncomputable abbrev laid4 : List (String × DataW Unit) := [("math/bits.deBruijn32tab", Rows.laid_math_bits_deBruijn32tab), ("math/bits.deBruijn64tab", Rows.laid_math_bits_deBruijn64tab), ("internal/strconv.uint64pow10", Rows.laid_internal_strconv_uint64pow10), ("unicode/utf8.acceptRanges", Rows.laid_unicode_utf8_acceptRanges), ("strconv.ErrRange", Rows.laid_strconv_ErrRange), ("strconv.ErrSyntax", Rows.laid_strconv_ErrSyntax), ("nacelle/rotor.roots", Rows.laid_nacelle_rotor_roots), ("unicode/utf8.first", Rows.laid_unicode_utf8_first)]
theorem plain4 : (laid4.all fun x => x.2.handleName?.isNone) = true := by kernel_rfl
abbrev rootsShp : Shp := .agg [(2, .agg [(1, intS), (1, intS)]), (2, .agg [(1, intS), (1, intS)]), (2, .agg [(1, intS), (1, intS)])]
abbrev powShp : Shp := .agg (List.replicate 20 (1, .int .u64))
theorem shapeRoots : shpB Tryz.prog rootsShp 154 = true := by kernel_rfl
theorem door_met (os : Os) (args : Array Value) : laidMetH Tryz.prog laid4 ((World.laidAll Tryz.prog os laid4).forCall (fun _ _ => 0) ⟨#[], args, []⟩).memory := by
  rw [MakeChecks.laidMetH_plain _ _ _ (by kernel_rfl)]; exact laidMet_laidAll _ (by kernel_rfl) (by kernel_rfl)
noncomputable def gl4 : Nat → IV := fun g => match g with
  | 0 => rootsI
  | 2 => errI
  | 3 => errI
  | 6 => powI
  | _ => .dead
abbrev rootsV : List Value := [.int .i64 1, .int .i64 0, .int .i64 0, .int .i64 1, .int .i64 (-1), .int .i64 (-1)]
theorem roots_in {W : World} (h : laidMetH Tryz.prog laid4 W) : (∀ j, W.cell? ⟨0, j, none⟩ = rootsV[j]?) ∧ ∃ arr el m, W.heap[0]? = some (.cells arr el m) ∧ arr.size = rootsV.length :=
  laid_tab h plain4 (d := Rows.laid_nacelle_rotor_roots) (by simp) gRoots tRoots shapeRoots rfl rfl
theorem tPow : (Tryz.prog.globals[6]?).map (·.type) = some 207 := by kernel_rfl
theorem shapePow : shpB Tryz.prog powShp 207 = true := by kernel_rfl
noncomputable abbrev powV : List Value := Go.Lib.pow10Tab.map fun z => .int .u64 z
theorem pow_in {W : World} (h : laidMetH Tryz.prog laid4 W) : (∀ j, W.cell? ⟨6, j, none⟩ = powV[j]?) ∧ ∃ arr el m, W.heap[6]? = some (.cells arr el m) ∧ arr.size = powV.length :=
  laid_tab h plain4 (d := Rows.laid_internal_strconv_uint64pow10) (by simp) gPow tPow shapePow (by decide) (by kernel_rfl)
theorem iface_of_trod {H : Type} {enc : TypeId × Value → H} {P : Program} {w : World} {sp : Nat → Bool} {fuel t : Nat} {cs : List Value} {nm : String} {d : DataW H} {p : List MemPlace} {z}
    (hu : P.underlying t = some (.interface z)) (h : DataW.trod enc P w 0 sp false fuel t cs = some (.iface nm d, p)) : ∃ u v, cs = [.iface u v] := by
  cases fuel with
  | zero => cases h
  | succ fuel =>
    unfold DataW.trod at h
    rw [hu] at h
    split at h <;> first | exact ⟨_, _, rfl⟩ | (cases h; done) | (rename_i h1; cases h1; done) | (rename_i h1 _; cases h1; done) | (rename_i h1 _ _; cases h1; done) | simp_all
theorem laid_iface {P : Program} {w : World} {laid : List (String × DataW Unit)} (h : laidMetH P laid w) (hp : (laid.all fun x => x.2.handleName?.isNone) = true) {n nm : String} {d : DataW Unit} {g t : Nat} {z} (hm : (n, .iface nm d) ∈ laid)
    (hg : P.globalNamed n = some g) (ht : (P.globals[g]?).map (·.type) = some t) (hu : P.underlying t = some (.interface z)) :
    ∃ u v, w.cell? ⟨g, 0, none⟩ = some (.iface u v) ∧ ∃ arr el m, w.heap[g]? = some (.cells arr el m) ∧ arr.size = 1 := by
  rw [MakeChecks.laidMetH_plain _ _ _ hp] at h
  obtain ⟨ps, h, _, _⟩ := h
  obtain ⟨g0, t0, cs0, f0, p0, hg0, ht0, hv0, hd0⟩ := laid_in h hm
  obtain rfl := Option.some.inj (hg.symm.trans hg0)
  obtain rfl := Option.some.inj (ht.symm.trans ht0)
  obtain ⟨u, v, hcs⟩ := iface_of_trod hu hd0
  refine ⟨u, v, ?_, ?_⟩
  · have := World.var?_cell hg0 hv0 0
    rw [← Array.getElem?_toList, hcs] at this
    simpa using this
  · unfold World.var? at hv0
    rw [hg0] at hv0
    simp only [Option.bind_some] at hv0
    split at hv0
    · rename_i arr el m he
      cases hv0
      exact ⟨_, _, _, he, by rw [← Array.length_toList, hcs]; rfl⟩
    · cases hv0
theorem gSyn : Tryz.prog.globalNamed "strconv.ErrSyntax" = some 2 := by kernel_rfl
theorem gRan : Tryz.prog.globalNamed "strconv.ErrRange" = some 3 := by kernel_rfl
theorem tSyn : (Tryz.prog.globals[2]?).map (·.type) = some 136 := by kernel_rfl
theorem tRan : (Tryz.prog.globals[3]?).map (·.type) = some 136 := by kernel_rfl
theorem uErr : ∃ z, Tryz.prog.underlying 136 = some (.interface z) := by
  have h : (match Tryz.prog.underlying 136 with | some (.interface _) => true | _ => false) = true := by kernel_rfl
  split at h
  · rename_i z e; exact ⟨z, e⟩
  · cases h
theorem syn_in {W : World} (h : laidMetH Tryz.prog laid4 W) : ∃ u v, W.cell? ⟨2, 0, none⟩ = some (.iface u v) ∧ ∃ arr el m, W.heap[2]? = some (.cells arr el m) ∧ arr.size = 1 := by
  obtain ⟨z, hz⟩ := uErr
  exact laid_iface h plain4 (n := "strconv.ErrSyntax") (nm := "*errors.errorString") (d := .ptr (.agg [.lit (.string [105, 110, 118, 97, 108, 105, 100, 32, 115, 121, 110, 116, 97, 120])])) (by
    show ("strconv.ErrSyntax", Rows.laid_strconv_ErrSyntax) ∈ laid4
    simp) gSyn tSyn hz
theorem ran_in {W : World} (h : laidMetH Tryz.prog laid4 W) : ∃ u v, W.cell? ⟨3, 0, none⟩ = some (.iface u v) ∧ ∃ arr el m, W.heap[3]? = some (.cells arr el m) ∧ arr.size = 1 := by
  obtain ⟨z, hz⟩ := uErr
  exact laid_iface h plain4 (n := "strconv.ErrRange") (nm := "*errors.errorString") (d := .ptr (.agg [.lit (.string [118, 97, 108, 117, 101, 32, 111, 117, 116, 32, 111, 102, 32, 114, 97, 110, 103, 101])])) (by
    show ("strconv.ErrRange", Rows.laid_strconv_ErrRange) ∈ laid4
    simp) gRan tRan hz
theorem err_D {W : World} {g : Nat} {u v} (h : W.cell? ⟨g, 0, none⟩ = some (.iface u v)) : D (fun a => W.cell? a) errI (.pointer (some ⟨g, 0, none⟩)) :=
  D_tabG [.ifc] [.iface u v] rfl (fun j x hx => by
    match j, hx with
    | 0, hx => cases hx; exact h) fun j x hx => by
    match j, hx with
    | 0, hx => cases hx; exact ⟨_, rfl, rfl, .ifc _ _⟩
theorem glo4 {W : World} (h : laidMetH Tryz.prog laid4 W) : ∀ g, D (fun a => W.cell? a) (gl4 g) (.pointer (some ⟨g, 0, none⟩)) := by
  intro g
  match g with
  | 0 =>
    refine D_tab [.int .i64 1, .int .i64 0, .int .i64 0, .int .i64 1, .int .i64 (-1), .int .i64 (-1)] rootsV rfl (fun j v hv => by rw [(roots_in h).1]; exact hv) fun j x hx => ?_
    match j, hx with
    | 0, hx | 1, hx | 2, hx | 3, hx | 4, hx | 5, hx => cases hx; exact ⟨_, _, rfl, rfl⟩
    | _ + 6, hx => cases hx
  | 1 => exact .dead _
  | 2 => obtain ⟨u, v, h1, _⟩ := syn_in h; exact err_D h1
  | 3 => obtain ⟨u, v, h1, _⟩ := ran_in h; exact err_D h1
  | 4 => exact .dead _
  | 5 => exact .dead _
  | 6 =>
    have := D_tab (I := fun a => W.cell? a) (g := 6) (Go.Lib.pow10Tab.map fun z => IV.int .u64 z) powV (by simp) (fun j v hv => by rw [(pow_in h).1]; exact hv) fun j x hx => by
      rw [List.getElem?_map, Option.map_eq_some_iff] at hx
      obtain ⟨z, hz, rfl⟩ := hx
      exact ⟨_, _, rfl, by rw [List.getElem?_map, hz]; rfl⟩
    rw [List.length_map] at this
    exact this
  | _ + 7 => exact .dead _
theorem gsz4 {W : World} (h : laidMetH Tryz.prog laid4 W) : Gsz gl4 W := by
  intro g e n f i j hg hn he
  match g, hg with
  | 0, hg =>
    cases hg
    exact (roots_in h).2
  | 1, hg => cases hg
  | 2, hg =>
    cases hg
    obtain ⟨_, _, _, arr, el, m, k1, k2⟩ := syn_in h
    exact ⟨arr, el, m, k1, k2⟩
  | 3, hg =>
    cases hg
    obtain ⟨_, _, _, arr, el, m, k1, k2⟩ := ran_in h
    exact ⟨arr, el, m, k1, k2⟩
  | 4, hg => cases hg
  | 5, hg => cases hg
  | 6, hg =>
    have hg : powI = .vptr e n f i j := hg
    injection hg with h1 h2
    subst h1; subst h2
    obtain ⟨arr, el, m, k1, k2⟩ := (pow_in h).2
    exact ⟨arr, el, m, k1, by rw [k2]; simp⟩
  | _ + 7, hg => cases hg
end Go.Proofs.YtfoenhiohhmnlaaGreatDoor

namespace Go.Proofs.YtfoenhiohhmnlaaGreatDoor.Ix
open Go.Proofs
set_option maxRecDepth 100000
set_option linter.unusedVariables false
set_option linter.unusedSimpArgs false
variable {gl : Nat → IV}
def goodTo (w : Nat → List UInt8) : Nat → Bool
  | 0 => true
  | k + 1 => goodTo w k && goodW (w k)
abbrev wordsI (n : Nat) (w : Nat → List UInt8) : IV := .lst none 1 n fun i => [.str (bytesS (w i))]
set_option maxHeartbeats 4000000 in
theorem c_mappedW (up : List Ces) (hp : gl g_internal_strconv_uint64pow10 = powI) (h2 : gl g_strconv_ErrSyntax = errI) (h3 : gl g_strconv_ErrRange = errI) (n : Nat) (hn : n ≤ 1000000) (w : Nat → List UInt8) (hw : ∀ i, (w i).length ≤ 1000000000) :
    Cs gl n_rotor_mapped_string_int ([(4, [.bool true])] :: up) [wordsI n w, .fn n_rotor_integers_1 [] [.ptr 1 4 0]] (.lst (some 19) 1 n fun i => [.int .i64 (atoiN (w i))]) ([(4, [.bool (goodTo w n)])] :: up) := by
  refine mk h_rotor_mapped_string_int rfl rfl ?_
  conv => whnf
  refine .mk (α := {i : Nat // i ≤ n}) (fun i => ⟨[(10, .int .i64 i.1), (9, .int .i64 n), (8, wordsI n w), (5, .lst (some 19) 1 i.1 fun i => [.int .i64 (atoiN (w i))]), (1, .fn n_rotor_integers_1 [] [.ptr 1 4 0])], [], [(4, [.bool (goodTo w i.1)])] :: up⟩) (fun i => n - i.1) ⟨0, Nat.zero_le _⟩ ⟨?_, trivial, rfl, rfl⟩ ?_
  · exact ⟨leV_refl _, leV_refl _, leV_refl _, rfl, leV_refl _, trivial⟩
  rintro ⟨i, hi⟩
  have hc := c_integers1 (gl := gl) [] up hp h2 h3 (w i) (hw i) (goodTo w i)
  obtain ⟨s, hs⟩ : ∃ s, s = bytesS (w i) := ⟨_, rfl⟩
  rw [← hs] at hc
  by_cases hlt : i < n
  · have q : decide ((i : Int) < n) = true := decide_eq_true (by omega)
    have hw1 : w64 ((i : Int) + 1) = ((i + 1 : Nat) : Int) := by rw [w64, wrap_in] <;> omega
    have hfi : (fun i => [IV.str (bytesS (w i))]) i = [.str s] := by rw [hs]
    conv => whnf
    split
    rotate_left
    · rename_i h
      exact Bool.noConfusion ((q).symm.trans h)
    rename_i hN
    clear hN
    conv => whnf
    split
    rotate_left
    · rename_i h
      exact Bool.noConfusion ((q).symm.trans h)
    rename_i hN
    clear hN
    conv => whnf
    show CALL0 _ _ _ _ _ [.str (bytesS (w i)), .ptr 2 4 0] _ _
    rw [← hs]
    refine .mk _ _ _ _ _ (leL_refl _) (hc) rfl ?_
    conv => whnf
    split
    rotate_left
    · rename_i h
      have h' : decide (i + 1 ≤ 1073741824) = false := h
      simp at h' <;> omega
    conv => whnf
    refine ⟨⟨i + 1, hlt⟩, ⟨⟨leV_int hw1, leV_refl _, leV_refl _, ⟨.inr rfl, rfl, rfl, fun j hj => ?_⟩, leV_refl _, trivial⟩, trivial, rfl, rfl⟩, (by show n - (i + 1) < n - i; omega)⟩
    show (if j < i then [IV.int .i64 (atoiN (w j))] else litF 1 [.int .i64 (atoiN (w i))] (j - i)) = [IV.int .i64 (atoiN (w j))]
    split
    · rfl
    · have : j = i := by have : j < i + 1 := hj; omega
      subst this; rw [Nat.sub_self]; rfl
  · have : i = n := by omega
    subst this
    have q : decide ((i : Int) < i) = false := decide_eq_false (by omega)
    conv => whnf
    split
    · rename_i h
      exact Bool.noConfusion ((q).symm.trans h)
    rename_i hN
    clear hN
    conv => whnf
    exact ⟨rfl, rfl⟩
set_option maxHeartbeats 4000000 in
theorem c_integers (up : List Ces) (hp : gl g_internal_strconv_uint64pow10 = powI) (h2 : gl g_strconv_ErrSyntax = errI) (h3 : gl g_strconv_ErrRange = errI) (n : Nat) (hn : n ≤ 1000000) (w : Nat → List UInt8) (hw : ∀ i, (w i).length ≤ 1000000000) :
    Cs gl n_rotor_integers up [wordsI n w] (.tup [.lst (some 8) 1 n fun i => [.int .i64 (atoiN (w i))], .bool (goodTo w n)]) up := by
  have h := c_mappedW (gl := gl) up hp h2 h3 n hn w hw
  obtain ⟨b, hb⟩ : ∃ b, b = goodTo w n := ⟨_, rfl⟩
  rw [← hb] at h ⊢
  refine mk h_rotor_integers rfl rfl ?_
  conv => whnf
  refine .mk _ _ _ _ _ (leL_refl _) (h) rfl ?_
  conv => whnf
  repeat first
    | (refine DRAW.seek ?_; repeat (first | refine TRYD.take ?_ | refine TRYD.next ?_); conv => whnf)
    | (refine HOLD.mk (by first | exact trivial | exact ⟨⟨rfl, rfl⟩, trivial⟩ | exact ⟨⟨rfl, rfl⟩, ⟨rfl, rfl⟩, trivial⟩) ?_; (conv => whnf))
  exact ⟨rfl, rfl⟩
end Go.Proofs.YtfoenhiohhmnlaaGreatDoor.Ix

namespace Go.Proofs.YtfoenhiohhmnlaaGreatDoor.Ix
open Go.Proofs
set_option maxRecDepth 100000
set_option linter.unusedVariables false
set_option linter.unusedSimpArgs false
variable {gl : Nat → IV}
theorem mkL {g : Nat} {fn : Func} {code : Code} {d : Nat} {c rest c' : List IV} (hf : prog.funcs[g]? = some fn) (hb : fn.body = some code) (hn : (fn.name == "runtime.NumGoroutine") = false) (hres : fn.results = #[]) (hnr : noRange code = true) (hw0 : (wrs code).all (fun t => t != 0) = true)
    (h : ibodyL (Cs gl) (Γs gl) fn d c rest c') : CompL prog gl g d c rest c' :=
  compL_of_body (Γ := Γs gl) mixed0 tok0 ⟨fun _ _ _ _ _ h => h, fun _ _ _ _ h => h, fun _ _ _ _ _ h => h⟩ hf hb hn hres hnr hw0 h
abbrev numsI (n : Nat) (f : Nat → Int) : IV := .lst none 1 n fun i => [.int .i64 (f i)]
def polC (o1 o2 : Option Nat) (m : Nat) (f : Nat → Int) (z : IV) : List IV := [.lst o1 1 m fun j => [.int .i64 (f (2 * j))], .lst o2 1 m fun j => [.int .i64 (f (2 * j + 1))], z]
set_option maxHeartbeats 8000000 in
theorem l_polar (n : Nat) (hn : n ≤ 1000000) (f : Nat → Int) : CompL prog gl n_rotor_reader_polar 25 [.nilS, .nilS, .nilS] [numsI n f] (polC (some 24) (some 42) (n / 2) f .nilS) := by
  refine mkL h_rotor_reader_polar rfl rfl rfl (by kernel_rfl) (by kernel_rfl) ?_
  conv => whnf
  refine .mk (α := {j : Nat // 2 * j ≤ n}) (fun j => ⟨[(4, .int .i64 (2 * j.1 : Nat)), (1, numsI n f), (0, .ptr 0 25 0)], [(25, polC (some 24) (some 42) j.1 f .nilS)], []⟩) (fun j => n - j.1) ⟨0, Nat.zero_le _⟩ ⟨?_, ?_, rfl, rfl⟩ ?_
  · exact ⟨leV_refl _, leV_refl _, leV_refl _, trivial⟩
  · exact ⟨⟨rfl, rfl, rfl, trivial⟩, trivial⟩
  rintro ⟨j, hj⟩
  have hw1 : w64 (((2 * j : Nat) : Int) + 1) = ((2 * j + 1 : Nat) : Int) := by rw [w64, wrap_in] <;> omega
  have hw2 : w64 (((2 * j : Nat) : Int) + 2) = ((2 * (j + 1) : Nat) : Int) := by rw [w64, wrap_in] <;> omega
  by_cases hlt : 2 * j + 1 < n
  rotate_left
  · have e : j = n / 2 := by omega
    subst e
    have q : decide (w64 (((2 * (n / 2) : Nat) : Int) + 1) < (n : Int)) = false := by rw [hw1]; exact decide_eq_false (by omega)
    conv => whnf
    split
    · rename_i h
      exact Bool.noConfusion ((q).symm.trans h)
    rename_i hN
    clear hN
    conv => whnf
    exact ⟨rfl, rfl, rfl⟩
  have q : decide (w64 (((2 * j : Nat) : Int) + 1) < (n : Int)) = true := by rw [hw1]; exact decide_eq_true (by omega)
  have q1 : decide (((2 * j : Nat) : Int) < (n : Int)) = true := decide_eq_true (by omega)
  have q2 : decide (0 ≤ w64 (((2 * j : Nat) : Int) + 1)) = true := by rw [hw1]; exact decide_eq_true (by omega)
  have app : ∀ (t : Nat) (h : Nat → Int) (x : Int), x = h j → ∀ i, i < j + 1 → appF j (fun i => [IV.int .i64 (h i)]) (litF 1 [.int .i64 x]) i = [.int .i64 (h i)] := fun t h x hx i hi => by
    show (if i < j then [IV.int .i64 (h i)] else litF 1 [.int .i64 x] (i - j)) = _
    split
    · rfl
    · have : i = j := by omega
      subst this
      rw [Nat.sub_self, hx]; rfl
  conv => whnf
  split
  rotate_left
  · rename_i h
    exact Bool.noConfusion ((q).symm.trans h)
  rename_i hN
  clear hN
  conv => whnf
  refine DRAW.seek ?_
  repeat (first | refine TRYD.take ?_ | refine TRYD.next ?_)
  conv => whnf
  split
  rotate_left
  · rename_i h
    exact Bool.noConfusion ((q1).symm.trans h)
  rename_i hN
  clear hN
  conv => whnf
  split
  rotate_left
  · rename_i h
    have h' : decide (j + 1 ≤ 1073741824) = false := h
    simp at h' <;> omega
  conv => whnf
  refine DRAW.seek ?_
  repeat (first | refine TRYD.take ?_ | refine TRYD.next ?_)
  conv => whnf
  split
  rotate_left
  · rename_i h
    exact Bool.noConfusion ((q2).symm.trans h)
  rename_i hN
  clear hN
  conv => whnf
  split
  rotate_left
  · rename_i h
    exact Bool.noConfusion ((q).symm.trans h)
  rename_i hN
  clear hN
  conv => whnf
  split
  rotate_left
  · rename_i h
    have h' : decide (j + 1 ≤ 1073741824) = false := h
    simp at h' <;> omega
  conv => whnf
  refine ⟨⟨j + 1, by omega⟩, ⟨⟨leV_int hw2, leV_refl _, leV_refl _, trivial⟩, ⟨⟨⟨.inr rfl, rfl, rfl, app 24 (fun j => f (2 * j)) _ ?_⟩, ⟨.inr rfl, rfl, rfl, app 42 (fun j => f (2 * j + 1)) _ ?_⟩, rfl, trivial⟩, trivial⟩, rfl, rfl⟩, (by show n - (j + 1) < n - j; omega)⟩
  · rw [Int.toNat_natCast]
  · show f (w64 (((2 * j : Nat) : Int) + 1)).toNat = _
    rw [hw1, Int.toNat_natCast]
set_option maxHeartbeats 8000000 in
theorem l_ring (m k : Nat) (hk : k ≤ 1000000) (L D R : Nat → List IV) (f : Nat → Int) : CompL prog gl n_rotor_reader_ring 25 [.lst none 1 m L, .lst none 1 m D, .lst (some 24) 4 k R] [numsI 4 f]
    [.lst none 1 m L, .lst none 1 m D, .lst (some 24) 4 (k + 1) (appF k R (litF 4 [.int .i64 (f 0), .int .i64 (f 1), .int .i64 (f 2), .int .i64 (f 3)]))] := by
  refine mkL h_rotor_reader_ring rfl rfl rfl (by kernel_rfl) (by kernel_rfl) ?_
  conv => whnf
  refine DRAW.seek ?_
  repeat (first | refine TRYD.take ?_ | refine TRYD.next ?_)
  conv => whnf
  split
  rotate_left
  · rename_i h
    have h' : decide (k + 1 ≤ 1073741824) = false := h
    simp at h' <;> omega
  conv => whnf
  exact ⟨rfl, rfl, rfl⟩
end Go.Proofs.YtfoenhiohhmnlaaGreatDoor.Ix

namespace Go.Proofs.YtfoenhiohhmnlaaGreatDoor.Ix
open Go.Proofs
set_option maxRecDepth 100000
set_option linter.unusedVariables false
set_option linter.unusedSimpArgs false
variable {gl : Nat → IV}
def fb (g : Nat → Bool) : Nat → Nat → Nat
  | 0, i => i
  | n + 1, i => bif g i then fb g n (i + 1) else i
theorem fb_all {g : Nat → Bool} : ∀ {n i : Nat}, (∀ j, i ≤ j → j < i + n → g j = true) → fb g n i = i + n
  | 0, i, _ => rfl
  | n + 1, i, h => by
    unfold fb
    rw [h i (Nat.le_refl _) (by omega), cond_true, fb_all (fun j h1 h2 => h j (by omega) (by omega))]
    omega
theorem fb_at {g : Nat → Bool} : ∀ {n i k : Nat}, i ≤ k → k < i + n → g k = false → (∀ j, i ≤ j → j < k → g j = true) → fb g n i = k
  | 0, i, k, h1, h2, _, _ => by omega
  | n + 1, i, k, h1, h2, h3, h4 => by
    unfold fb
    rcases Nat.eq_or_lt_of_le h1 with rfl | h
    · rw [h3, cond_false]
    · rw [h4 i (Nat.le_refl _) h, cond_true]
      exact fb_at (by omega) (by omega) h3 fun j h5 h6 => h4 j (by omega) h6
def wdsL (P : List (List UInt8)) (k : Nat) : List (List UInt8) := splitL 32 (P.getD k [])
def cntL (P : List (List UInt8)) (k : Nat) : Nat := (wdsL P k).length - 1
def wrdL (P : List (List UInt8)) (k i : Nat) : List UInt8 := (wdsL P k).getD (1 + i) []
def numL (P : List (List UInt8)) (k i : Nat) : Int := atoiN (wrdL P k i)
abbrev polarB : ByteArray := ⟨#[112, 111, 108, 97, 114]⟩
abbrev ringB : ByteArray := ⟨#[114, 105, 110, 103]⟩
def headB (P : List (List UInt8)) (k : Nat) (w : ByteArray) : Bool := (bytesS ((wdsL P k).getD 0 [])).toList == w.toList
def fitP (n : Nat) : Bool := (n : Int).tmod 2 == 0
def fitR (n : Nat) : Bool := (n : Int) == 4
def lineOk (P : List (List UInt8)) (k : Nat) : Bool :=
  decide (k + 1 < P.length) && (goodTo (wrdL P k) (cntL P k) && match k with
    | 0 => headB P k polarB && fitP (cntL P k)
    | _ + 1 => headB P k ringB && fitR (cntL P k))
def parB (P : List (List UInt8)) : Bl := ⟨cntL P 0 / 2, cntL P 0 / 2, linesN P - 1, fun j => numL P 0 (2 * j), fun j => numL P 0 (2 * j + 1), fun k => numL P (k + 1) 0, fun k => numL P (k + 1) 1, fun k => numL P (k + 1) 2, fun k => numL P (k + 1) 3⟩
abbrev nilB0 : IV := .agg [.nilS, .nilS, .nilS]
def parR (o : Option Nat) (P : List (List UInt8)) : IV :=
  let b := fb (lineOk P) (linesN P) 0
  bif decide (b < linesN P) then .tup [nilB0, .int .i64 b, .int .i64 26] else
  bif (parB P).err != 0 then .tup [nilB0, .int .i64 (linesN P), .int .i64 (parB P).err] else
  .tup [.agg [.lst none 1 (parB P).nl fun i => [.int .i64 ((parB P).lf i)], .lst none 1 (parB P).nd fun i => [.int .i64 ((parB P).df i)],
    .lst o 4 (parB P).nr fun i => [.int .i64 ((parB P).r1 i), .int .i64 ((parB P).r2 i), .int .i64 ((parB P).r3 i), .int .i64 ((parB P).r4 i)]], .int .i64 0, .int .i64 0]
theorem c_fits1 (up : List Ces) (n : Nat) : Cs gl n_rotor_Parse_1 up [.int .i64 n] (.bool (fitP n)) up := by
  refine mk h_rotor_Parse_1 rfl rfl ?_
  conv => whnf
  exact ⟨rfl, rfl⟩
theorem c_fits2 (up : List Ces) (n : Nat) : Cs gl n_rotor_Parse_2 up [.int .i64 n] (.bool (fitR n)) up := by
  refine mk h_rotor_Parse_2 rfl rfl ?_
  conv => whnf
  exact ⟨rfl, rfl⟩
def cellK (P : List (List UInt8)) : Nat → List IV
  | 0 => [.nilS, .nilS, .nilS]
  | k + 1 => polC none none (cntL P 0 / 2) (numL P 0) (.lst (some 24) 4 k fun k => [.int .i64 (numL P (k + 1) 0), .int .i64 (numL P (k + 1) 1), .int .i64 (numL P (k + 1) 2), .int .i64 (numL P (k + 1) 3)])
abbrev mpI : IV := .mp [polarB, ringB] [.agg [.fn n_rotor_Parse_1 [] [], .fn n_rotor_reader_polar [.ptr 0 25 0] []], .agg [.fn n_rotor_Parse_2 [] [], .fn n_rotor_reader_ring [.ptr 0 25 0] []]]
theorem l_ringN (n : Nat) (hn : n = 4) (m k : Nat) (hk : k ≤ 1000000) (L D R : Nat → List IV) (f : Nat → Int) : CompL prog gl n_rotor_reader_ring 25 [.lst none 1 m L, .lst none 1 m D, .lst (some 24) 4 k R] [numsI n f]
    [.lst none 1 m L, .lst none 1 m D, .lst (some 24) 4 (k + 1) (appF k R (litF 4 [.int .i64 (f 0), .int .i64 (f 1), .int .i64 (f 2), .int .i64 (f 3)]))] := by
  subst hn
  exact l_ring m k hk L D R f
set_option maxHeartbeats 16000000 in
theorem c_pParse (up : List Ces) (hp : gl g_internal_strconv_uint64pow10 = powI) (h2 : gl g_strconv_ErrSyntax = errI) (h3 : gl g_strconv_ErrRange = errI) (l : List UInt8) (hl : l.length ≤ 4096) (hl0 : l ≠ []) :
    Cs gl n_rotor_Parse up [.str (bytesS l)] (parR (some 24) (splitL 10 l)) up := by
  have hV := v_Lines (gl := gl) l (by omega)
  have hpl : ∀ i, ((splitL 10 l).getD i []).length ≤ 4096 := fun i => Nat.le_trans (splitL_le 10 l i) hl
  have hno := splitL_no 10 l
  have hsz : (bytesS l).size = l.length := bytesS_size l
  have hN1 : 1 ≤ linesN (splitL 10 l) := by
    have hne := splitL_ne 10 l
    unfold linesN
    have hlen : 0 < (splitL 10 l).length := List.length_pos_iff.2 hne
    split
    · rename_i he
      by_cases h1 : (splitL 10 l).length = 1
      · exfalso
        have hc : l.count 10 = 0 := by have := splitL_len 10 l; omega
        have hnone := splitL_none (c := 10) (l := l) (fun hm => by have := List.count_pos_iff.2 hm; omega)
        rw [hnone] at he
        exact hl0 he
      · omega
    · exact hlen
  obtain ⟨P, hP⟩ : ∃ P, P = splitL 10 l := ⟨_, rfl⟩
  rw [← hP] at hV hpl hno hN1 ⊢
  obtain ⟨s, hs⟩ : ∃ s, s = bytesS l := ⟨_, rfl⟩
  rw [← hs] at hV hsz ⊢
  have q0 : decide ((s.size : Int) > 4096) = false := decide_eq_false (by omega)
  have qe : (s.toList == ByteArray.empty.toList) = false := by
    rw [hs, Go.Lib.toList_data, bytesS_data, beq_eq_false_iff_ne]
    intro e
    rw [Go.Lib.toList_data] at e
    exact hl0 e
  obtain ⟨N, hN⟩ : ∃ N, N = linesN P := ⟨_, rfl⟩
  rw [← hN] at hV hN1
  have hNle : N ≤ 4097 := by
    have h1 : P.length ≤ l.length + 1 := by rw [hP, splitL_len]; have := List.count_le_length (a := (10 : UInt8)) (l := l); omega
    have h2 : linesN P ≤ P.length := by unfold linesN; split <;> omega
    omega
  refine mk h_rotor_Parse rfl rfl ?_
  conv => whnf
  split
  · rename_i h
    exact Bool.noConfusion ((q0).symm.trans h)
  rename_i hN
  clear hN
  conv => whnf
  split
  · rename_i h
    exact Bool.noConfusion ((qe).symm.trans h)
  rename_i hN
  clear hN
  conv => whnf
  refine .own [1000] _ _ _ (leL_refl _) (own_Lines s) rfl rfl ?_
  conv => whnf
  refine .own n_strings_Lines_1 [1000] [[.str s]] N _ rfl ⟨⟨_, rfl, rfl, rfl⟩, trivial⟩ rfl hV (by kernel_rfl) (fun i _ => rfl) (α := {k : Nat // k ≤ N ∧ ∀ j, j < k → lineOk P j = true}) (fun k => ⟨[(7, .ptr 0 7 0), (6, .ptr 0 6 0), (5, .ptr 0 25 0), (4, .ptr 0 4 0), (3, .ptr 0 3 0), (2, .ptr 0 2 0)],
    [(7, [.int .i64 k.1]), (6, [mpI]), (25, cellK P k.1), (4, [.int .i64 0]), (3, [.int .i64 0]), (2, [.nilS, .nilS, .nilS])], up⟩) (fun k => k.1) ⟨0, Nat.zero_le _, fun j h => absurd h (Nat.not_lt_zero _)⟩ ⟨?_, ?_, rfl, ?_⟩ rfl rfl ?_ ?_ ?_
  · exact ⟨leV_refl _, leV_refl _, leV_refl _, leV_refl _, leV_refl _, leV_refl _, trivial⟩
  · exact ⟨leL_refl _, leL_refl _, leL_refl _, leL_refl _, leL_refl _, leL_refl _, trivial⟩
  · rfl
  · exact fun _ => rfl
  · rintro ⟨k, hkN, hg⟩ hlt
    have hlt : k < N := hlt
    have hw : w64 ((k : Int) + 1) = ((k + 1 : Nat) : Int) := by rw [w64, wrap_in] <;> omega
    have hC : ∀ up, Cs gl n_strings_CutSuffix up [.str (bytesS (lineF P k)), .str ⟨#[10]⟩] (.tup [.str (bytesS (P.getD k [])), .bool (decide (k + 1 < P.length))]) up := fun up => by
      have h := c_CutSuffix (gl := gl) up (lineF P k) 10 (by
        unfold lineF
        have := hpl k
        split
        · rw [List.length_append]; simp only [List.length_cons, List.length_nil]; omega
        · omega)
      by_cases hk1 : k + 1 < P.length
      · rw [decide_eq_true hk1]
        have e : lineF P k = P.getD k [] ++ [10] := by unfold lineF; rw [if_pos hk1]
        rw [e] at h ⊢
        have e2 : (P.getD k [] ++ [(10 : UInt8)]).getLast? = some 10 := by simp
        rw [e2, show ((some (10 : UInt8)) == some 10) = true from rfl, cond_true, List.dropLast_concat] at h
        exact h
      · rw [decide_eq_false hk1]
        have e : lineF P k = P.getD k [] := by unfold lineF; rw [if_neg hk1]
        rw [e] at h ⊢
        rw [show ((P.getD k []).getLast? == some (10 : UInt8)) = false by
          rw [beq_eq_false_iff_ne]
          intro e
          exact hno k (List.mem_of_getLast? e), cond_false] at h
        exact h
    obtain ⟨n, hn⟩ : ∃ n, (wdsL P k).length = n + 1 := ⟨(wdsL P k).length - 1, by have := List.length_pos_iff.2 (splitL_ne 32 (P.getD k [])); unfold wdsL; omega⟩
    have hcnt : cntL P k = n := by unfold cntL; rw [hn]; rfl
    have hnle : n ≤ 1000000 := by
      have h1 : (wdsL P k).length ≤ (P.getD k []).length + 1 := by unfold wdsL; rw [splitL_len]; have := List.count_le_length (a := (32 : UInt8)) (l := P.getD k []); omega
      have := hpl k
      omega
    have hwle : ∀ i, (wrdL P k i).length ≤ 1000000000 := fun i => Nat.le_trans (splitL_le 32 (P.getD k []) (1 + i)) (by have := hpl k; omega)
    obtain ⟨x, hx⟩ : ∃ x : Nat → ByteArray, x = fun i => bytesS ((wdsL P k).getD i []) := ⟨_, rfl⟩
    have hS : ∀ up, Cs gl n_strings_Split up [.str (bytesS (P.getD k [])), .str ⟨#[32]⟩] (.lst none 1 (n + 1) fun i => [.str (x i)]) up := fun up => by
      have h := c_sSplit (gl := gl) up (bytesS (P.getD k [])) 32 (by rw [bytesS_size]; have := hpl k; omega)
      rw [bytesS_data, show splitL 32 (P.getD k []) = wdsL P k from rfl, hn] at h
      rw [hx]; exact h
    obtain ⟨g, hgd⟩ : ∃ g, g = goodTo (wrdL P k) n := ⟨_, rfl⟩
    have hI : ∀ up, Cs gl n_rotor_integers up [.lst none 1 n fun i => [.str (x (1 + i))]] (.tup [.lst (some 8) 1 n fun i => [.int .i64 (numL P k i)], .bool g]) up := fun up => by
      rw [hx, hgd]; exact c_integers up hp h2 h3 n hnle (wrdL P k) hwle
    have hf1 := fun up => c_fits1 (gl := gl) up n
    have hf2 := fun up => c_fits2 (gl := gl) up n
    obtain ⟨bw, hbw⟩ : ∃ b, b = decide (k + 1 < P.length) := ⟨_, rfl⟩
    obtain ⟨bp, hbp⟩ : ∃ b, b = headB P k polarB := ⟨_, rfl⟩
    obtain ⟨br, hbr⟩ : ∃ b, b = headB P k ringB := ⟨_, rfl⟩
    obtain ⟨fp, hfp⟩ : ∃ b, b = fitP n := ⟨_, rfl⟩
    obtain ⟨fr, hfr⟩ : ∃ b, b = fitR n := ⟨_, rfl⟩
    have qp : ((x 0).toList == polarB.toList) = bp := by rw [hbp, hx]; rfl
    have qr : ((x 0).toList == ringB.toList) = br := by rw [hbr, hx]; rfl
    rw [← hbw] at hC
    rw [← hfp] at hf1
    rw [← hfr] at hf2
    have hbad : lineOk P k = false → parR (some 24) P = .tup [nilB0, .int .i64 k, .int .i64 26] := fun h => by
      have e : fb (lineOk P) (linesN P) 0 = k := fb_at (Nat.zero_le _) (by rw [← hN]; omega) h (fun j _ hj => hg j hj)
      unfold parR
      simp only [e]
      rw [← hN, decide_eq_true hlt, cond_true]
    have q1 : decide ((1 : Int) ≤ ((n + 1 : Nat) : Int)) = true := decide_eq_true (by omega)
    have q2 : decide (((n + 1 : Nat) : Int) ≤ ((n + 1 : Nat) : Int)) = true := decide_eq_true (Int.le_refl _)
    have q3 : decide ((0 : Int) < ((n + 1 : Nat) : Int)) = true := decide_eq_true (by omega)
    cases k with
    | zero =>
      have hok : lineOk P 0 = (bw && (g && (bp && fp))) := by rw [hbw, hgd, hbp, hfp]; unfold lineOk; rw [hcnt]
      have q4 : (!(((x 0).toList == polarB.toList) == (((0 : Nat) : Int) == 0))) = !bp := by rw [qp]; cases bp <;> rfl
      cases bp with
      | true =>
        cases bw with
        | false =>
          conv => whnf
          repeat first
            | (refine CALL0.by (hC ..) rfl ?_; conv => whnf)
            | (refine CALLQ.mk _ _ _ (leL_refl _) (hC ..) rfl ?_; conv => whnf)
            | (refine CALL0.by (hS ..) rfl ?_; conv => whnf)
            | (refine CALLQ.mk _ _ _ (leL_refl _) (hS ..) rfl ?_; conv => whnf)
          refine DRAW.seek ?_
          repeat (first | refine TRYD.take ?_ | refine TRYD.next ?_)
          conv => whnf
          split
          rotate_left
          · rename_i h
            exact Bool.noConfusion ((q3).symm.trans h)
          rename_i hN
          clear hN
          conv => whnf
          split
          rotate_left
          · rename_i h
            exact Bool.noConfusion ((qp).symm.trans h)
          rename_i hN
          clear hN
          conv => whnf
          split
          rotate_left
          · rename_i h
            exact Bool.noConfusion ((q1).symm.trans h)
          rename_i hN
          clear hN
          conv => whnf
          split
          rotate_left
          · rename_i h
            exact Bool.noConfusion ((q2).symm.trans h)
          rename_i hN
          clear hN
          conv => whnf
          repeat first
            | (refine CALL0.by (hI ..) rfl ?_; conv => whnf)
            | (refine CALLQ.mk _ _ _ (leL_refl _) (hI ..) rfl ?_; conv => whnf)
          refine DRAW.seek ?_
          repeat (first | refine TRYD.take ?_ | refine TRYD.next ?_)
          conv => whnf
          refine DRAW.mkH 2 [7] [] [1] (by decide +kernel) ?_
          conv => whnf
          conv => whnf
          repeat first
            | (refine DRAW.seek ?_; repeat (first | refine TRYD.take ?_ | refine TRYD.next ?_); conv => whnf)
            | (refine HOLD.mk (by first | exact trivial | exact ⟨⟨rfl, rfl⟩, trivial⟩ | exact ⟨⟨rfl, rfl⟩, ⟨rfl, rfl⟩, trivial⟩) ?_; (conv => whnf))
          exact ⟨(hbad (by rw [hok]; simp)).symm, rfl⟩
        | true =>
        cases g with
        | false =>
          conv => whnf
          repeat first
            | (refine CALL0.by (hC ..) rfl ?_; conv => whnf)
            | (refine CALLQ.mk _ _ _ (leL_refl _) (hC ..) rfl ?_; conv => whnf)
            | (refine CALL0.by (hS ..) rfl ?_; conv => whnf)
            | (refine CALLQ.mk _ _ _ (leL_refl _) (hS ..) rfl ?_; conv => whnf)
          refine DRAW.seek ?_
          repeat (first | refine TRYD.take ?_ | refine TRYD.next ?_)
          conv => whnf
          split
          rotate_left
          · rename_i h
            exact Bool.noConfusion ((q3).symm.trans h)
          rename_i hN
          clear hN
          conv => whnf
          split
          rotate_left
          · rename_i h
            exact Bool.noConfusion ((qp).symm.trans h)
          rename_i hN
          clear hN
          conv => whnf
          split
          rotate_left
          · rename_i h
            exact Bool.noConfusion ((q1).symm.trans h)
          rename_i hN
          clear hN
          conv => whnf
          split
          rotate_left
          · rename_i h
            exact Bool.noConfusion ((q2).symm.trans h)
          rename_i hN
          clear hN
          conv => whnf
          repeat first
            | (refine CALL0.by (hI ..) rfl ?_; conv => whnf)
            | (refine CALLQ.mk _ _ _ (leL_refl _) (hI ..) rfl ?_; conv => whnf)
          refine DRAW.seek ?_
          repeat (first | refine TRYD.take ?_ | refine TRYD.next ?_)
          conv => whnf
          split
          rotate_left
          · rename_i h
            exact Bool.noConfusion ((q3).symm.trans h)
          rename_i hN
          clear hN
          conv => whnf
          split
          · rename_i h
            exact Bool.noConfusion ((q4).symm.trans h)
          rename_i hN
          clear hN
          conv => whnf
          refine DRAW.mkH 2 [7] [] [1] (by decide +kernel) ?_
          conv => whnf
          conv => whnf
          repeat first
            | (refine DRAW.seek ?_; repeat (first | refine TRYD.take ?_ | refine TRYD.next ?_); conv => whnf)
            | (refine HOLD.mk (by first | exact trivial | exact ⟨⟨rfl, rfl⟩, trivial⟩ | exact ⟨⟨rfl, rfl⟩, ⟨rfl, rfl⟩, trivial⟩) ?_; (conv => whnf))
          exact ⟨(hbad (by rw [hok]; simp)).symm, rfl⟩
        | true =>
        cases fp with
        | false =>
          conv => whnf
          repeat first
            | (refine CALL0.by (hC ..) rfl ?_; conv => whnf)
            | (refine CALLQ.mk _ _ _ (leL_refl _) (hC ..) rfl ?_; conv => whnf)
            | (refine CALL0.by (hS ..) rfl ?_; conv => whnf)
            | (refine CALLQ.mk _ _ _ (leL_refl _) (hS ..) rfl ?_; conv => whnf)
          refine DRAW.seek ?_
          repeat (first | refine TRYD.take ?_ | refine TRYD.next ?_)
          conv => whnf
          split
          rotate_left
          · rename_i h
            exact Bool.noConfusion ((q3).symm.trans h)
          rename_i hN
          clear hN
          conv => whnf
          split
          rotate_left
          · rename_i h
            exact Bool.noConfusion ((qp).symm.trans h)
          rename_i hN
          clear hN
          conv => whnf
          split
          rotate_left
          · rename_i h
            exact Bool.noConfusion ((q1).symm.trans h)
          rename_i hN
          clear hN
          conv => whnf
          split
          rotate_left
          · rename_i h
            exact Bool.noConfusion ((q2).symm.trans h)
          rename_i hN
          clear hN
          conv => whnf
          repeat first
            | (refine CALL0.by (hI ..) rfl ?_; conv => whnf)
            | (refine CALLQ.mk _ _ _ (leL_refl _) (hI ..) rfl ?_; conv => whnf)
          refine DRAW.seek ?_
          repeat (first | refine TRYD.take ?_ | refine TRYD.next ?_)
          conv => whnf
          split
          rotate_left
          · rename_i h
            exact Bool.noConfusion ((q3).symm.trans h)
          rename_i hN
          clear hN
          conv => whnf
          split
          · rename_i h
            exact Bool.noConfusion ((q4).symm.trans h)
          rename_i hN
          clear hN
          conv => whnf
          first | refine CALLQ.mk _ _ _ (leL_refl _) (hf1 _) rfl ?_ | refine CALL0.mk _ _ _ _ _ (leL_refl _) (hf1 _) rfl ?_
          conv => whnf
          refine DRAW.mkH 2 [7] [] [1] (by decide +kernel) ?_
          conv => whnf
          conv => whnf
          repeat first
            | (refine DRAW.seek ?_; repeat (first | refine TRYD.take ?_ | refine TRYD.next ?_); conv => whnf)
            | (refine HOLD.mk (by first | exact trivial | exact ⟨⟨rfl, rfl⟩, trivial⟩ | exact ⟨⟨rfl, rfl⟩, ⟨rfl, rfl⟩, trivial⟩) ?_; (conv => whnf))
          exact ⟨(hbad (by rw [hok]; simp)).symm, rfl⟩
        | true =>
          conv => whnf
          repeat first
            | (refine CALL0.by (hC ..) rfl ?_; conv => whnf)
            | (refine CALLQ.mk _ _ _ (leL_refl _) (hC ..) rfl ?_; conv => whnf)
            | (refine CALL0.by (hS ..) rfl ?_; conv => whnf)
            | (refine CALLQ.mk _ _ _ (leL_refl _) (hS ..) rfl ?_; conv => whnf)
          refine DRAW.seek ?_
          repeat (first | refine TRYD.take ?_ | refine TRYD.next ?_)
          conv => whnf
          split
          rotate_left
          · rename_i h
            exact Bool.noConfusion ((q3).symm.trans h)
          rename_i hN
          clear hN
          conv => whnf
          split
          rotate_left
          · rename_i h
            exact Bool.noConfusion ((qp).symm.trans h)
          rename_i hN
          clear hN
          conv => whnf
          split
          rotate_left
          · rename_i h
            exact Bool.noConfusion ((q1).symm.trans h)
          rename_i hN
          clear hN
          conv => whnf
          split
          rotate_left
          · rename_i h
            exact Bool.noConfusion ((q2).symm.trans h)
          rename_i hN
          clear hN
          conv => whnf
          repeat first
            | (refine CALL0.by (hI ..) rfl ?_; conv => whnf)
            | (refine CALLQ.mk _ _ _ (leL_refl _) (hI ..) rfl ?_; conv => whnf)
          refine DRAW.seek ?_
          repeat (first | refine TRYD.take ?_ | refine TRYD.next ?_)
          conv => whnf
          split
          rotate_left
          · rename_i h
            exact Bool.noConfusion ((q3).symm.trans h)
          rename_i hN
          clear hN
          conv => whnf
          split
          · rename_i h
            exact Bool.noConfusion ((q4).symm.trans h)
          rename_i hN
          clear hN
          conv => whnf
          first | refine CALLQ.mk _ _ _ (leL_refl _) (hf1 _) rfl ?_ | refine CALL0.mk _ _ _ _ _ (leL_refl _) (hf1 _) rfl ?_
          conv => whnf
          refine .lend 25 [.nilS, .nilS, .nilS] _ [numsI n (numL P 0)] (leL_refl _) rfl rfl rfl rfl (l_polar n hnle (numL P 0)) rfl ?_
          conv => whnf
          refine ⟨⟨1, hlt, fun j hj => ?_⟩, rfl, ⟨leV_refl _, leV_refl _, leV_refl _, leV_refl _, leV_refl _, leV_refl _, trivial⟩, ⟨⟨leV_int hw, trivial⟩, leL_refl _, ⟨⟨.inl rfl, rfl, (by rw [hcnt]), fun _ _ => rfl⟩, ⟨.inl rfl, rfl, (by rw [hcnt]), fun _ _ => rfl⟩, rfl, trivial⟩, leL_refl _, leL_refl _, leL_refl _, trivial⟩, rfl, rfl⟩
          rw [show j = 0 by omega]; exact hok
      | false =>
      cases br with
      | true =>
        conv => whnf
        repeat first
          | (refine CALL0.by (hC ..) rfl ?_; conv => whnf)
          | (refine CALLQ.mk _ _ _ (leL_refl _) (hC ..) rfl ?_; conv => whnf)
          | (refine CALL0.by (hS ..) rfl ?_; conv => whnf)
          | (refine CALLQ.mk _ _ _ (leL_refl _) (hS ..) rfl ?_; conv => whnf)
        refine DRAW.seek ?_
        repeat (first | refine TRYD.take ?_ | refine TRYD.next ?_)
        conv => whnf
        split
        rotate_left
        · rename_i h
          exact Bool.noConfusion ((q3).symm.trans h)
        rename_i hN
        clear hN
        conv => whnf
        split
        · rename_i h
          exact Bool.noConfusion ((qp).symm.trans h)
        rename_i hN
        clear hN
        conv => whnf
        split
        rotate_left
        · rename_i h
          exact Bool.noConfusion ((qr).symm.trans h)
        rename_i hN
        clear hN
        conv => whnf
        split
        rotate_left
        · rename_i h
          exact Bool.noConfusion ((q1).symm.trans h)
        rename_i hN
        clear hN
        conv => whnf
        split
        rotate_left
        · rename_i h
          exact Bool.noConfusion ((q2).symm.trans h)
        rename_i hN
        clear hN
        conv => whnf
        repeat first
          | (refine CALL0.by (hI ..) rfl ?_; conv => whnf)
          | (refine CALLQ.mk _ _ _ (leL_refl _) (hI ..) rfl ?_; conv => whnf)
        cases bw with
        | false =>
          refine DRAW.seek ?_
          repeat (first | refine TRYD.take ?_ | refine TRYD.next ?_)
          conv => whnf
          refine DRAW.mkH 2 [7] [] [1] (by decide +kernel) ?_
          conv => whnf
          conv => whnf
          repeat first
            | (refine DRAW.seek ?_; repeat (first | refine TRYD.take ?_ | refine TRYD.next ?_); conv => whnf)
            | (refine HOLD.mk (by first | exact trivial | exact ⟨⟨rfl, rfl⟩, trivial⟩ | exact ⟨⟨rfl, rfl⟩, ⟨rfl, rfl⟩, trivial⟩) ?_; (conv => whnf))
          exact ⟨(hbad (by rw [hok]; simp)).symm, rfl⟩
        | true =>
          refine DRAW.seek ?_
          repeat (first | refine TRYD.take ?_ | refine TRYD.next ?_)
          conv => whnf
          split
          rotate_left
          · rename_i h
            exact Bool.noConfusion ((q3).symm.trans h)
          rename_i hN
          clear hN
          conv => whnf
          split
          rotate_left
          · rename_i h
            exact Bool.noConfusion ((q4).symm.trans h)
          rename_i hN
          clear hN
          conv => whnf
          refine DRAW.mkH 2 [7] [] [1] (by decide +kernel) ?_
          conv => whnf
          conv => whnf
          repeat first
            | (refine DRAW.seek ?_; repeat (first | refine TRYD.take ?_ | refine TRYD.next ?_); conv => whnf)
            | (refine HOLD.mk (by first | exact trivial | exact ⟨⟨rfl, rfl⟩, trivial⟩ | exact ⟨⟨rfl, rfl⟩, ⟨rfl, rfl⟩, trivial⟩) ?_; (conv => whnf))
          exact ⟨(hbad (by rw [hok]; simp)).symm, rfl⟩
      | false =>
        conv => whnf
        repeat first
          | (refine CALL0.by (hC ..) rfl ?_; conv => whnf)
          | (refine CALLQ.mk _ _ _ (leL_refl _) (hC ..) rfl ?_; conv => whnf)
          | (refine CALL0.by (hS ..) rfl ?_; conv => whnf)
          | (refine CALLQ.mk _ _ _ (leL_refl _) (hS ..) rfl ?_; conv => whnf)
        refine DRAW.seek ?_
        repeat (first | refine TRYD.take ?_ | refine TRYD.next ?_)
        conv => whnf
        split
        rotate_left
        · rename_i h
          exact Bool.noConfusion ((q3).symm.trans h)
        rename_i hN
        clear hN
        conv => whnf
        split
        · rename_i h
          exact Bool.noConfusion ((qp).symm.trans h)
        rename_i hN
        clear hN
        conv => whnf
        split
        · rename_i h
          exact Bool.noConfusion ((qr).symm.trans h)
        rename_i hN
        clear hN
        conv => whnf
        split
        rotate_left
        · rename_i h
          exact Bool.noConfusion ((q1).symm.trans h)
        rename_i hN
        clear hN
        conv => whnf
        split
        rotate_left
        · rename_i h
          exact Bool.noConfusion ((q2).symm.trans h)
        rename_i hN
        clear hN
        conv => whnf
        repeat first
          | (refine CALL0.by (hI ..) rfl ?_; conv => whnf)
          | (refine CALLQ.mk _ _ _ (leL_refl _) (hI ..) rfl ?_; conv => whnf)
        cases bw with
        | false =>
          refine DRAW.seek ?_
          repeat (first | refine TRYD.take ?_ | refine TRYD.next ?_)
          conv => whnf
          refine DRAW.mkH 2 [7] [] [1] (by decide +kernel) ?_
          conv => whnf
          conv => whnf
          repeat first
            | (refine DRAW.seek ?_; repeat (first | refine TRYD.take ?_ | refine TRYD.next ?_); conv => whnf)
            | (refine HOLD.mk (by first | exact trivial | exact ⟨⟨rfl, rfl⟩, trivial⟩ | exact ⟨⟨rfl, rfl⟩, ⟨rfl, rfl⟩, trivial⟩) ?_; (conv => whnf))
          exact ⟨(hbad (by rw [hok]; simp)).symm, rfl⟩
        | true =>
          refine DRAW.seek ?_
          repeat (first | refine TRYD.take ?_ | refine TRYD.next ?_)
          conv => whnf
          refine DRAW.mkH 2 [7] [] [1] (by decide +kernel) ?_
          conv => whnf
          conv => whnf
          repeat first
            | (refine DRAW.seek ?_; repeat (first | refine TRYD.take ?_ | refine TRYD.next ?_); conv => whnf)
            | (refine HOLD.mk (by first | exact trivial | exact ⟨⟨rfl, rfl⟩, trivial⟩ | exact ⟨⟨rfl, rfl⟩, ⟨rfl, rfl⟩, trivial⟩) ?_; (conv => whnf))
          exact ⟨(hbad (by rw [hok]; simp)).symm, rfl⟩
    | succ k =>
      have hok : lineOk P (k + 1) = (bw && (g && (br && fr))) := by rw [hbw, hgd, hbr, hfr]; unfold lineOk; rw [hcnt]
      have q4 : (!(((x 0).toList == polarB.toList) == (((k + 1 : Nat) : Int) == 0))) = bp := by
        rw [qp, show (((k + 1 : Nat) : Int) == 0) = false by rw [beq_eq_false_iff_ne]; omega]
        cases bp <;> rfl
      cases bp with
      | true =>
        have hnr : br = false := by
          rw [← qr]
          have e : x 0 = polarB := bytes_ext (by simpa using qp)
          rw [e, beq_eq_false_iff_ne, Go.Lib.toList_data, Go.Lib.toList_data]
          decide
        rw [hnr] at hok
        conv => whnf
        repeat first
          | (refine CALL0.by (hC ..) rfl ?_; conv => whnf)
          | (refine CALLQ.mk _ _ _ (leL_refl _) (hC ..) rfl ?_; conv => whnf)
          | (refine CALL0.by (hS ..) rfl ?_; conv => whnf)
          | (refine CALLQ.mk _ _ _ (leL_refl _) (hS ..) rfl ?_; conv => whnf)
        refine DRAW.seek ?_
        repeat (first | refine TRYD.take ?_ | refine TRYD.next ?_)
        conv => whnf
        split
        rotate_left
        · rename_i h
          exact Bool.noConfusion ((q3).symm.trans h)
        rename_i hN
        clear hN
        conv => whnf
        split
        rotate_left
        · rename_i h
          exact Bool.noConfusion ((qp).symm.trans h)
        rename_i hN
        clear hN
        conv => whnf
        split
        rotate_left
        · rename_i h
          exact Bool.noConfusion ((q1).symm.trans h)
        rename_i hN
        clear hN
        conv => whnf
        split
        rotate_left
        · rename_i h
          exact Bool.noConfusion ((q2).symm.trans h)
        rename_i hN
        clear hN
        conv => whnf
        repeat first
          | (refine CALL0.by (hI ..) rfl ?_; conv => whnf)
          | (refine CALLQ.mk _ _ _ (leL_refl _) (hI ..) rfl ?_; conv => whnf)
        cases bw with
        | false =>
          refine DRAW.seek ?_
          repeat (first | refine TRYD.take ?_ | refine TRYD.next ?_)
          conv => whnf
          refine DRAW.mkH 2 [7] [] [1] (by decide +kernel) ?_
          conv => whnf
          conv => whnf
          repeat first
            | (refine DRAW.seek ?_; repeat (first | refine TRYD.take ?_ | refine TRYD.next ?_); conv => whnf)
            | (refine HOLD.mk (by first | exact trivial | exact ⟨⟨rfl, rfl⟩, trivial⟩ | exact ⟨⟨rfl, rfl⟩, ⟨rfl, rfl⟩, trivial⟩) ?_; (conv => whnf))
          exact ⟨(hbad (by rw [hok]; simp)).symm, rfl⟩
        | true =>
          refine DRAW.seek ?_
          repeat (first | refine TRYD.take ?_ | refine TRYD.next ?_)
          conv => whnf
          split
          rotate_left
          · rename_i h
            exact Bool.noConfusion ((q3).symm.trans h)
          rename_i hN
          clear hN
          conv => whnf
          split
          rotate_left
          · rename_i h
            exact Bool.noConfusion ((q4).symm.trans h)
          rename_i hN
          clear hN
          conv => whnf
          refine DRAW.mkH 2 [7] [] [1] (by decide +kernel) ?_
          conv => whnf
          conv => whnf
          repeat first
            | (refine DRAW.seek ?_; repeat (first | refine TRYD.take ?_ | refine TRYD.next ?_); conv => whnf)
            | (refine HOLD.mk (by first | exact trivial | exact ⟨⟨rfl, rfl⟩, trivial⟩ | exact ⟨⟨rfl, rfl⟩, ⟨rfl, rfl⟩, trivial⟩) ?_; (conv => whnf))
          exact ⟨(hbad (by rw [hok]; simp)).symm, rfl⟩
      | false =>
      cases br with
      | false =>
        conv => whnf
        repeat first
          | (refine CALL0.by (hC ..) rfl ?_; conv => whnf)
          | (refine CALLQ.mk _ _ _ (leL_refl _) (hC ..) rfl ?_; conv => whnf)
          | (refine CALL0.by (hS ..) rfl ?_; conv => whnf)
          | (refine CALLQ.mk _ _ _ (leL_refl _) (hS ..) rfl ?_; conv => whnf)
        refine DRAW.seek ?_
        repeat (first | refine TRYD.take ?_ | refine TRYD.next ?_)
        conv => whnf
        split
        rotate_left
        · rename_i h
          exact Bool.noConfusion ((q3).symm.trans h)
        rename_i hN
        clear hN
        conv => whnf
        split
        · rename_i h
          exact Bool.noConfusion ((qp).symm.trans h)
        rename_i hN
        clear hN
        conv => whnf
        split
        · rename_i h
          exact Bool.noConfusion ((qr).symm.trans h)
        rename_i hN
        clear hN
        conv => whnf
        split
        rotate_left
        · rename_i h
          exact Bool.noConfusion ((q1).symm.trans h)
        rename_i hN
        clear hN
        conv => whnf
        split
        rotate_left
        · rename_i h
          exact Bool.noConfusion ((q2).symm.trans h)
        rename_i hN
        clear hN
        conv => whnf
        repeat first
          | (refine CALL0.by (hI ..) rfl ?_; conv => whnf)
          | (refine CALLQ.mk _ _ _ (leL_refl _) (hI ..) rfl ?_; conv => whnf)
        cases bw with
        | false =>
          refine DRAW.seek ?_
          repeat (first | refine TRYD.take ?_ | refine TRYD.next ?_)
          conv => whnf
          refine DRAW.mkH 2 [7] [] [1] (by decide +kernel) ?_
          conv => whnf
          conv => whnf
          repeat first
            | (refine DRAW.seek ?_; repeat (first | refine TRYD.take ?_ | refine TRYD.next ?_); conv => whnf)
            | (refine HOLD.mk (by first | exact trivial | exact ⟨⟨rfl, rfl⟩, trivial⟩ | exact ⟨⟨rfl, rfl⟩, ⟨rfl, rfl⟩, trivial⟩) ?_; (conv => whnf))
          exact ⟨(hbad (by rw [hok]; simp)).symm, rfl⟩
        | true =>
          refine DRAW.seek ?_
          repeat (first | refine TRYD.take ?_ | refine TRYD.next ?_)
          conv => whnf
          refine DRAW.mkH 2 [7] [] [1] (by decide +kernel) ?_
          conv => whnf
          conv => whnf
          repeat first
            | (refine DRAW.seek ?_; repeat (first | refine TRYD.take ?_ | refine TRYD.next ?_); conv => whnf)
            | (refine HOLD.mk (by first | exact trivial | exact ⟨⟨rfl, rfl⟩, trivial⟩ | exact ⟨⟨rfl, rfl⟩, ⟨rfl, rfl⟩, trivial⟩) ?_; (conv => whnf))
          exact ⟨(hbad (by rw [hok]; simp)).symm, rfl⟩
      | true =>
        cases bw with
        | false =>
          conv => whnf
          repeat first
            | (refine CALL0.by (hC ..) rfl ?_; conv => whnf)
            | (refine CALLQ.mk _ _ _ (leL_refl _) (hC ..) rfl ?_; conv => whnf)
            | (refine CALL0.by (hS ..) rfl ?_; conv => whnf)
            | (refine CALLQ.mk _ _ _ (leL_refl _) (hS ..) rfl ?_; conv => whnf)
          refine DRAW.seek ?_
          repeat (first | refine TRYD.take ?_ | refine TRYD.next ?_)
          conv => whnf
          split
          rotate_left
          · rename_i h
            exact Bool.noConfusion ((q3).symm.trans h)
          rename_i hN
          clear hN
          conv => whnf
          split
          · rename_i h
            exact Bool.noConfusion ((qp).symm.trans h)
          rename_i hN
          clear hN
          conv => whnf
          split
          rotate_left
          · rename_i h
            exact Bool.noConfusion ((qr).symm.trans h)
          rename_i hN
          clear hN
          conv => whnf
          split
          rotate_left
          · rename_i h
            exact Bool.noConfusion ((q1).symm.trans h)
          rename_i hN
          clear hN
          conv => whnf
          split
          rotate_left
          · rename_i h
            exact Bool.noConfusion ((q2).symm.trans h)
          rename_i hN
          clear hN
          conv => whnf
          repeat first
            | (refine CALL0.by (hI ..) rfl ?_; conv => whnf)
            | (refine CALLQ.mk _ _ _ (leL_refl _) (hI ..) rfl ?_; conv => whnf)
          refine DRAW.seek ?_
          repeat (first | refine TRYD.take ?_ | refine TRYD.next ?_)
          conv => whnf
          refine DRAW.mkH 2 [7] [] [1] (by decide +kernel) ?_
          conv => whnf
          conv => whnf
          repeat first
            | (refine DRAW.seek ?_; repeat (first | refine TRYD.take ?_ | refine TRYD.next ?_); conv => whnf)
            | (refine HOLD.mk (by first | exact trivial | exact ⟨⟨rfl, rfl⟩, trivial⟩ | exact ⟨⟨rfl, rfl⟩, ⟨rfl, rfl⟩, trivial⟩) ?_; (conv => whnf))
          exact ⟨(hbad (by rw [hok]; simp)).symm, rfl⟩
        | true =>
        cases g with
        | false =>
          conv => whnf
          repeat first
            | (refine CALL0.by (hC ..) rfl ?_; conv => whnf)
            | (refine CALLQ.mk _ _ _ (leL_refl _) (hC ..) rfl ?_; conv => whnf)
            | (refine CALL0.by (hS ..) rfl ?_; conv => whnf)
            | (refine CALLQ.mk _ _ _ (leL_refl _) (hS ..) rfl ?_; conv => whnf)
          refine DRAW.seek ?_
          repeat (first | refine TRYD.take ?_ | refine TRYD.next ?_)
          conv => whnf
          split
          rotate_left
          · rename_i h
            exact Bool.noConfusion ((q3).symm.trans h)
          rename_i hN
          clear hN
          conv => whnf
          split
          · rename_i h
            exact Bool.noConfusion ((qp).symm.trans h)
          rename_i hN
          clear hN
          conv => whnf
          split
          rotate_left
          · rename_i h
            exact Bool.noConfusion ((qr).symm.trans h)
          rename_i hN
          clear hN
          conv => whnf
          split
          rotate_left
          · rename_i h
            exact Bool.noConfusion ((q1).symm.trans h)
          rename_i hN
          clear hN
          conv => whnf
          split
          rotate_left
          · rename_i h
            exact Bool.noConfusion ((q2).symm.trans h)
          rename_i hN
          clear hN
          conv => whnf
          repeat first
            | (refine CALL0.by (hI ..) rfl ?_; conv => whnf)
            | (refine CALLQ.mk _ _ _ (leL_refl _) (hI ..) rfl ?_; conv => whnf)
          refine DRAW.seek ?_
          repeat (first | refine TRYD.take ?_ | refine TRYD.next ?_)
          conv => whnf
          split
          rotate_left
          · rename_i h
            exact Bool.noConfusion ((q3).symm.trans h)
          rename_i hN
          clear hN
          conv => whnf
          split
          · rename_i h
            exact Bool.noConfusion ((q4).symm.trans h)
          rename_i hN
          clear hN
          conv => whnf
          refine DRAW.mkH 2 [7] [] [1] (by decide +kernel) ?_
          conv => whnf
          conv => whnf
          repeat first
            | (refine DRAW.seek ?_; repeat (first | refine TRYD.take ?_ | refine TRYD.next ?_); conv => whnf)
            | (refine HOLD.mk (by first | exact trivial | exact ⟨⟨rfl, rfl⟩, trivial⟩ | exact ⟨⟨rfl, rfl⟩, ⟨rfl, rfl⟩, trivial⟩) ?_; (conv => whnf))
          exact ⟨(hbad (by rw [hok]; simp)).symm, rfl⟩
        | true =>
        cases fr with
        | false =>
          conv => whnf
          repeat first
            | (refine CALL0.by (hC ..) rfl ?_; conv => whnf)
            | (refine CALLQ.mk _ _ _ (leL_refl _) (hC ..) rfl ?_; conv => whnf)
            | (refine CALL0.by (hS ..) rfl ?_; conv => whnf)
            | (refine CALLQ.mk _ _ _ (leL_refl _) (hS ..) rfl ?_; conv => whnf)
          refine DRAW.seek ?_
          repeat (first | refine TRYD.take ?_ | refine TRYD.next ?_)
          conv => whnf
          split
          rotate_left
          · rename_i h
            exact Bool.noConfusion ((q3).symm.trans h)
          rename_i hN
          clear hN
          conv => whnf
          split
          · rename_i h
            exact Bool.noConfusion ((qp).symm.trans h)
          rename_i hN
          clear hN
          conv => whnf
          split
          rotate_left
          · rename_i h
            exact Bool.noConfusion ((qr).symm.trans h)
          rename_i hN
          clear hN
          conv => whnf
          split
          rotate_left
          · rename_i h
            exact Bool.noConfusion ((q1).symm.trans h)
          rename_i hN
          clear hN
          conv => whnf
          split
          rotate_left
          · rename_i h
            exact Bool.noConfusion ((q2).symm.trans h)
          rename_i hN
          clear hN
          conv => whnf
          repeat first
            | (refine CALL0.by (hI ..) rfl ?_; conv => whnf)
            | (refine CALLQ.mk _ _ _ (leL_refl _) (hI ..) rfl ?_; conv => whnf)
          refine DRAW.seek ?_
          repeat (first | refine TRYD.take ?_ | refine TRYD.next ?_)
          conv => whnf
          split
          rotate_left
          · rename_i h
            exact Bool.noConfusion ((q3).symm.trans h)
          rename_i hN
          clear hN
          conv => whnf
          split
          · rename_i h
            exact Bool.noConfusion ((q4).symm.trans h)
          rename_i hN
          clear hN
          conv => whnf
          first | refine CALLQ.mk _ _ _ (leL_refl _) (hf2 _) rfl ?_ | refine CALL0.mk _ _ _ _ _ (leL_refl _) (hf2 _) rfl ?_
          conv => whnf
          refine DRAW.mkH 2 [7] [] [1] (by decide +kernel) ?_
          conv => whnf
          conv => whnf
          repeat first
            | (refine DRAW.seek ?_; repeat (first | refine TRYD.take ?_ | refine TRYD.next ?_); conv => whnf)
            | (refine HOLD.mk (by first | exact trivial | exact ⟨⟨rfl, rfl⟩, trivial⟩ | exact ⟨⟨rfl, rfl⟩, ⟨rfl, rfl⟩, trivial⟩) ?_; (conv => whnf))
          exact ⟨(hbad (by rw [hok]; simp)).symm, rfl⟩
        | true =>
          have hn4 : n = 4 := by
            have h : ((n : Int) == 4) = true := hfr.symm
            have := (beq_iff_eq.1 h)
            omega
          have hring := l_ringN (gl := gl) n hn4 (cntL P 0 / 2) k (by omega) (fun j => [.int .i64 (numL P 0 (2 * j))]) (fun j => [.int .i64 (numL P 0 (2 * j + 1))]) (fun k => [.int .i64 (numL P (k + 1) 0), .int .i64 (numL P (k + 1) 1), .int .i64 (numL P (k + 1) 2), .int .i64 (numL P (k + 1) 3)]) (numL P (k + 1))
          conv => whnf
          repeat first
            | (refine CALL0.by (hC ..) rfl ?_; conv => whnf)
            | (refine CALLQ.mk _ _ _ (leL_refl _) (hC ..) rfl ?_; conv => whnf)
            | (refine CALL0.by (hS ..) rfl ?_; conv => whnf)
            | (refine CALLQ.mk _ _ _ (leL_refl _) (hS ..) rfl ?_; conv => whnf)
          refine DRAW.seek ?_
          repeat (first | refine TRYD.take ?_ | refine TRYD.next ?_)
          conv => whnf
          split
          rotate_left
          · rename_i h
            exact Bool.noConfusion ((q3).symm.trans h)
          rename_i hN
          clear hN
          conv => whnf
          split
          · rename_i h
            exact Bool.noConfusion ((qp).symm.trans h)
          rename_i hN
          clear hN
          conv => whnf
          split
          rotate_left
          · rename_i h
            exact Bool.noConfusion ((qr).symm.trans h)
          rename_i hN
          clear hN
          conv => whnf
          split
          rotate_left
          · rename_i h
            exact Bool.noConfusion ((q1).symm.trans h)
          rename_i hN
          clear hN
          conv => whnf
          split
          rotate_left
          · rename_i h
            exact Bool.noConfusion ((q2).symm.trans h)
          rename_i hN
          clear hN
          conv => whnf
          repeat first
            | (refine CALL0.by (hI ..) rfl ?_; conv => whnf)
            | (refine CALLQ.mk _ _ _ (leL_refl _) (hI ..) rfl ?_; conv => whnf)
          refine DRAW.seek ?_
          repeat (first | refine TRYD.take ?_ | refine TRYD.next ?_)
          conv => whnf
          split
          rotate_left
          · rename_i h
            exact Bool.noConfusion ((q3).symm.trans h)
          rename_i hN
          clear hN
          conv => whnf
          split
          · rename_i h
            exact Bool.noConfusion ((q4).symm.trans h)
          rename_i hN
          clear hN
          conv => whnf
          first | refine CALLQ.mk _ _ _ (leL_refl _) (hf2 _) rfl ?_ | refine CALL0.mk _ _ _ _ _ (leL_refl _) (hf2 _) rfl ?_
          conv => whnf
          refine .lend 25 _ _ [numsI n (numL P (k + 1))] (leL_refl _) rfl rfl rfl rfl hring rfl ?_
          conv => whnf
          refine ⟨⟨k + 1 + 1, hlt, fun j hj => ?_⟩, rfl, ⟨leV_refl _, leV_refl _, leV_refl _, leV_refl _, leV_refl _, leV_refl _, trivial⟩, ⟨⟨leV_int hw, trivial⟩, leL_refl _, ⟨leV_refl _, leV_refl _, ⟨.inr rfl, rfl, rfl, fun j hj => ?_⟩, trivial⟩, leL_refl _, leL_refl _, leL_refl _, trivial⟩, rfl, rfl⟩
          · rcases Nat.lt_or_ge j (k + 1) with h | h
            · exact hg j h
            · rw [show j = k + 1 by omega]; exact hok
          · show (if j < k then _ else litF 4 _ (j - k)) = _
            split
            · rfl
            · have : j = k := by have : j < k + 1 := hj; omega
              subst this
              rw [Nat.sub_self]; rfl
  · rintro ⟨k, hkN, hg⟩ he
    have he : k = N := he
    subst he
    obtain ⟨K, rfl⟩ : ∃ K, k = K + 1 := ⟨k - 1, by omega⟩
    have hCB := fun up => c_CheckBlade (gl := gl) up (cntL P 0 / 2) (cntL P 0 / 2) K (fun j => numL P 0 (2 * j)) (fun j => numL P 0 (2 * j + 1)) (fun k => numL P (k + 1) 0) (fun k => numL P (k + 1) 1) (fun k => numL P (k + 1) 2) (fun k => numL P (k + 1) 3)
    have hE : (parB P).err = bladeS (cntL P 0 / 2) (fun j => numL P 0 (2 * j)) (cntL P 0 / 2) (fun j => numL P 0 (2 * j + 1)) K (fun k => numL P (k + 1) 0) (fun k => numL P (k + 1) 1) (fun k => numL P (k + 1) 2) (fun k => numL P (k + 1) 3) := by
      unfold Bl.err parB
      simp only [← hN]
      rfl
    rw [← hE] at hCB
    have e : fb (lineOk P) (linesN P) 0 = linesN P := by rw [fb_all (fun j _ hj => hg j (by omega))]; omega
    have hR : parR (some 24) P = bif (parB P).err != 0 then .tup [nilB0, .int .i64 (K + 1 : Nat), .int .i64 (parB P).err] else .tup [.agg (polC none none (cntL P 0 / 2) (numL P 0) (.lst (some 24) 4 K fun k => [.int .i64 (numL P (k + 1) 0), .int .i64 (numL P (k + 1) 1), .int .i64 (numL P (k + 1) 2), .int .i64 (numL P (k + 1) 3)])), .int .i64 0, .int .i64 0] := by
      unfold parR
      simp only [e, decide_eq_false (Nat.lt_irrefl (linesN P)), cond_false]
      have h2 : (parB P).nr = K := by show linesN P - 1 = K; omega
      rw [h2, ← hN]
      rfl
    rw [hR]
    obtain ⟨E, hEE⟩ : ∃ E, E = (parB P).err := ⟨_, rfl⟩
    rw [← hEE] at hCB ⊢
    cases qE : (E != 0) with
    | true =>
      conv => whnf
      repeat first
        | (refine CALL0.by (hCB ..) rfl ?_; conv => whnf)
        | (refine CALLQ.mk _ _ _ (leL_refl _) (hCB ..) rfl ?_; conv => whnf)
      split
      rotate_left
      · rename_i h
        exact Bool.noConfusion ((qE).symm.trans h)
      rename_i hN
      clear hN
      conv => whnf
      refine DRAW.mkH 3 [7] [] [1, 2] (by decide +kernel) ?_
      conv => whnf
      conv => whnf
      repeat first
        | (refine DRAW.seek ?_; repeat (first | refine TRYD.take ?_ | refine TRYD.next ?_); conv => whnf)
        | (refine HOLD.mk (by first | exact trivial | exact ⟨⟨rfl, rfl⟩, trivial⟩ | exact ⟨⟨rfl, rfl⟩, ⟨rfl, rfl⟩, trivial⟩) ?_; (conv => whnf))
      exact ⟨rfl, rfl⟩
    | false =>
      conv => whnf
      repeat first
        | (refine CALL0.by (hCB ..) rfl ?_; conv => whnf)
        | (refine CALLQ.mk _ _ _ (leL_refl _) (hCB ..) rfl ?_; conv => whnf)
      split
      · rename_i h
        exact Bool.noConfusion ((qE).symm.trans h)
      rename_i hN
      clear hN
      conv => whnf
      exact ⟨rfl, rfl⟩
end Go.Proofs.YtfoenhiohhmnlaaGreatDoor.Ix

namespace Go.Proofs.YtfoenhiohhmnlaaGreatDoor.Ix
open Go.Proofs
set_option maxRecDepth 100000
set_option linter.unusedVariables false
set_option linter.unusedSimpArgs false
variable {gl : Nat → IV}
def numR1 (l : List UInt8) : Int × Bool := bif l.isEmpty || (decide (l.length > 9) || (decide (l.length > 1) && l.headD 0 == 48)) then (0, false) else bif l.all dig then (((valL l : Nat) : Int), true) else (0, false)
def numR : List UInt8 → Int × Bool
  | [] => (0, false)
  | c :: r => bif c == 45 then (-(numR r).1, (numR r).2 && decide ((numR r).1 > 0)) else numR1 (c :: r)
theorem numR1_rng (l : List UInt8) : 0 ≤ (numR1 l).1 ∧ (numR1 l).1 ≤ 1000000000 := by
  unfold numR1
  cases h : (l.isEmpty || (decide (l.length > 9) || (decide (l.length > 1) && l.headD 0 == 48))) with
  | true => simp
  | false =>
    cases h2 : l.all dig with
    | false => simp
    | true =>
      simp only [cond_false, cond_true]
      have h3 : ¬ l.length > 9 := fun hh => by rw [decide_eq_true hh] at h; simp at h
      have := valL_lt 9 l (by omega) (List.all_eq_true.1 h2)
      omega
theorem numR_rng : ∀ l : List UInt8, -1000000000 ≤ (numR l).1 ∧ (numR l).1 ≤ 1000000000
  | [] => by simp [numR]
  | c :: r => by
    have ih := numR_rng r
    have h1 := numR1_rng (c :: r)
    unfold numR
    cases (c == 45) <;> simp only [cond_true, cond_false] <;> omega
theorem u8d {n : Int} (h : 0 ≤ n) (h2 : n < 256) : IntKind.u8.wrap n = n := by
  unfold IntKind.wrap
  simp [IntKind.bits, IntKind.signed]
  omega
set_option maxHeartbeats 4000000 in
theorem c_rNumber1 (up : List Ces) (l : List UInt8) (hl : l.length ≤ 1000000000) (hc : l.headD 0 ≠ 45) :
    Cs gl n_nacelleref01_Number up [.str (bytesS l)] (.tup [.int .i64 (numR1 l).1, .bool (numR1 l).2]) up := by
  obtain ⟨s, hs⟩ : ∃ s, s = bytesS l := ⟨_, rfl⟩
  have hsz : s.size = l.length := by rw [hs]; exact bytesS_size l
  have hdat : s.data.toList = l := by rw [hs, bytesS_data]
  rw [← hs]
  by_cases h0 : l = []
  · subst h0
    have q1 : decide ((s.size : Int) > 0) = false := by rw [hsz]; rfl
    have q2 : ((s.size : Int) == 0) = true := by rw [hsz]; rfl
    refine mk h_nacelleref01_Number rfl rfl ?_
    conv => whnf
    split
    · rename_i h
      exact Bool.noConfusion ((q1).symm.trans h)
    rename_i hN
    clear hN
    conv => whnf
    split
    rotate_left
    · rename_i h
      exact Bool.noConfusion ((q2).symm.trans h)
    rename_i hN
    clear hN
    conv => whnf
    exact ⟨rfl, rfl⟩
  have hpos : 0 < l.length := List.length_pos_iff.2 h0
  have q1 : decide ((s.size : Int) > 0) = true := decide_eq_true (by omega)
  have q2 : ((s.size : Int) == 0) = false := by rw [beq_eq_false_iff_ne]; omega
  have qi : decide ((0 : Int) < s.size) = true := decide_eq_true (by omega)
  have hh : s.data.toList.getD 0 0 = l.headD 0 := by rw [hdat]; cases l <;> rfl
  have q3 : ((((s.data.toList.getD 0 0).toNat : Nat) : Int) == 45) = false := by
    rw [hh, beq_eq_false_iff_ne]
    intro e
    exact hc (UInt8.toNat_inj.1 (by have : (l.headD 0).toNat = 45 := by omega
                                    rw [this]; rfl))
  have he : l.isEmpty = false := by cases l <;> simp_all
  by_cases h9 : l.length > 9
  · have q4 : decide ((s.size : Int) > 9) = true := decide_eq_true (by omega)
    have hr : numR1 l = (0, false) := by unfold numR1; rw [he, decide_eq_true h9]; rfl
    rw [hr]
    refine mk h_nacelleref01_Number rfl rfl ?_
    conv => whnf
    split
    rotate_left
    · rename_i h
      exact Bool.noConfusion ((q1).symm.trans h)
    rename_i hN
    clear hN
    conv => whnf
    split
    rotate_left
    · rename_i h
      exact Bool.noConfusion ((qi).symm.trans h)
    rename_i hN
    clear hN
    conv => whnf
    split
    · rename_i h
      exact Bool.noConfusion ((q3).symm.trans h)
    rename_i hN
    clear hN
    conv => whnf
    split
    · rename_i h
      exact Bool.noConfusion ((q2).symm.trans h)
    rename_i hN
    clear hN
    conv => whnf
    split
    rotate_left
    · rename_i h
      exact Bool.noConfusion ((q4).symm.trans h)
    rename_i hN
    clear hN
    conv => whnf
    exact ⟨rfl, rfl⟩
  have q4 : decide ((s.size : Int) > 9) = false := decide_eq_false (by omega)
  by_cases hz : l.length > 1 ∧ l.headD 0 = 48
  · have q5 : decide ((s.size : Int) > 1) = true := decide_eq_true (by omega)
    have q6 : ((((s.data.toList.getD 0 0).toNat : Nat) : Int) == 48) = true := by rw [hh, hz.2]; rfl
    have hr : numR1 l = (0, false) := by unfold numR1; rw [he, decide_eq_false h9, decide_eq_true hz.1, hz.2]; rfl
    rw [hr]
    refine mk h_nacelleref01_Number rfl rfl ?_
    conv => whnf
    split
    rotate_left
    · rename_i h
      exact Bool.noConfusion ((q1).symm.trans h)
    rename_i hN
    clear hN
    conv => whnf
    split
    rotate_left
    · rename_i h
      exact Bool.noConfusion ((qi).symm.trans h)
    rename_i hN
    clear hN
    conv => whnf
    split
    · rename_i h
      exact Bool.noConfusion ((q3).symm.trans h)
    rename_i hN
    clear hN
    conv => whnf
    split
    · rename_i h
      exact Bool.noConfusion ((q2).symm.trans h)
    rename_i hN
    clear hN
    conv => whnf
    split
    · rename_i h
      exact Bool.noConfusion ((q4).symm.trans h)
    rename_i hN
    clear hN
    conv => whnf
    split
    rotate_left
    · rename_i h
      exact Bool.noConfusion ((q5).symm.trans h)
    rename_i hN
    clear hN
    conv => whnf
    split
    rotate_left
    · rename_i h
      exact Bool.noConfusion ((qi).symm.trans h)
    rename_i hN
    clear hN
    conv => whnf
    split
    rotate_left
    · rename_i h
      exact Bool.noConfusion ((q6).symm.trans h)
    rename_i hN
    clear hN
    conv => whnf
    exact ⟨rfl, rfl⟩
  have hr : numR1 l = bif l.all dig then (((valL l : Nat) : Int), true) else (0, false) := by
    unfold numR1
    rw [he, decide_eq_false h9, Bool.false_or, Bool.false_or]
    have : (decide (l.length > 1) && l.headD 0 == 48) = false := by
      by_cases h1 : l.length > 1
      · rw [decide_eq_true h1, Bool.true_and, beq_eq_false_iff_ne]; exact fun e => hz ⟨h1, e⟩
      · rw [decide_eq_false h1]; rfl
    rw [this, cond_false]
  rw [hr]
  have body : ∀ (i : Nat), i < l.length → ∃ b, l[i]? = some b ∧ s.data.toList.getD ((i : Nat) : Int).toNat 0 = b := fun i hi => ⟨l[i], List.getElem?_eq_getElem hi, by
    rw [Int.toNat_natCast, hdat, List.getD_eq_getElem?_getD, List.getElem?_eq_getElem hi]; rfl⟩
  have go : ∀ (R : Int × Bool), R = (bif l.all dig then (((valL l : Nat) : Int), true) else (0, false)) → Cs gl n_nacelleref01_Number up [.str s] (.tup [.int .i64 R.1, .bool R.2]) up := by
    intro R hR
    cases q5 : decide ((s.size : Int) > 1) with
    | true =>
      have q6 : ((((s.data.toList.getD 0 0).toNat : Nat) : Int) == 48) = false := by
        have h1 := of_decide_eq_true q5
        rw [hh, beq_eq_false_iff_ne]
        intro e
        exact hz ⟨by omega, UInt8.toNat_inj.1 (by have : (l.headD 0).toNat = 48 := by omega
                                                  rw [this]; rfl)⟩
      refine mk h_nacelleref01_Number rfl rfl ?_
      conv => whnf
      split
      rotate_left
      · rename_i h
        exact Bool.noConfusion ((q1).symm.trans h)
      rename_i hN
      clear hN
      conv => whnf
      split
      rotate_left
      · rename_i h
        exact Bool.noConfusion ((qi).symm.trans h)
      rename_i hN
      clear hN
      conv => whnf
      split
      · rename_i h
        exact Bool.noConfusion ((q3).symm.trans h)
      rename_i hN
      clear hN
      conv => whnf
      split
      · rename_i h
        exact Bool.noConfusion ((q2).symm.trans h)
      rename_i hN
      clear hN
      conv => whnf
      split
      · rename_i h
        exact Bool.noConfusion ((q4).symm.trans h)
      rename_i hN
      clear hN
      conv => whnf
      split
      rotate_left
      · rename_i h
        exact Bool.noConfusion ((q5).symm.trans h)
      rename_i hN
      clear hN
      conv => whnf
      split
      rotate_left
      · rename_i h
        exact Bool.noConfusion ((qi).symm.trans h)
      rename_i hN
      clear hN
      conv => whnf
      split
      · rename_i h
        exact Bool.noConfusion ((q6).symm.trans h)
      rename_i hN
      clear hN
      conv => whnf
      refine .mk (α := {i : Nat // i ≤ l.length ∧ ∀ b ∈ l.take i, dig b = true}) (fun i => ⟨[(7, .int .i64 i.1), (6, .int .i64 (valL (l.take i.1) : Nat)), (0, .str s)], [], up⟩) (fun i => l.length - i.1) ⟨0, Nat.zero_le _, (by simp)⟩ ⟨⟨leV_refl _, leV_refl _, leV_refl _, trivial⟩, trivial, rfl, rfl⟩ ?_
      rintro ⟨i, hi, hdg⟩
      have hiw : w64 ((i : Int) + 1) = ((i + 1 : Nat) : Int) := by rw [w64, wrap_in] <;> omega
      by_cases hlt : i < l.length
      rotate_left
      · have e : i = l.length := by omega
        subst e
        rw [List.take_length] at hdg
        have q : decide (((l.length : Nat) : Int) < s.size) = false := decide_eq_false (by omega)
        have hall : l.all dig = true := List.all_eq_true.2 hdg
        rw [hall, cond_true] at hR
        conv => whnf
        split
        · rename_i h
          exact Bool.noConfusion ((q).symm.trans h)
        rename_i hN
        clear hN
        conv => whnf
        refine ⟨?_, rfl⟩
        rw [hR]
        show IV.tup [.int .i64 (valL (l.take l.length) : Nat), .bool true] = _
        rw [List.take_length]
      have q : decide ((i : Int) < s.size) = true := decide_eq_true (by omega)
      obtain ⟨b, hb, hg⟩ := body i hlt
      have hall : dig b = false → R = (0, false) := fun h => by
        rw [hR]
        have : l.all dig = false := by
          cases h2 : l.all dig with
          | false => rfl
          | true => have := List.all_eq_true.1 h2 b (List.mem_of_getElem? hb); rw [h] at this; cases this
        rw [this]; rfl
      cases k1 : decide (((b.toNat : Nat) : Int) < 48) with
      | true =>
        have k1' : decide ((((s.data.toList.getD ((i : Nat) : Int).toNat 0).toNat : Nat) : Int) < 48) = true := by rw [hg]; exact k1
        have hd := hall (by cases hh : dig b with | false => rfl | true => have := dig_iff.1 hh; have := of_decide_eq_true k1; omega)
        rw [hd]
        conv => whnf
        split
        rotate_left
        · rename_i h
          exact Bool.noConfusion ((q).symm.trans h)
        rename_i hN
        clear hN
        conv => whnf
        split
        rotate_left
        · rename_i h
          exact Bool.noConfusion ((q).symm.trans h)
        rename_i hN
        clear hN
        conv => whnf
        split
        rotate_left
        · rename_i h
          exact Bool.noConfusion ((k1').symm.trans h)
        rename_i hN
        clear hN
        conv => whnf
        exact ⟨rfl, rfl⟩
      | false =>
      have k1' : decide ((((s.data.toList.getD ((i : Nat) : Int).toNat 0).toNat : Nat) : Int) < 48) = false := by rw [hg]; exact k1
      have n1 := of_decide_eq_false k1
      cases k2 : decide (((b.toNat : Nat) : Int) > 57) with
      | true =>
        have k2' : decide ((((s.data.toList.getD ((i : Nat) : Int).toNat 0).toNat : Nat) : Int) > 57) = true := by rw [hg]; exact k2
        have hd := hall (by cases hh : dig b with | false => rfl | true => have := dig_iff.1 hh; have := of_decide_eq_true k2; omega)
        rw [hd]
        conv => whnf
        split
        rotate_left
        · rename_i h
          exact Bool.noConfusion ((q).symm.trans h)
        rename_i hN
        clear hN
        conv => whnf
        split
        rotate_left
        · rename_i h
          exact Bool.noConfusion ((q).symm.trans h)
        rename_i hN
        clear hN
        conv => whnf
        split
        · rename_i h
          exact Bool.noConfusion ((k1').symm.trans h)
        rename_i hN
        clear hN
        conv => whnf
        split
        rotate_left
        · rename_i h
          exact Bool.noConfusion ((q).symm.trans h)
        rename_i hN
        clear hN
        conv => whnf
        split
        rotate_left
        · rename_i h
          exact Bool.noConfusion ((k2').symm.trans h)
        rename_i hN
        clear hN
        conv => whnf
        exact ⟨rfl, rfl⟩
      | false =>
      have k2' : decide ((((s.data.toList.getD ((i : Nat) : Int).toNat 0).toNat : Nat) : Int) > 57) = false := by rw [hg]; exact k2
      have n2 := of_decide_eq_false k2
      have hdb : dig b = true := dig_iff.2 ⟨by omega, by omega⟩
      have hbound := valL_lt 9 (l.take i) (by rw [List.length_take]; omega) hdg
      have hval := valL_take hb
      have e1 : w64 (w64 (10 * (valL (l.take i) : Nat)) + w64 (IntKind.u8.wrap ((((s.data.toList.getD ((i : Nat) : Int).toNat 0).toNat : Nat) : Int) - 48))) = (valL (l.take (i + 1)) : Nat) := by
        rw [hg, u8d (by omega) (by omega), hval]
        have : w64 (10 * ((valL (l.take i) : Nat) : Int)) = 10 * (valL (l.take i) : Nat) := by rw [w64, wrap_in] <;> omega
        rw [this]
        have : w64 (((b.toNat : Nat) : Int) - 48) = ((b.toNat : Nat) : Int) - 48 := by rw [w64, wrap_in] <;> omega
        rw [this, w64, wrap_in] <;> omega
      conv => whnf
      split
      rotate_left
      · rename_i h
        exact Bool.noConfusion ((q).symm.trans h)
      rename_i hN
      clear hN
      conv => whnf
      split
      rotate_left
      · rename_i h
        exact Bool.noConfusion ((q).symm.trans h)
      rename_i hN
      clear hN
      conv => whnf
      split
      · rename_i h
        exact Bool.noConfusion ((k1').symm.trans h)
      rename_i hN
      clear hN
      conv => whnf
      split
      rotate_left
      · rename_i h
        exact Bool.noConfusion ((q).symm.trans h)
      rename_i hN
      clear hN
      conv => whnf
      split
      · rename_i h
        exact Bool.noConfusion ((k2').symm.trans h)
      rename_i hN
      clear hN
      conv => whnf
      split
      rotate_left
      · rename_i h
        exact Bool.noConfusion ((q).symm.trans h)
      rename_i hN
      clear hN
      conv => whnf
      refine ⟨⟨i + 1, hlt, fun x hx => ?_⟩, ⟨⟨leV_int hiw, leV_int e1, leV_refl _, trivial⟩, trivial, rfl, rfl⟩, (by show l.length - (i + 1) < l.length - i; omega)⟩
      rw [List.take_add_one, hb] at hx
      rcases List.mem_append.1 hx with hx | hx
      · exact hdg x hx
      · simp at hx; rw [hx]; exact hdb
    | false =>
      refine mk h_nacelleref01_Number rfl rfl ?_
      conv => whnf
      split
      rotate_left
      · rename_i h
        exact Bool.noConfusion ((q1).symm.trans h)
      rename_i hN
      clear hN
      conv => whnf
      split
      rotate_left
      · rename_i h
        exact Bool.noConfusion ((qi).symm.trans h)
      rename_i hN
      clear hN
      conv => whnf
      split
      · rename_i h
        exact Bool.noConfusion ((q3).symm.trans h)
      rename_i hN
      clear hN
      conv => whnf
      split
      · rename_i h
        exact Bool.noConfusion ((q2).symm.trans h)
      rename_i hN
      clear hN
      conv => whnf
      split
      · rename_i h
        exact Bool.noConfusion ((q4).symm.trans h)
      rename_i hN
      clear hN
      conv => whnf
      split
      · rename_i h
        exact Bool.noConfusion ((q5).symm.trans h)
      rename_i hN
      clear hN
      conv => whnf
      refine .mk (α := {i : Nat // i ≤ l.length ∧ ∀ b ∈ l.take i, dig b = true}) (fun i => ⟨[(7, .int .i64 i.1), (6, .int .i64 (valL (l.take i.1) : Nat)), (0, .str s)], [], up⟩) (fun i => l.length - i.1) ⟨0, Nat.zero_le _, (by simp)⟩ ⟨⟨leV_refl _, leV_refl _, leV_refl _, trivial⟩, trivial, rfl, rfl⟩ ?_
      rintro ⟨i, hi, hdg⟩
      have hiw : w64 ((i : Int) + 1) = ((i + 1 : Nat) : Int) := by rw [w64, wrap_in] <;> omega
      by_cases hlt : i < l.length
      rotate_left
      · have e : i = l.length := by omega
        subst e
        rw [List.take_length] at hdg
        have q : decide (((l.length : Nat) : Int) < s.size) = false := decide_eq_false (by omega)
        have hall : l.all dig = true := List.all_eq_true.2 hdg
        rw [hall, cond_true] at hR
        conv => whnf
        split
        · rename_i h
          exact Bool.noConfusion ((q).symm.trans h)
        rename_i hN
        clear hN
        conv => whnf
        refine ⟨?_, rfl⟩
        rw [hR]
        show IV.tup [.int .i64 (valL (l.take l.length) : Nat), .bool true] = _
        rw [List.take_length]
      have q : decide ((i : Int) < s.size) = true := decide_eq_true (by omega)
      obtain ⟨b, hb, hg⟩ := body i hlt
      have hall : dig b = false → R = (0, false) := fun h => by
        rw [hR]
        have : l.all dig = false := by
          cases h2 : l.all dig with
          | false => rfl
          | true => have := List.all_eq_true.1 h2 b (List.mem_of_getElem? hb); rw [h] at this; cases this
        rw [this]; rfl
      cases k1 : decide (((b.toNat : Nat) : Int) < 48) with
      | true =>
        have k1' : decide ((((s.data.toList.getD ((i : Nat) : Int).toNat 0).toNat : Nat) : Int) < 48) = true := by rw [hg]; exact k1
        have hd := hall (by cases hh : dig b with | false => rfl | true => have := dig_iff.1 hh; have := of_decide_eq_true k1; omega)
        rw [hd]
        conv => whnf
        split
        rotate_left
        · rename_i h
          exact Bool.noConfusion ((q).symm.trans h)
        rename_i hN
        clear hN
        conv => whnf
        split
        rotate_left
        · rename_i h
          exact Bool.noConfusion ((q).symm.trans h)
        rename_i hN
        clear hN
        conv => whnf
        split
        rotate_left
        · rename_i h
          exact Bool.noConfusion ((k1').symm.trans h)
        rename_i hN
        clear hN
        conv => whnf
        exact ⟨rfl, rfl⟩
      | false =>
      have k1' : decide ((((s.data.toList.getD ((i : Nat) : Int).toNat 0).toNat : Nat) : Int) < 48) = false := by rw [hg]; exact k1
      have n1 := of_decide_eq_false k1
      cases k2 : decide (((b.toNat : Nat) : Int) > 57) with
      | true =>
        have k2' : decide ((((s.data.toList.getD ((i : Nat) : Int).toNat 0).toNat : Nat) : Int) > 57) = true := by rw [hg]; exact k2
        have hd := hall (by cases hh : dig b with | false => rfl | true => have := dig_iff.1 hh; have := of_decide_eq_true k2; omega)
        rw [hd]
        conv => whnf
        split
        rotate_left
        · rename_i h
          exact Bool.noConfusion ((q).symm.trans h)
        rename_i hN
        clear hN
        conv => whnf
        split
        rotate_left
        · rename_i h
          exact Bool.noConfusion ((q).symm.trans h)
        rename_i hN
        clear hN
        conv => whnf
        split
        · rename_i h
          exact Bool.noConfusion ((k1').symm.trans h)
        rename_i hN
        clear hN
        conv => whnf
        split
        rotate_left
        · rename_i h
          exact Bool.noConfusion ((q).symm.trans h)
        rename_i hN
        clear hN
        conv => whnf
        split
        rotate_left
        · rename_i h
          exact Bool.noConfusion ((k2').symm.trans h)
        rename_i hN
        clear hN
        conv => whnf
        exact ⟨rfl, rfl⟩
      | false =>
      have k2' : decide ((((s.data.toList.getD ((i : Nat) : Int).toNat 0).toNat : Nat) : Int) > 57) = false := by rw [hg]; exact k2
      have n2 := of_decide_eq_false k2
      have hdb : dig b = true := dig_iff.2 ⟨by omega, by omega⟩
      have hbound := valL_lt 9 (l.take i) (by rw [List.length_take]; omega) hdg
      have hval := valL_take hb
      have e1 : w64 (w64 (10 * (valL (l.take i) : Nat)) + w64 (IntKind.u8.wrap ((((s.data.toList.getD ((i : Nat) : Int).toNat 0).toNat : Nat) : Int) - 48))) = (valL (l.take (i + 1)) : Nat) := by
        rw [hg, u8d (by omega) (by omega), hval]
        have : w64 (10 * ((valL (l.take i) : Nat) : Int)) = 10 * (valL (l.take i) : Nat) := by rw [w64, wrap_in] <;> omega
        rw [this]
        have : w64 (((b.toNat : Nat) : Int) - 48) = ((b.toNat : Nat) : Int) - 48 := by rw [w64, wrap_in] <;> omega
        rw [this, w64, wrap_in] <;> omega
      conv => whnf
      split
      rotate_left
      · rename_i h
        exact Bool.noConfusion ((q).symm.trans h)
      rename_i hN
      clear hN
      conv => whnf
      split
      rotate_left
      · rename_i h
        exact Bool.noConfusion ((q).symm.trans h)
      rename_i hN
      clear hN
      conv => whnf
      split
      · rename_i h
        exact Bool.noConfusion ((k1').symm.trans h)
      rename_i hN
      clear hN
      conv => whnf
      split
      rotate_left
      · rename_i h
        exact Bool.noConfusion ((q).symm.trans h)
      rename_i hN
      clear hN
      conv => whnf
      split
      · rename_i h
        exact Bool.noConfusion ((k2').symm.trans h)
      rename_i hN
      clear hN
      conv => whnf
      split
      rotate_left
      · rename_i h
        exact Bool.noConfusion ((q).symm.trans h)
      rename_i hN
      clear hN
      conv => whnf
      refine ⟨⟨i + 1, hlt, fun x hx => ?_⟩, ⟨⟨leV_int hiw, leV_int e1, leV_refl _, trivial⟩, trivial, rfl, rfl⟩, (by show l.length - (i + 1) < l.length - i; omega)⟩
      rw [List.take_add_one, hb] at hx
      rcases List.mem_append.1 hx with hx | hx
      · exact hdg x hx
      · simp at hx; rw [hx]; exact hdb
  exact go _ rfl
theorem c_rNumber : ∀ (l : List UInt8), l.length ≤ 1000000000 → ∀ (up : List Ces), Cs gl n_nacelleref01_Number up [.str (bytesS l)] (.tup [.int .i64 (numR l).1, .bool (numR l).2]) up
  | [], hl, up => c_rNumber1 up [] hl (by decide)
  | c :: r, hl, up => by
    unfold numR
    cases hc : (c == 45) with
    | false =>
      rw [cond_false]
      exact c_rNumber1 up (c :: r) hl (by simpa using hc)
    | true =>
      have e : c = 45 := by simpa using hc
      subst e
      rw [cond_true]
      have ih := c_rNumber r (by simp at hl; omega)
      have hrng := numR_rng r
      obtain ⟨s, hs⟩ : ∃ s, s = bytesS (45 :: r) := ⟨_, rfl⟩
      have hsz : s.size = r.length + 1 := by rw [hs]; exact bytesS_size _
      have hdat : s.data.toList = 45 :: r := by rw [hs, bytesS_data]
      have q1 : decide ((s.size : Int) > 0) = true := decide_eq_true (by omega)
      have qi : decide ((0 : Int) < s.size) = true := decide_eq_true (by omega)
      have q3 : ((((s.data.toList.getD 0 0).toNat : Nat) : Int) == 45) = true := by rw [hdat]; rfl
      have q4 : decide ((1 : Int) ≤ s.size) = true := decide_eq_true (by omega)
      have q5 : decide ((s.size : Int) ≤ s.size) = true := decide_eq_true (Int.le_refl _)
      have ex : s.extract 1 (s.size : Int).toNat = bytesS r := by
        rw [Int.toNat_natCast, hs, extract_rest]; rfl
      have ih2 : ∀ up, Cs gl n_nacelleref01_Number up [.str (s.extract 1 (s.size : Int).toNat)] (.tup [.int .i64 (numR r).1, .bool (numR r).2]) up := fun up => by rw [ex]; exact ih up
      rw [← hs]
      obtain ⟨n, hn⟩ : ∃ n, n = (numR r).1 := ⟨_, rfl⟩
      obtain ⟨b, hb⟩ : ∃ b, b = (numR r).2 := ⟨_, rfl⟩
      rw [← hn, ← hb] at ih2 ⊢
      rw [← hn] at hrng
      have ew : IntKind.i64.wrap (0 - n) = -n := by rw [wrap_in] <;> omega
      cases b with
      | true =>
        refine mk h_nacelleref01_Number rfl rfl ?_
        conv => whnf
        split
        rotate_left
        · rename_i h
          exact Bool.noConfusion ((q1).symm.trans h)
        rename_i hN
        clear hN
        conv => whnf
        split
        rotate_left
        · rename_i h
          exact Bool.noConfusion ((qi).symm.trans h)
        rename_i hN
        clear hN
        conv => whnf
        split
        rotate_left
        · rename_i h
          exact Bool.noConfusion ((q3).symm.trans h)
        rename_i hN
        clear hN
        conv => whnf
        split
        rotate_left
        · rename_i h
          exact Bool.noConfusion ((q4).symm.trans h)
        rename_i hN
        clear hN
        conv => whnf
        split
        rotate_left
        · rename_i h
          exact Bool.noConfusion ((q5).symm.trans h)
        rename_i hN
        clear hN
        conv => whnf
        repeat first
          | (refine DRAW.seek ?_; repeat (first | refine TRYD.take ?_ | refine TRYD.next ?_); conv => whnf)
          | (refine HOLD.mk (by first | exact trivial | exact ⟨⟨rfl, rfl⟩, trivial⟩ | exact ⟨⟨rfl, rfl⟩, ⟨rfl, rfl⟩, trivial⟩) ?_; (conv => whnf))
          | (refine CALL0.by (ih2 ..) rfl ?_; conv => whnf)
          | (refine CALLQ.mk _ _ _ (leL_refl _) (ih2 ..) rfl ?_; conv => whnf)
        exact ⟨by rw [← ew]; rfl, rfl⟩
      | false =>
        refine mk h_nacelleref01_Number rfl rfl ?_
        conv => whnf
        split
        rotate_left
        · rename_i h
          exact Bool.noConfusion ((q1).symm.trans h)
        rename_i hN
        clear hN
        conv => whnf
        split
        rotate_left
        · rename_i h
          exact Bool.noConfusion ((qi).symm.trans h)
        rename_i hN
        clear hN
        conv => whnf
        split
        rotate_left
        · rename_i h
          exact Bool.noConfusion ((q3).symm.trans h)
        rename_i hN
        clear hN
        conv => whnf
        split
        rotate_left
        · rename_i h
          exact Bool.noConfusion ((q4).symm.trans h)
        rename_i hN
        clear hN
        conv => whnf
        split
        rotate_left
        · rename_i h
          exact Bool.noConfusion ((q5).symm.trans h)
        rename_i hN
        clear hN
        conv => whnf
        repeat first
          | (refine DRAW.seek ?_; repeat (first | refine TRYD.take ?_ | refine TRYD.next ?_); conv => whnf)
          | (refine HOLD.mk (by first | exact trivial | exact ⟨⟨rfl, rfl⟩, trivial⟩ | exact ⟨⟨rfl, rfl⟩, ⟨rfl, rfl⟩, trivial⟩) ?_; (conv => whnf))
          | (refine CALL0.by (ih2 ..) rfl ?_; conv => whnf)
          | (refine CALLQ.mk _ _ _ (leL_refl _) (ih2 ..) rfl ?_; conv => whnf)
        exact ⟨by rw [← ew]; rfl, rfl⟩
def SplI (c : UInt8) (l : List UInt8) (P : List (List UInt8)) (i f k : Nat) : Prop := (f ≤ i ∧ i ≤ l.length ∧ P.drop k = splitL c (l.drop f) ∧ ∀ j, f ≤ j → j < i → l[j]? ≠ some c) ∨ (i = l.length + 1 ∧ k = P.length)
theorem extract_mid (l : List UInt8) (a b : Nat) : (bytesS l).extract a b = bytesS ((l.drop a).take (b - a)) := by
  rw [Go.Lib.extract_eq]
theorem spl_end {c : UInt8} {l : List UInt8} {P : List (List UInt8)} {f k : Nat} (h : SplI c l P l.length f k) : f ≤ l.length ∧ P.getD k [] = (l.drop f).take (l.length - f) ∧ SplI c l P (l.length + 1) (l.length + 1) (k + 1) ∧ k < P.length := by
  rcases h with ⟨h1, h2, h3, h4⟩ | ⟨h1, _⟩
  rotate_left
  · omega
  have hn : c ∉ l.drop f := fun hm => by
    obtain ⟨j, hj⟩ := List.mem_iff_getElem?.1 hm
    rw [List.getElem?_drop] at hj
    have := (List.getElem?_eq_some_iff.1 hj).1
    exact h4 (f + j) (by omega) (by omega) hj
  rw [splitL_none hn] at h3
  obtain ⟨e1, e2, e3⟩ := drop_last h3
  refine ⟨h1, ?_, .inr ⟨rfl, by omega⟩, by omega⟩
  rw [e3, List.take_of_length_le (by rw [List.length_drop]; omega)]
theorem spl_hit {c : UInt8} {l : List UInt8} {P : List (List UInt8)} {i f k : Nat} (h : SplI c l P i f k) (hi : l[i]? = some c) : f ≤ i ∧ P.getD k [] = (l.drop f).take (i - f) ∧ SplI c l P (i + 1) (i + 1) (k + 1) ∧ k < P.length := by
  have hlt := (List.getElem?_eq_some_iff.1 hi).1
  rcases h with ⟨h1, h2, h3, h4⟩ | ⟨h1, _⟩
  rotate_left
  · omega
  have hs := splitL_hit (l := l.drop f) (i := i - f) (c := c) (by rw [List.getElem?_drop, show f + (i - f) = i by omega]; exact hi) (fun j hj hh => by
    rw [List.getElem?_drop] at hh
    exact h4 (f + j) (by omega) (by omega) hh)
  rw [List.drop_drop, show f + (i - f + 1) = i + 1 by omega] at hs
  rw [hs] at h3
  have hk : P[k]? = some ((l.drop f).take (i - f)) := by
    have : (P.drop k)[0]? = some ((l.drop f).take (i - f)) := by rw [h3]; rfl
    simpa using this
  have hd : P.drop (k + 1) = splitL c (l.drop (i + 1)) := by
    rw [← List.drop_drop, h3]; rfl
  refine ⟨h1, by rw [List.getD_eq_getElem?_getD, hk]; rfl, .inl ⟨Nat.le_refl _, hlt, hd, fun j h5 h6 => by omega⟩, (List.getElem?_eq_some_iff.1 hk).1⟩
theorem spl_miss {c : UInt8} {l : List UInt8} {P : List (List UInt8)} {i f k : Nat} (h : SplI c l P i f k) (hlt : i < l.length) (hi : l[i]? ≠ some c) : SplI c l P (i + 1) f k := by
  rcases h with ⟨h1, h2, h3, h4⟩ | ⟨h1, _⟩
  · refine .inl ⟨by omega, hlt, h3, fun j h5 h6 => ?_⟩
    rcases Nat.lt_or_ge j i with h7 | h7
    · exact h4 j h5 h7
    · rw [show j = i by omega]; exact hi
  · omega
set_option maxHeartbeats 8000000 in
theorem c_rSplit (up : List Ces) (l : List UInt8) (c : UInt8) (hl : l.length ≤ 1000000000) :
    Cs gl n_nacelleref01_Split up [.str (bytesS l), .int .u8 (c.toNat : Nat)] (.lst (some 31) 1 (splitL c l).length fun i => [.str (bytesS ((splitL c l).getD i []))]) up := by
  have hPl : (splitL c l).length ≤ l.length + 1 := by rw [splitL_len]; have := List.count_le_length (a := c) (l := l); omega
  obtain ⟨P, hP⟩ : ∃ P, P = splitL c l := ⟨_, rfl⟩
  rw [← hP] at hPl ⊢
  have hI0 : SplI c l P 0 0 0 := .inl ⟨Nat.le_refl _, Nat.zero_le _, by rw [hP]; rfl, fun j h1 h2 => by omega⟩
  obtain ⟨s, hs⟩ : ∃ s, s = bytesS l := ⟨_, rfl⟩
  have hsz : s.size = l.length := by rw [hs]; exact bytesS_size l
  have hdat : s.data.toList = l := by rw [hs, bytesS_data]
  have hex : ∀ (a b : Nat), s.extract ((a : Nat) : Int).toNat ((b : Nat) : Int).toNat = bytesS ((l.drop a).take (b - a)) := fun a b => by rw [Int.toNat_natCast, Int.toNat_natCast, hs, extract_mid]
  rw [← hs]
  let F : Nat → List IV := fun i => [.str (bytesS (P.getD i []))]
  refine mk h_nacelleref01_Split rfl rfl ?_
  conv => whnf
  refine .mk (α := {x : Nat × Nat × Nat // x.1 ≤ l.length + 1 ∧ SplI c l P x.1 x.2.1 x.2.2}) (fun x => ⟨[(7, .int .i64 x.1.1), (6, .int .i64 x.1.2.1), (5, .lst (some 31) 1 x.1.2.2 F), (1, .int .u8 (c.toNat : Nat)), (0, .str s)], [], up⟩) (fun x => l.length + 1 - x.1.1) ⟨(0, 0, 0), Nat.zero_le _, hI0⟩ ⟨?_, trivial, rfl, rfl⟩ ?_
  · exact ⟨leV_refl _, leV_refl _, rfl, leV_refl _, leV_refl _, trivial⟩
  rintro ⟨⟨i, f, k⟩, hi, hI⟩
  have hi : i ≤ l.length + 1 := hi
  have hI : SplI c l P i f k := hI
  have hiw : w64 ((i : Int) + 1) = ((i + 1 : Nat) : Int) := by rw [w64, wrap_in] <;> omega
  have q3 : decide ((i : Int) ≤ s.size) = true ∨ i = l.length + 1 := by
    by_cases h : i ≤ l.length
    · exact .inl (decide_eq_true (by omega))
    · exact .inr (by omega)
  rcases q3 with q | he
  rotate_left
  · have hk : k = P.length := by
      rcases hI with ⟨h1, h2, _⟩ | ⟨_, h⟩
      · omega
      · exact h
    have q : decide ((i : Int) ≤ s.size) = false := decide_eq_false (by omega)
    subst hk
    conv => whnf
    split
    · rename_i h
      exact Bool.noConfusion ((q).symm.trans h)
    rename_i hN
    clear hN
    conv => whnf
    exact ⟨rfl, rfl⟩
  have hil := of_decide_eq_true q
  have app : ∀ (piece : ByteArray), piece = bytesS (P.getD k []) → ∀ j, j < k + 1 → appF k F (litF 1 [.str piece]) j = F j := fun piece hp j hj => by
    show (if j < k then F j else litF 1 [.str piece] (j - k)) = F j
    split
    · rfl
    · have : j = k := by omega
      subst this
      rw [Nat.sub_self, hp]; rfl
  by_cases he : i = l.length
  · subst he
    obtain ⟨h1, h2, h3, h4⟩ := spl_end hI
    have q1 : (((l.length : Nat) : Int) == s.size) = true := by rw [beq_iff_eq]; omega
    have qa : decide (0 ≤ ((f : Nat) : Int)) = true := decide_eq_true (by omega)
    have qb : decide (((f : Nat) : Int) ≤ ((l.length : Nat) : Int)) = true := decide_eq_true (by omega)
    conv => whnf
    split
    rotate_left
    · rename_i h
      exact Bool.noConfusion ((q).symm.trans h)
    rename_i hN
    clear hN
    conv => whnf
    split
    rotate_left
    · rename_i h
      exact Bool.noConfusion ((q1).symm.trans h)
    rename_i hN
    clear hN
    conv => whnf
    split
    rotate_left
    · rename_i h
      exact Bool.noConfusion ((qb).symm.trans h)
    rename_i hN
    clear hN
    conv => whnf
    split
    rotate_left
    · rename_i h
      exact Bool.noConfusion ((q).symm.trans h)
    rename_i hN
    clear hN
    conv => whnf
    split
    rotate_left
    · rename_i h
      have h' : decide (k + 1 ≤ 1073741824) = false := h
      simp at h' <;> omega
    conv => whnf
    refine ⟨⟨(l.length + 1, l.length + 1, k + 1), Nat.le_refl _, h3⟩, ⟨⟨leV_int hiw, leV_int hiw, ⟨.inr rfl, rfl, rfl, app _ (by rw [h2]; exact hex f l.length)⟩, leV_refl _, leV_refl _, trivial⟩, trivial, rfl, rfl⟩, (by show l.length + 1 - (l.length + 1) < l.length + 1 - l.length; omega)⟩
  · have hlt : i < l.length := by omega
    have q1 : ((i : Int) == s.size) = false := by rw [beq_eq_false_iff_ne]; omega
    have q2 : decide ((i : Int) < s.size) = true := decide_eq_true (by omega)
    have hgi : s.data.toList.getD ((i : Nat) : Int).toNat 0 = l[i] := by
      rw [Int.toNat_natCast, hdat, List.getD_eq_getElem?_getD, List.getElem?_eq_getElem hlt]; rfl
    by_cases hc : l[i] = c
    · obtain ⟨h1, h2, h3, h4⟩ := spl_hit hI (by rw [List.getElem?_eq_getElem hlt, hc])
      have q4 : ((((s.data.toList.getD ((i : Nat) : Int).toNat 0).toNat : Nat) : Int) == (c.toNat : Nat)) = true := by rw [hgi, hc]; exact beq_self_eq_true _
      have qa : decide (0 ≤ ((f : Nat) : Int)) = true := decide_eq_true (by omega)
      have qb : decide (((f : Nat) : Int) ≤ ((i : Nat) : Int)) = true := decide_eq_true (by omega)
      conv => whnf
      split
      rotate_left
      · rename_i h
        exact Bool.noConfusion ((q).symm.trans h)
      rename_i hN
      clear hN
      conv => whnf
      split
      · rename_i h
        exact Bool.noConfusion ((q1).symm.trans h)
      rename_i hN
      clear hN
      conv => whnf
      split
      rotate_left
      · rename_i h
        exact Bool.noConfusion ((q2).symm.trans h)
      rename_i hN
      clear hN
      conv => whnf
      split
      rotate_left
      · rename_i h
        exact Bool.noConfusion ((q4).symm.trans h)
      rename_i hN
      clear hN
      conv => whnf
      split
      rotate_left
      · rename_i h
        exact Bool.noConfusion ((qb).symm.trans h)
      rename_i hN
      clear hN
      conv => whnf
      split
      rotate_left
      · rename_i h
        exact Bool.noConfusion ((q).symm.trans h)
      rename_i hN
      clear hN
      conv => whnf
      split
      rotate_left
      · rename_i h
        have h' : decide (k + 1 ≤ 1073741824) = false := h
        simp at h' <;> omega
      conv => whnf
      refine ⟨⟨(i + 1, i + 1, k + 1), (by show i + 1 ≤ l.length + 1; omega), h3⟩, ⟨⟨leV_int hiw, leV_int hiw, ⟨.inr rfl, rfl, rfl, app _ (by rw [h2]; exact hex f i)⟩, leV_refl _, leV_refl _, trivial⟩, trivial, rfl, rfl⟩, (by show l.length + 1 - (i + 1) < l.length + 1 - i; omega)⟩
    · have h3 := spl_miss hI hlt (by rw [List.getElem?_eq_getElem hlt]; exact fun e => hc (Option.some.inj e))
      have q4 : ((((s.data.toList.getD ((i : Nat) : Int).toNat 0).toNat : Nat) : Int) == (c.toNat : Nat)) = false := by
        rw [hgi, beq_eq_false_iff_ne]
        exact fun e => hc (UInt8.toNat_inj.1 (by omega))
      conv => whnf
      split
      rotate_left
      · rename_i h
        exact Bool.noConfusion ((q).symm.trans h)
      rename_i hN
      clear hN
      conv => whnf
      split
      · rename_i h
        exact Bool.noConfusion ((q1).symm.trans h)
      rename_i hN
      clear hN
      conv => whnf
      split
      rotate_left
      · rename_i h
        exact Bool.noConfusion ((q2).symm.trans h)
      rename_i hN
      clear hN
      conv => whnf
      split
      · rename_i h
        exact Bool.noConfusion ((q4).symm.trans h)
      rename_i hN
      clear hN
      conv => whnf
      exact ⟨⟨(i + 1, f, k), (by show i + 1 ≤ l.length + 1; omega), h3⟩, ⟨⟨leV_int hiw, leV_refl _, leV_refl _, leV_refl _, leV_refl _, trivial⟩, trivial, rfl, rfl⟩, (by show l.length + 1 - (i + 1) < l.length + 1 - i; omega)⟩
end Go.Proofs.YtfoenhiohhmnlaaGreatDoor.Ix

namespace Go.Proofs.YtfoenhiohhmnlaaGreatDoor.Ix
open Go.Proofs
set_option maxRecDepth 100000
set_option linter.unusedVariables false
set_option linter.unusedSimpArgs false
variable {gl : Nat → IV}
def goodN (w : Nat → List UInt8) : Nat → Bool
  | 0 => true
  | k + 1 => goodN w k && (numR (w k)).2
theorem goodN_iff {w : Nat → List UInt8} : ∀ {n : Nat}, goodN w n = true ↔ ∀ i, i < n → (numR (w i)).2 = true
  | 0 => ⟨fun _ i h => absurd h (Nat.not_lt_zero _), fun _ => rfl⟩
  | n + 1 => by
    rw [goodN, Bool.and_eq_true, goodN_iff]
    constructor
    · rintro ⟨h1, h2⟩ i hi
      rcases Nat.lt_or_ge i n with h | h
      · exact h1 i h
      · rw [show i = n by omega]; exact h2
    · exact fun h => ⟨fun i hi => h i (by omega), h n (by omega)⟩
theorem goodN_bad {w : Nat → List UInt8} {n i : Nat} (hi : i < n) (h : (numR (w i)).2 = false) : goodN w n = false := by
  cases q : goodN w n with
  | false => rfl
  | true => rw [goodN_iff.1 q i hi] at h; cases h
def wrdN (W : List (List UInt8)) (i : Nat) : List UInt8 := W.getD (1 + i) []
def numsN (W : List (List UInt8)) (h : ByteArray) : IV :=
  bif goodN (wrdN W) (W.length - 1) then .tup [.lst (some 32) 1 (W.length - 1) fun i => [.int .i64 (numR (wrdN W i)).1], .bool ((bytesS (W.getD 0 [])).toList == h.toList)] else .tup [.nilS, .bool false]
set_option maxHeartbeats 4000000 in
theorem c_rNumbers (up : List Ces) (l : List UInt8) (hl : l.length ≤ 1000000) (h : ByteArray) :
    Cs gl n_nacelleref03_numbers up [.str (bytesS l), .str h] (numsN (splitL 32 l) h) up := by
  have hS : ∀ up, Cs gl n_nacelleref01_Split up [.str (bytesS l), .int .u8 32] _ up := fun up => c_rSplit (gl := gl) up l 32 (by omega)
  obtain ⟨W, hW⟩ : ∃ W, W = splitL 32 l := ⟨_, rfl⟩
  have hWl : ∀ i, (W.getD i []).length ≤ 1000000000 := fun i => Nat.le_trans (by rw [hW]; exact splitL_le 32 l i) (by omega)
  obtain ⟨n, hn⟩ : ∃ n, W.length = n + 1 := ⟨W.length - 1, by have := List.length_pos_iff.2 (splitL_ne 32 l); rw [← hW] at this; omega⟩
  have hnle : n ≤ 1000000 := by
    have h1 : W.length ≤ l.length + 1 := by rw [hW, splitL_len]; have := List.count_le_length (a := (32 : UInt8)) (l := l); omega
    omega
  rw [← hW, hn] at hS
  rw [← hW]
  unfold numsN
  rw [show W.length - 1 = n by omega]
  obtain ⟨s, hs⟩ : ∃ s, s = bytesS l := ⟨_, rfl⟩
  rw [← hs] at hS ⊢
  obtain ⟨x, hx⟩ : ∃ x : Nat → ByteArray, x = fun i => bytesS (W.getD i []) := ⟨_, rfl⟩
  have hS : ∀ up, Cs gl n_nacelleref01_Split up [.str s, .int .u8 32] (.lst (some 31) 1 (n + 1) fun i => [.str (x i)]) up := by rw [hx]; exact hS
  have e0 : bytesS (W.getD 0 []) = x 0 := by rw [hx]
  rw [e0]
  obtain ⟨R, hR⟩ : ∃ R, R = (bif goodN (wrdN W) n then IV.tup [.lst (some 32) 1 n fun i => [.int .i64 (numR (wrdN W i)).1], .bool ((x 0).toList == h.toList)] else .tup [.nilS, .bool false]) := ⟨_, rfl⟩
  rw [← hR]
  let F : Nat → List IV := fun i => [.int .i64 (numR (wrdN W i)).1]
  refine mk h_nacelleref03_numbers rfl rfl ?_
  conv => whnf
  repeat first
    | (refine DRAW.seek ?_; repeat (first | refine TRYD.take ?_ | refine TRYD.next ?_); conv => whnf)
    | (refine HOLD.mk (by first | exact trivial | exact ⟨⟨rfl, rfl⟩, trivial⟩ | exact ⟨⟨rfl, rfl⟩, ⟨rfl, rfl⟩, trivial⟩) ?_; (conv => whnf))
    | (refine CALL0.by (hS ..) rfl ?_; conv => whnf)
    | (refine CALLQ.mk _ _ _ (leL_refl _) (hS ..) rfl ?_; conv => whnf)
  refine .mk (α := {i : Nat // i ≤ n ∧ goodN (wrdN W) i = true}) (fun i => ⟨[(8, .int .i64 (i.1 + 1 : Nat)), (7, .lst (some 32) 1 i.1 F), (6, .lst none 1 (n + 1) fun i => [.str (x i)]), (1, .str h)], [], up⟩) (fun i => n - i.1) ⟨0, Nat.zero_le _, rfl⟩ ⟨?_, trivial, rfl, rfl⟩ ?_
  · exact ⟨leV_refl _, rfl, ⟨.inl rfl, rfl, rfl, fun _ _ => rfl⟩, leV_refl _, trivial⟩
  rintro ⟨i, hi, hg⟩
  have hiw : w64 (((i + 1 : Nat) : Int) + 1) = ((i + 1 + 1 : Nat) : Int) := by rw [w64, wrap_in] <;> omega
  by_cases hlt : i < n
  rotate_left
  · have e : i = n := by omega
    subst e
    have q : decide (((i + 1 : Nat) : Int) < ((i + 1 : Nat) : Int)) = false := decide_eq_false (by omega)
    have q1 : decide ((0 : Int) < ((i + 1 : Nat) : Int)) = true := decide_eq_true (by omega)
    rw [hg, cond_true] at hR
    conv => whnf
    split
    · rename_i h
      exact Bool.noConfusion ((q).symm.trans h)
    rename_i hN
    clear hN
    conv => whnf
    refine DRAW.seek ?_
    repeat (first | refine TRYD.take ?_ | refine TRYD.next ?_)
    conv => whnf
    split
    rotate_left
    · rename_i h
      exact Bool.noConfusion ((q1).symm.trans h)
    rename_i hN
    clear hN
    conv => whnf
    exact ⟨hR.symm, rfl⟩
  have q : decide (((i + 1 : Nat) : Int) < ((n + 1 : Nat) : Int)) = true := decide_eq_true (by omega)
  have hN : ∀ up, Cs gl n_nacelleref01_Number up [.str (x (i + 1))] (.tup [.int .i64 (numR (wrdN W i)).1, .bool (numR (wrdN W i)).2]) up := fun up => by
    have := c_rNumber (gl := gl) (wrdN W i) (hWl _) up
    rw [hx]
    show Cs gl n_nacelleref01_Number up [.str (bytesS (W.getD (i + 1) []))] _ up
    rw [show i + 1 = 1 + i by omega]; exact this
  cases hb : (numR (wrdN W i)).2 with
  | false =>
    rw [hb] at hN
    rw [goodN_bad hlt hb, cond_false] at hR
    conv => whnf
    split
    rotate_left
    · rename_i h
      exact Bool.noConfusion ((q).symm.trans h)
    rename_i hN
    clear hN
    conv => whnf
    split
    rotate_left
    · rename_i h
      exact Bool.noConfusion ((q).symm.trans h)
    rename_i hN
    clear hN
    conv => whnf
    repeat first
      | (refine DRAW.seek ?_; repeat (first | refine TRYD.take ?_ | refine TRYD.next ?_); conv => whnf)
      | (refine HOLD.mk (by first | exact trivial | exact ⟨⟨rfl, rfl⟩, trivial⟩ | exact ⟨⟨rfl, rfl⟩, ⟨rfl, rfl⟩, trivial⟩) ?_; (conv => whnf))
      | (refine CALL0.by (hN ..) rfl ?_; conv => whnf)
      | (refine CALLQ.mk _ _ _ (leL_refl _) (hN ..) rfl ?_; conv => whnf)
    exact ⟨hR.symm, rfl⟩
  | true =>
    rw [hb] at hN
    have hg2 : goodN (wrdN W) (i + 1) = true := by rw [goodN, hg, hb]; rfl
    conv => whnf
    split
    rotate_left
    · rename_i h
      exact Bool.noConfusion ((q).symm.trans h)
    rename_i hN
    clear hN
    conv => whnf
    split
    rotate_left
    · rename_i h
      exact Bool.noConfusion ((q).symm.trans h)
    rename_i hN
    clear hN
    conv => whnf
    repeat first
      | (refine DRAW.seek ?_; repeat (first | refine TRYD.take ?_ | refine TRYD.next ?_); conv => whnf)
      | (refine HOLD.mk (by first | exact trivial | exact ⟨⟨rfl, rfl⟩, trivial⟩ | exact ⟨⟨rfl, rfl⟩, ⟨rfl, rfl⟩, trivial⟩) ?_; (conv => whnf))
      | (refine CALL0.by (hN ..) rfl ?_; conv => whnf)
      | (refine CALLQ.mk _ _ _ (leL_refl _) (hN ..) rfl ?_; conv => whnf)
    split
    rotate_left
    · rename_i h
      have h' : decide (i + 1 ≤ 1073741824) = false := h
      simp at h' <;> omega
    conv => whnf
    refine ⟨⟨i + 1, hlt, hg2⟩, ⟨⟨leV_int hiw, ⟨.inr rfl, rfl, rfl, fun j hj => ?_⟩, leV_refl _, leV_refl _, trivial⟩, trivial, rfl, rfl⟩, (by show n - (i + 1) < n - i; omega)⟩
    show (if j < i then F j else litF 1 [.int .i64 (numR (wrdN W i)).1] (j - i)) = F j
    split
    · rfl
    · have : j = i := by have : j < i + 1 := hj; omega
      subst this
      rw [Nat.sub_self]; rfl
end Go.Proofs.YtfoenhiohhmnlaaGreatDoor.Ix

namespace Go.Proofs.YtfoenhiohhmnlaaGreatDoor.Ix
open Go.Proofs
set_option maxRecDepth 100000
set_option linter.unusedVariables false
set_option linter.unusedSimpArgs false
variable {gl : Nat → IV}
theorem c_CheckRange (up : List Ces) (n lo hi : Int) : Cs gl n_nacelleref01_CheckRange up [.int .i64 n, .int .i64 lo, .int .i64 hi] (.int .i64 (withinS n lo hi)) up := by
  refine mk h_nacelleref01_CheckRange rfl rfl ?_
  conv => whnf
  split
  · rename_i h
    have h : decide (n < lo) = true := h
    conv => whnf
    simp [withinS, h]
  · rename_i h
    have h : decide (n < lo) = false := h
    conv => whnf
    split
    · rename_i h2
      have h2 : decide (n > hi) = true := h2
      conv => whnf
      simp [withinS, h, h2]
    · rename_i h2
      have h2 : decide (n > hi) = false := h2
      conv => whnf
      simp [withinS, h, h2]
theorem c_rFirst (up : List Ces) (n : Nat) (hn : n ≤ 4611686018427387904) (f : Nat → Int) : Cs gl n_nacelleref01_First up [.lst none 1 n fun i => [.int .i64 (f i)]] (.int .i64 (firstS f n 0)) up := by
  refine mk h_nacelleref01_First rfl rfl ?_
  conv => whnf
  refine .mk (α := {i : Nat // i ≤ n ∧ firstS f n 0 = firstS f (n - i) i}) (fun i => ⟨[(3, .int .i64 i.1), (0, .lst none 1 n fun i => [.int .i64 (f i)])], [], up⟩) (fun i => n - i.1) ⟨0, Nat.zero_le _, rfl⟩ ⟨⟨leV_refl _, leV_refl _, trivial⟩, trivial, rfl, rfl⟩ ?_
  rintro ⟨i, hi, hf⟩
  conv => whnf
  split
  · rename_i hb
    have hlt : i < n := by
      have hb' : decide ((i : Int) < n) = true := hb
      simpa using hb'
    have hstep : firstS f (n - i) i = orE (f i) (firstS f (n - (i + 1)) (i + 1)) := by
      rw [show n - i = (n - (i + 1)) + 1 by omega]; rfl
    conv => whnf
    split
    rotate_left
    · rename_i h
      have h' : decide ((i : Int) < n) = false := h
      simp at h' <;> omega
    conv => whnf
    split
    · rename_i h2
      have h2 : (f i != 0) = true := h2
      conv => whnf
      split
      · conv => whnf
        refine ⟨?_, rfl⟩
        show IV.int .i64 (f i) = _
        rw [hf, hstep, orE_pos h2]
      · rename_i h3
        have h3 : decide ((i : Int) < n) = false := h3
        simp at h3; omega
    · rename_i h2
      have h2 : (f i != 0) = false := h2
      conv => whnf
      refine ⟨⟨i + 1, hlt, by rw [hf, hstep, orE_neg h2]⟩, ⟨⟨leV_int ?_, leV_refl _, trivial⟩, trivial, rfl, rfl⟩, ?_⟩
      · show w64 ((i : Int) + 1) = ((i + 1 : Nat) : Int)
        rw [w64, wrap_in] <;> omega
      · show n - (i + 1) < n - i
        omega
  · rename_i hb
    have : i = n := by
      have hb' : decide ((i : Int) < n) = false := hb
      simp at hb'; omega
    conv => whnf
    refine ⟨?_, rfl⟩
    rw [hf, this, Nat.sub_self]; rfl
theorem c_rf4 (up : List Ces) (f : Nat → List IV) (a b c d : Int) (h0 : f 0 = [.int .i64 a]) (h1 : f 1 = [.int .i64 b]) (h2 : f 2 = [.int .i64 c]) (h3 : f 3 = [.int .i64 d]) : Cs gl n_nacelleref01_First up [.lst none 1 4 f] (.int .i64 (orE a (orE b (orE c d)))) up := by
  have := c_rFirst (gl := gl) up 4 (by decide) fun i => [a, b, c, d].getD i 0
  have e : firstS (fun i => [a, b, c, d].getD i 0) 4 0 = orE a (orE b (orE c d)) := by rw [← orE_right (orE a (orE b (orE c d))), orE_assoc, orE_assoc, orE_assoc]; rfl
  rw [← e]
  refine Comp.le ?_ this
  refine ⟨⟨.inl rfl, rfl, rfl, fun i hi => ?_⟩, trivial⟩
  match i, hi with
  | 0, _ => exact h0
  | 1, _ => exact h1
  | 2, _ => exact h2
  | 3, _ => exact h3
theorem c_rCheckPolar (up : List Ces) (nl nd : Nat) (lf df : Nat → Int) : Cs gl n_nacelleref03_CheckPolar up [.agg [.lst none 1 nl fun i => [.int .i64 (lf i)], .lst none 1 nd fun i => [.int .i64 (df i)]]] (.int .i64 (polarS nl lf nd df)) up := by
  refine mk h_nacelleref03_CheckPolar rfl rfl ?_
  rw [polarS_eq]
  conv => whnf
  split
  · rename_i h
    have h : ((nl : Int) == 0) = true := h
    conv => whnf
    refine ⟨?_, rfl⟩
    rw [h]; rfl
  · rename_i h1
    have h1 : ((nl : Int) == 0) = false := h1
    rw [h1]
    conv => whnf
    split
    · rename_i h
      have h : decide ((nl : Int) > 32) = true := h
      conv => whnf
      refine ⟨?_, rfl⟩
      rw [h]; rfl
    · rename_i h2
      have h2 : decide ((nl : Int) > 32) = false := h2
      rw [h2]
      conv => whnf
      split
      · rename_i h
        have h : ((nd : Int) != nl) = true := h
        conv => whnf
        refine ⟨?_, rfl⟩
        rw [h]; rfl
      · rename_i h3
        have h3 : ((nd : Int) != nl) = false := h3
        rw [h3]
        have hk : orE (orE (bif false then 12 else 0) (orE (bif false then 5 else 0) (bif false then 2 else 0))) (orE (firstS (liftS lf) nl 0) (firstS (fun i => withinS (df i) 0 1000) nd 0)) = orE (firstS (liftS lf) nl 0) (firstS (fun i => withinS (df i) 0 1000) nd 0) := rfl
        rw [hk]
        clear hk
        have h3' : nd = nl := by simp at h3; omega
        subst h3'
        have h2' : nd ≤ 32 := by simp at h2; omega
        obtain ⟨R, hR⟩ : ∃ R, R = orE (firstS (liftS lf) nd 0) (firstS (fun i => withinS (df i) 0 1000) nd 0) := ⟨_, rfl⟩
        rw [← hR]
        conv => whnf
        refine .mk (α := {i : Nat // i ≤ nd ∧ R = orE (firstS (liftS lf) (nd - i) i) (firstS (fun i => withinS (df i) 0 1000) nd 0)}) (fun i => ⟨[(3, .int .i64 i.1), (1, .ptr 0 1 0)], [(1, [.lst none 1 nd fun i => [.int .i64 (lf i)], .lst none 1 nd fun i => [.int .i64 (df i)]])], up⟩) (fun i => nd - i.1) ⟨0, Nat.zero_le _, hR⟩ ⟨⟨leV_refl _, leV_refl _, trivial⟩, ⟨leL_refl _, trivial⟩, rfl, rfl⟩ ?_
        rintro ⟨i, hi, hf⟩
        conv => whnf
        split
        · rename_i hb
          have hlt : i < nd := by
            have hb' : decide ((i : Int) < nd) = true := hb
            simpa using hb'
          have hstep : firstS (liftS lf) (nd - i) i = orE (liftS lf i) (firstS (liftS lf) (nd - (i + 1)) (i + 1)) := by
            rw [show nd - i = (nd - (i + 1)) + 1 by omega]; rfl
          have hm : w64 ((i : Int) - 1) = (i : Int) - 1 := by rw [w64, wrap_in] <;> omega
          have hw : w64 ((i : Int) + 1) = ((i + 1 : Nat) : Int) := by rw [w64, wrap_in] <;> omega
          conv => whnf
          split
          rotate_left
          · rename_i h
            have h' : decide ((i : Int) < nd) = false := h
            simp at h' <;> omega
          conv => whnf
          refine .mk _ _ _ _ _ (leL_refl _) (c_CheckRange _ _ _ _) rfl ?_
          conv => whnf
          split
          · rename_i h
            have h : (withinS (lf i) 0 1000 != 0) = true := h
            have hl : liftS lf i = withinS (lf i) 0 1000 := orE_pos h
            conv => whnf
            refine ⟨?_, rfl⟩
            show IV.int .i64 (withinS (lf i) 0 1000) = _
            rw [hf, hstep, hl, orE_pos h, orE_pos h]
          · rename_i h
            have h : (withinS (lf i) 0 1000 != 0) = false := h
            have hl : liftS lf i = bif decide (lf i < lf (i - 1)) then 11 else 0 := orE_neg h
            conv => whnf
            refine .mk 16 (by kernel_rfl) ?_
            conv => whnf
            split
            · rename_i h0
              have h0 : decide ((i : Int) > 0) = true := h0
              have h0' : 0 < i := by simpa using h0
              conv => whnf
              split
              rotate_left
              · rename_i h
                have h' : decide ((i : Int) < nd) = false := h
                simp at h' <;> omega
              conv => whnf
              rw [show IntKind.i64.wrap ((i : Int) - 1) = ((i - 1 : Nat) : Int) by show w64 _ = _; rw [hm]; omega]
              split
              rotate_left
              · rename_i h
                have h' : decide (0 ≤ ((i - 1 : Nat) : Int)) = false := h
                simp at h' <;> omega
              conv => whnf
              split
              rotate_left
              · rename_i h
                have h' : decide (((i - 1 : Nat) : Int) < nd) = false := h
                simp at h' <;> omega
              conv => whnf
              split
              · rename_i g
                have g : decide (lf i < lf (i - 1)) = true := g
                rw [g] at hl
                conv => whnf
                refine ⟨?_, rfl⟩
                rw [hf, hstep, hl]; rfl
              · rename_i g
                have g : decide (lf i < lf (i - 1)) = false := g
                rw [g] at hl
                conv => whnf
                exact ⟨⟨i + 1, hlt, by rw [hf, hstep, hl]; rfl⟩, ⟨⟨leV_int hw, leV_refl _, trivial⟩, ⟨leL_refl _, trivial⟩, rfl, rfl⟩, (by show nd - (i + 1) < nd - i; omega)⟩
            · rename_i h0
              have h0 : decide ((i : Int) > 0) = false := h0
              have h0' : i = 0 := by simpa using h0
              have g : decide (lf i < lf (i - 1)) = false := by subst h0'; simp
              rw [g] at hl
              conv => whnf
              exact ⟨⟨i + 1, hlt, by rw [hf, hstep, hl]; rfl⟩, ⟨⟨leV_int hw, leV_refl _, trivial⟩, ⟨leL_refl _, trivial⟩, rfl, rfl⟩, (by show nd - (i + 1) < nd - i; omega)⟩
        · rename_i hb
          have : i = nd := by
            have hb' : decide ((i : Int) < nd) = false := hb
            simp at hb'; omega
          have hz : R = firstS (fun i => withinS (df i) 0 1000) nd 0 := by rw [hf, this, Nat.sub_self]; rfl
          conv => whnf
          refine .mk (α := {i : Nat // i ≤ nd ∧ R = firstS (fun i => withinS (df i) 0 1000) (nd - i) i}) (fun i => ⟨[(5, .int .i64 i.1), (1, .ptr 0 1 0)], [(1, [.lst none 1 nd fun i => [.int .i64 (lf i)], .lst none 1 nd fun i => [.int .i64 (df i)]])], up⟩) (fun i => nd - i.1) ⟨0, Nat.zero_le _, hz⟩ ⟨⟨leV_refl _, leV_refl _, trivial⟩, ⟨leL_refl _, trivial⟩, rfl, rfl⟩ ?_
          rintro ⟨j, hj, hg⟩
          conv => whnf
          split
          · rename_i hb
            have hlt : j < nd := by
              have hb' : decide ((j : Int) < nd) = true := hb
              simpa using hb'
            have hstep : firstS (fun i => withinS (df i) 0 1000) (nd - j) j = orE (withinS (df j) 0 1000) (firstS (fun i => withinS (df i) 0 1000) (nd - (j + 1)) (j + 1)) := by
              rw [show nd - j = (nd - (j + 1)) + 1 by omega]; rfl
            have hw : w64 ((j : Int) + 1) = ((j + 1 : Nat) : Int) := by rw [w64, wrap_in] <;> omega
            conv => whnf
            split
            rotate_left
            · rename_i h
              have h' : decide ((j : Int) < nd) = false := h
              simp at h' <;> omega
            conv => whnf
            refine .mk _ _ _ _ _ (leL_refl _) (c_CheckRange _ _ _ _) rfl ?_
            conv => whnf
            split
            · rename_i h
              have h : (withinS (df j) 0 1000 != 0) = true := h
              conv => whnf
              refine ⟨?_, rfl⟩
              show IV.int .i64 (withinS (df j) 0 1000) = _
              rw [hg, hstep, orE_pos h]
            · rename_i h
              have h : (withinS (df j) 0 1000 != 0) = false := h
              conv => whnf
              exact ⟨⟨j + 1, hlt, by rw [hg, hstep, orE_neg h]⟩, ⟨⟨leV_int hw, leV_refl _, trivial⟩, ⟨leL_refl _, trivial⟩, rfl, rfl⟩, (by show nd - (j + 1) < nd - j; omega)⟩
          · rename_i hb
            have : j = nd := by
              have hb' : decide ((j : Int) < nd) = false := hb
              simp at hb'; omega
            conv => whnf
            refine ⟨?_, rfl⟩
            rw [hg, this, Nat.sub_self]; rfl
theorem bladeS_eq3 (nl nd nr : Nat) (lf df r1 r2 r3 r4 : Nat → Int) : bladeS nl lf nd df nr r1 r2 r3 r4 =
    orE (polarS nl lf nd df) (orE (bif (nr : Int) == 0 then 12 else 0) (orE (bif decide ((nr : Int) > 16) then 5 else 0) (firstS (ringAt r1 r2 r3 r4) nr 0))) := rfl
theorem c_rCheckBlade (up : List Ces) (b : Bl) : Cs gl n_nacelleref03_CheckBlade up [b.iv] (.int .i64 b.err) up := by
  obtain ⟨nl, nd, nr, lf, df, r1, r2, r3, r4⟩ := b
  refine mk h_nacelleref03_CheckBlade rfl rfl ?_
  show ibody _ _ _ _ _ fun r up' => r = .int .i64 (bladeS nl lf nd df nr r1 r2 r3 r4) ∧ _
  rw [bladeS_eq3]
  conv => whnf
  refine .mk _ _ _ _ _ (leL_refl _) (c_rCheckPolar _ _ _ _ _) rfl ?_
  conv => whnf
  split
  · rename_i h
    have h : (polarS nl lf nd df != 0) = true := h
    conv => whnf
    refine ⟨?_, rfl⟩
    rw [orE_pos h]
  · rename_i h
    have h : (polarS nl lf nd df != 0) = false := h
    rw [orE_neg h]
    clear h
    conv => whnf
    split
    · rename_i h
      have h : ((nr : Int) == 0) = true := h
      conv => whnf
      refine ⟨?_, rfl⟩
      rw [h]; rfl
    · rename_i h1
      have h1 : ((nr : Int) == 0) = false := h1
      rw [h1]
      conv => whnf
      split
      · rename_i h
        have h : decide ((nr : Int) > 16) = true := h
        conv => whnf
        refine ⟨?_, rfl⟩
        rw [h]; rfl
      · rename_i h2
        have h2 : decide ((nr : Int) > 16) = false := h2
        rw [h2]
        have h2' : nr ≤ 16 := by simp at h2; omega
        obtain ⟨R, hR⟩ : ∃ R, R = firstS (ringAt r1 r2 r3 r4) nr 0 := ⟨_, rfl⟩
        rw [show orE (bif false then 12 else 0) (orE (bif false then 5 else 0) (firstS (ringAt r1 r2 r3 r4) nr 0)) = R from hR.symm]
        conv => whnf
        refine .mk (α := {i : Nat // i ≤ nr ∧ R = firstS (ringAt r1 r2 r3 r4) (nr - i) i}) (fun i => ⟨[(4, .int .i64 i.1), (1, .ptr 0 1 0)], [(1, [.lst none 1 nl fun i => [.int .i64 (lf i)], .lst none 1 nd fun i => [.int .i64 (df i)], .lst none 4 nr fun i => [.int .i64 (r1 i), .int .i64 (r2 i), .int .i64 (r3 i), .int .i64 (r4 i)]])], up⟩) (fun i => nr - i.1) ⟨0, Nat.zero_le _, hR⟩ ⟨⟨leV_refl _, leV_refl _, trivial⟩, ⟨leL_refl _, trivial⟩, rfl, rfl⟩ ?_
        rintro ⟨i, hi, hf⟩
        conv => whnf
        split
        · rename_i hb
          have hlt : i < nr := by
            have hb' : decide ((i : Int) < nr) = true := hb
            simpa using hb'
          have hstep : firstS (ringAt r1 r2 r3 r4) (nr - i) i = orE (ringAt r1 r2 r3 r4 i) (firstS (ringAt r1 r2 r3 r4) (nr - (i + 1)) (i + 1)) := by
            rw [show nr - i = (nr - (i + 1)) + 1 by omega]; rfl
          have hm : w64 ((i : Int) - 1) = (i : Int) - 1 := by rw [w64, wrap_in] <;> omega
          have hw : w64 ((i : Int) + 1) = ((i + 1 : Nat) : Int) := by rw [w64, wrap_in] <;> omega
          conv => whnf
          split
          rotate_left
          · rename_i h
            have h' : decide ((i : Int) < nr) = false := h
            simp at h' <;> omega
          conv => whnf
          refine .mk 14 (by kernel_rfl) ?_
          conv => whnf
          first | refine CALLQ.mk _ _ _ (leL_refl _) (c_CheckRange _ _ _ _) rfl ?_ | refine CALL0.mk _ _ _ _ _ (leL_refl _) (c_CheckRange _ _ _ _) rfl ?_
          conv => whnf
          first | refine CALLQ.mk _ _ _ (leL_refl _) (c_CheckRange _ _ _ _) rfl ?_ | refine CALL0.mk _ _ _ _ _ (leL_refl _) (c_CheckRange _ _ _ _) rfl ?_
          conv => whnf
          first | refine CALLQ.mk _ _ _ (leL_refl _) (c_CheckRange _ _ _ _) rfl ?_ | refine CALL0.mk _ _ _ _ _ (leL_refl _) (c_CheckRange _ _ _ _) rfl ?_
          conv => whnf
          first | refine CALLQ.mk _ _ _ (leL_refl _) (c_CheckRange _ _ _ _) rfl ?_ | refine CALL0.mk _ _ _ _ _ (leL_refl _) (c_CheckRange _ _ _ _) rfl ?_
          conv => whnf
          first | refine CALLQ.mk _ _ _ (leL_refl _) (c_rf4 _ _ _ _ _ _ rfl rfl rfl rfl) rfl ?_ | refine CALL0.mk _ _ _ _ _ (leL_refl _) (c_rf4 _ _ _ _ _ _ rfl rfl rfl rfl) rfl ?_
          conv => whnf
          split
          · rename_i h
            have h : (ringS (r1 i) (r2 i) (r3 i) (r4 i) != 0) = true := h
            have hl : ringAt r1 r2 r3 r4 i = ringS (r1 i) (r2 i) (r3 i) (r4 i) := orE_pos h
            conv => whnf
            refine ⟨?_, rfl⟩
            show IV.int .i64 (ringS (r1 i) (r2 i) (r3 i) (r4 i)) = _
            rw [hf, hstep, hl, orE_pos h]
          · rename_i h
            have h : (ringS (r1 i) (r2 i) (r3 i) (r4 i) != 0) = false := h
            have hl : ringAt r1 r2 r3 r4 i = bif decide (0 < i) && decide (r1 i ≤ r1 (i - 1)) then 11 else 0 := orE_neg h
            conv => whnf
            refine .mk 14 (by kernel_rfl) ?_
            conv => whnf
            split
            · rename_i h0
              have h0 : decide ((i : Int) > 0) = true := h0
              have h0' : 0 < i := by simpa using h0
              rw [decide_eq_true h0', Bool.true_and] at hl
              conv => whnf
              rw [show IntKind.i64.wrap ((i : Int) - 1) = ((i - 1 : Nat) : Int) by show w64 _ = _; rw [hm]; omega]
              split
              rotate_left
              · rename_i h
                have h' : decide (0 ≤ ((i - 1 : Nat) : Int)) = false := h
                simp at h' <;> omega
              conv => whnf
              split
              rotate_left
              · rename_i h
                have h' : decide (((i - 1 : Nat) : Int) < nr) = false := h
                simp at h' <;> omega
              conv => whnf
              split
              · rename_i g
                have g : decide (r1 i ≤ r1 (i - 1)) = true := g
                rw [g] at hl
                conv => whnf
                refine ⟨?_, rfl⟩
                rw [hf, hstep, hl]; rfl
              · rename_i g
                have g : decide (r1 i ≤ r1 (i - 1)) = false := g
                rw [g] at hl
                conv => whnf
                exact ⟨⟨i + 1, hlt, by rw [hf, hstep, hl]; rfl⟩, ⟨⟨leV_int hw, leV_refl _, trivial⟩, ⟨leL_refl _, trivial⟩, rfl, rfl⟩, (by show nr - (i + 1) < nr - i; omega)⟩
            · rename_i h0
              have h0 : decide ((i : Int) > 0) = false := h0
              have h0' : ¬ 0 < i := by simpa using h0
              rw [decide_eq_false h0', Bool.false_and] at hl
              conv => whnf
              exact ⟨⟨i + 1, hlt, by rw [hf, hstep, hl]; rfl⟩, ⟨⟨leV_int hw, leV_refl _, trivial⟩, ⟨leL_refl _, trivial⟩, rfl, rfl⟩, (by show nr - (i + 1) < nr - i; omega)⟩
        · rename_i hb
          have : i = nr := by
            have hb' : decide ((i : Int) < nr) = false := hb
            simp at hb'; omega
          conv => whnf
          refine ⟨?_, rfl⟩
          rw [hf, this, Nat.sub_self]; rfl
end Go.Proofs.YtfoenhiohhmnlaaGreatDoor.Ix
