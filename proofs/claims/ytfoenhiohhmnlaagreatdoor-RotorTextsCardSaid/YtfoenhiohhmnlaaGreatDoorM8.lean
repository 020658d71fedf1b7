/- YtfoenhiohhmnlaaGreatDoorM8 -/
import Derived.Test.YtfoenhiohhmnlaaGreatDoorM7
namespace Go.Proofs.YtfoenhiohhmnlaaGreatDoor.Ix
open Go.Proofs
set_option maxRecDepth 100000
set_option linter.unusedVariables false
set_option linter.unusedSimpArgs false
variable {gl : Nat → IV}
def numM (P : List (List UInt8)) (k i : Nat) : Int := (numR (wrdN (wdsL P k) i)).1
def lineN (P : List (List UInt8)) (k : Nat) : Bool :=
  goodN (wrdN (wdsL P k)) (cntL P k) && match k with
    | 0 => headB P k polarB && fitP (cntL P k)
    | _ + 1 => headB P k ringB && fitR (cntL P k)
def refB (P : List (List UInt8)) : Bl := ⟨cntL P 0 / 2, cntL P 0 / 2, P.length - 2, fun j => numM P 0 (2 * j), fun j => numM P 0 (2 * j + 1), fun k => numM P (k + 1) 0, fun k => numM P (k + 1) 1, fun k => numM P (k + 1) 2, fun k => numM P (k + 1) 3⟩
abbrev bladeQ (b : Bl) : IV := .agg [.lst (some 61) 1 b.nl fun i => [.int .i64 (b.lf i)], .lst (some 71) 1 b.nd fun i => [.int .i64 (b.df i)],
    .lst (some 109) 4 b.nr fun i => [.int .i64 (b.r1 i), .int .i64 (b.r2 i), .int .i64 (b.r3 i), .int .i64 (b.r4 i)]]
def refR (P : List (List UInt8)) : IV :=
  let b := fb (lineN P) (P.length - 1) 0
  bif decide (b < P.length - 1) then .tup [nilB0, .int .i64 b, .int .i64 26] else
  bif !(P.getD (P.length - 1) []).isEmpty || P.length - 1 == 0 then .tup [nilB0, .int .i64 (P.length - 1 : Nat), .int .i64 26] else
  bif (refB P).err != 0 then .tup [nilB0, .int .i64 (P.length - 1 : Nat), .int .i64 (refB P).err] else
  .tup [bladeQ (refB P), .int .i64 0, .int .i64 0]
def cellJ (f : Nat → Int) : Nat → List IV
  | 0 => [.nilS, .nilS, .nilS]
  | j + 1 => [.lst (some 61) 1 (j + 1) fun j => [.int .i64 (f (2 * j))], .lst (some 71) 1 (j + 1) fun j => [.int .i64 (f (2 * j + 1))], .nilS]
def cellN (P : List (List UInt8)) : Nat → List IV
  | 0 => [.nilS, .nilS, .nilS]
  | k + 1 => [.lst (some 61) 1 (cntL P 0 / 2) fun j => [.int .i64 (numM P 0 (2 * j))], .lst (some 71) 1 (cntL P 0 / 2) fun j => [.int .i64 (numM P 0 (2 * j + 1))],
    .lst (some 109) 4 k fun k => [.int .i64 (numM P (k + 1) 0), .int .i64 (numM P (k + 1) 1), .int .i64 (numM P (k + 1) 2), .int .i64 (numM P (k + 1) 3)]]
set_option maxHeartbeats 16000000 in
theorem c_rPBlade (up : List Ces) (l : List UInt8) (hl : l.length ≤ 4096) :
    Cs gl n_nacelleref03_Parse up [.str (bytesS l)] (refR (splitL 10 l)) up := by
  have hS : ∀ up, Cs gl n_nacelleref01_Split up [.str (bytesS l), .int .u8 10] _ up := fun up => c_rSplit (gl := gl) up l 10 (by omega)
  have hpl : ∀ i, ((splitL 10 l).getD i []).length ≤ 4096 := fun i => Nat.le_trans (splitL_le 10 l i) hl
  have hsz : (bytesS l).size = l.length := bytesS_size l
  obtain ⟨P, hP⟩ : ∃ P, P = splitL 10 l := ⟨_, rfl⟩
  obtain ⟨M, hM⟩ : ∃ M, P.length = M + 1 := ⟨P.length - 1, by have := List.length_pos_iff.2 (splitL_ne 10 l); rw [← hP] at this; omega⟩
  have hMle : M ≤ 4096 := by
    have h1 : P.length ≤ l.length + 1 := by rw [hP, splitL_len]; have := List.count_le_length (a := (10 : UInt8)) (l := l); omega
    omega
  rw [← hP] at hS hpl
  rw [hM] at hS
  rw [← hP]
  obtain ⟨s, hs⟩ : ∃ s, s = bytesS l := ⟨_, rfl⟩
  rw [← hs] at hS hsz ⊢
  have q0 : decide ((s.size : Int) > 4096) = false := decide_eq_false (by omega)
  obtain ⟨x, hx⟩ : ∃ x : Nat → ByteArray, x = fun i => bytesS (P.getD i []) := ⟨_, rfl⟩
  have hS : ∀ up, Cs gl n_nacelleref01_Split up [.str s, .int .u8 10] (.lst (some 31) 1 (M + 1) fun i => [.str (x i)]) up := by rw [hx]; exact hS
  have hw1 : w64 (((M + 1 : Nat) : Int) - 1) = (M : Nat) := by rw [w64, wrap_in] <;> omega
  refine mk h_nacelleref03_Parse rfl rfl ?_
  conv => whnf
  split
  · rename_i h
    exact Bool.noConfusion ((q0).symm.trans h)
  rename_i hN
  clear hN
  conv => whnf
  repeat first
    | (refine DRAW.seek ?_; repeat (first | refine TRYD.take ?_ | refine TRYD.next ?_); conv => whnf)
    | (refine HOLD.mk (by first | exact trivial | exact ⟨⟨rfl, rfl⟩, trivial⟩ | exact ⟨⟨rfl, rfl⟩, ⟨rfl, rfl⟩, trivial⟩) ?_; (conv => whnf))
    | (refine CALL0.by (hS ..) rfl ?_; conv => whnf)
    | (refine CALLQ.mk _ _ _ (leL_refl _) (hS ..) rfl ?_; conv => whnf)
  refine .mk (α := {i : Nat // i ≤ M ∧ ∀ j, j < i → lineN P j = true}) (fun i => ⟨[(7, .int .i64 i.1), (6, .ptr 0 6 0), (5, .lst none 1 (M + 1) fun i => [.str (x i)]), (2, .ptr 0 2 0)], [(6, cellN P i.1), (2, [.nilS, .nilS, .nilS])], up⟩) (fun i => M - i.1) ⟨0, Nat.zero_le _, fun j h => absurd h (Nat.not_lt_zero _)⟩ ⟨?_, ?_, rfl, rfl⟩ ?_
  · exact ⟨leV_refl _, leV_refl _, ⟨.inl rfl, rfl, rfl, fun _ _ => rfl⟩, leV_refl _, trivial⟩
  · exact ⟨leL_refl _, leL_refl _, trivial⟩
  rintro ⟨i, hi, hg⟩
  have hiw : w64 ((i : Int) + 1) = ((i + 1 : Nat) : Int) := by rw [w64, wrap_in] <;> omega
  obtain ⟨R, hR⟩ : ∃ R, R = refR P := ⟨_, rfl⟩
  rw [← hR]
  by_cases hlt : i < M
  rotate_left
  · have e : M = i := by omega
    subst e
    have q : decide ((M : Int) < w64 (((M + 1 : Nat) : Int) - 1)) = false := by rw [hw1]; exact decide_eq_false (by omega)
    have qa : decide (0 ≤ IntKind.i64.wrap (((M + 1 : Nat) : Int) - 1)) = true := decide_eq_true (by have := hw1; unfold w64 at this; omega)
    have qb : decide (IntKind.i64.wrap (((M + 1 : Nat) : Int) - 1) < ((M + 1 : Nat) : Int)) = true := decide_eq_true (by have := hw1; unfold w64 at this; omega)
    have hxM : x (IntKind.i64.wrap (((M + 1 : Nat) : Int) - 1)).toNat = bytesS (P.getD M []) := by
      have := hw1; unfold w64 at this; rw [this, Int.toNat_natCast, hx]
    have efb : fb (lineN P) (P.length - 1) 0 = P.length - 1 := by rw [fb_all (fun j _ hj => hg j (by omega))]; omega
    have hR0 : R = bif !(P.getD (P.length - 1) []).isEmpty || P.length - 1 == 0 then .tup [nilB0, .int .i64 (P.length - 1 : Nat), .int .i64 26] else
        bif (refB P).err != 0 then .tup [nilB0, .int .i64 (P.length - 1 : Nat), .int .i64 (refB P).err] else .tup [bladeQ (refB P), .int .i64 0, .int .i64 0] := by
      rw [hR]
      unfold refR
      simp only [efb, decide_eq_false (Nat.lt_irrefl (P.length - 1)), cond_false]
    rw [show P.length - 1 = M by omega] at hR0
    have hend : (P.getD M []).isEmpty = false ∨ M = 0 → R = .tup [nilB0, .int .i64 (M : Nat), .int .i64 26] := fun h => by
      rw [hR0]
      rcases h with h | h
      · rw [h]; rfl
      · subst h; simp
    obtain ⟨y, hy⟩ : ∃ y, y = IntKind.i64.wrap (((M + 1 : Nat) : Int) - 1) := ⟨_, rfl⟩
    have hyM : y = (M : Int) := hy.trans hw1
    by_cases he : P.getD M [] = []
    rotate_left
    · have qe : (!((x (IntKind.i64.wrap (((M + 1 : Nat) : Int) - 1)).toNat).toList == ByteArray.empty.toList)) = true := by
        rw [hxM, Go.Lib.toList_data, bytesS_data]
        simp only [Bool.not_eq_true', beq_eq_false_iff_ne]
        intro e
        rw [Go.Lib.toList_data] at e
        exact he e
      have hr := hend (.inl (by cases h : P.getD M [] with | nil => exact absurd h he | cons _ _ => rfl))
      conv => whnf
      split
      · rename_i h
        exact Bool.noConfusion ((q).symm.trans h)
      rename_i hN
      clear hN
      conv => whnf
      split
      rotate_left
      · rename_i h
        exact Bool.noConfusion ((qa).symm.trans h)
      rename_i hN
      clear hN
      conv => whnf
      split
      rotate_left
      · rename_i h
        exact Bool.noConfusion ((qb).symm.trans h)
      rename_i hN
      clear hN
      conv => whnf
      split
      rotate_left
      · rename_i h
        exact Bool.noConfusion ((qe).symm.trans h)
      rename_i hN
      clear hN
      conv => whnf
      refine ⟨?_, rfl⟩
      rw [hr]
      show IV.tup [nilB0, .int .i64 (IntKind.i64.wrap (((M + 1 : Nat) : Int) - 1)), .int .i64 26] = _
      rw [← hy, hyM]
    have qe : (!((x (IntKind.i64.wrap (((M + 1 : Nat) : Int) - 1)).toNat).toList == ByteArray.empty.toList)) = false := by
      rw [hxM, he, Go.Lib.toList_data, bytesS_data, Go.Lib.toList_data]; rfl
    cases M with
    | zero =>
      have hr := hend (.inr rfl)
      conv => whnf
      split
      · rename_i h
        exact Bool.noConfusion ((qe).symm.trans h)
      rename_i hN
      clear hN
      conv => whnf
      refine ⟨?_, rfl⟩
      rw [hr]
      show IV.tup [nilB0, .int .i64 (IntKind.i64.wrap (((0 + 1 : Nat) : Int) - 1)), .int .i64 26] = _
      rw [← hy, hyM]
    | succ K =>
      have q1 : (((K + 1 + 1 : Nat) : Int) == 1) = false := by rw [beq_eq_false_iff_ne]; omega
      have hb : refB P = ⟨cntL P 0 / 2, cntL P 0 / 2, K, fun j => numM P 0 (2 * j), fun j => numM P 0 (2 * j + 1), fun k => numM P (k + 1) 0, fun k => numM P (k + 1) 1, fun k => numM P (k + 1) 2, fun k => numM P (k + 1) 3⟩ := by
        unfold refB; rw [show P.length - 2 = K by omega]
      have hCB := fun up => c_rCheckBlade (gl := gl) up ⟨cntL P 0 / 2, cntL P 0 / 2, K, fun j => numM P 0 (2 * j), fun j => numM P 0 (2 * j + 1), fun k => numM P (k + 1) 0, fun k => numM P (k + 1) 1, fun k => numM P (k + 1) 2, fun k => numM P (k + 1) 3⟩
      rw [he] at hR0
      have hR1 : R = bif (refB P).err != 0 then .tup [nilB0, .int .i64 (K + 1 : Nat), .int .i64 (refB P).err] else .tup [bladeQ (refB P), .int .i64 0, .int .i64 0] := hR0
      rw [hb] at hR1
      obtain ⟨E, hE⟩ : ∃ E, E = Bl.err ⟨cntL P 0 / 2, cntL P 0 / 2, K, fun j => numM P 0 (2 * j), fun j => numM P 0 (2 * j + 1), fun k => numM P (k + 1) 0, fun k => numM P (k + 1) 1, fun k => numM P (k + 1) 2, fun k => numM P (k + 1) 3⟩ := ⟨_, rfl⟩
      rw [← hE] at hCB hR1
      cases qE : (E != 0) with
      | true =>
        rw [qE, cond_true] at hR1
        conv => whnf
        split
        · rename_i h
          exact Bool.noConfusion ((q).symm.trans h)
        rename_i hN
        clear hN
        conv => whnf
        split
        rotate_left
        · rename_i h
          exact Bool.noConfusion ((qa).symm.trans h)
        rename_i hN
        clear hN
        conv => whnf
        split
        rotate_left
        · rename_i h
          exact Bool.noConfusion ((qb).symm.trans h)
        rename_i hN
        clear hN
        conv => whnf
        split
        · rename_i h
          exact Bool.noConfusion ((qe).symm.trans h)
        rename_i hN
        clear hN
        conv => whnf
        repeat first
          | (refine DRAW.seek ?_; repeat (first | refine TRYD.take ?_ | refine TRYD.next ?_); conv => whnf)
          | (refine HOLD.mk (by first | exact trivial | exact ⟨⟨rfl, rfl⟩, trivial⟩ | exact ⟨⟨rfl, rfl⟩, ⟨rfl, rfl⟩, trivial⟩) ?_; (conv => whnf))
          | (refine CALL0.by (hCB ..) rfl ?_; conv => whnf)
          | (refine CALLQ.mk _ _ _ (leL_refl _) (hCB ..) rfl ?_; conv => whnf)
        split
        rotate_left
        · rename_i h
          exact Bool.noConfusion ((qE).symm.trans h)
        rename_i hN
        clear hN
        conv => whnf
        refine ⟨?_, rfl⟩
        rw [hR1]
        show IV.tup [nilB0, .int .i64 (IntKind.i64.wrap (((K + 1 + 1 : Nat) : Int) - 1)), .int .i64 E] = _
        rw [← hy, hyM]
      | false =>
        rw [qE, cond_false] at hR1
        conv => whnf
        split
        · rename_i h
          exact Bool.noConfusion ((q).symm.trans h)
        rename_i hN
        clear hN
        conv => whnf
        split
        rotate_left
        · rename_i h
          exact Bool.noConfusion ((qa).symm.trans h)
        rename_i hN
        clear hN
        conv => whnf
        split
        rotate_left
        · rename_i h
          exact Bool.noConfusion ((qb).symm.trans h)
        rename_i hN
        clear hN
        conv => whnf
        split
        · rename_i h
          exact Bool.noConfusion ((qe).symm.trans h)
        rename_i hN
        clear hN
        conv => whnf
        repeat first
          | (refine DRAW.seek ?_; repeat (first | refine TRYD.take ?_ | refine TRYD.next ?_); conv => whnf)
          | (refine HOLD.mk (by first | exact trivial | exact ⟨⟨rfl, rfl⟩, trivial⟩ | exact ⟨⟨rfl, rfl⟩, ⟨rfl, rfl⟩, trivial⟩) ?_; (conv => whnf))
          | (refine CALL0.by (hCB ..) rfl ?_; conv => whnf)
          | (refine CALLQ.mk _ _ _ (leL_refl _) (hCB ..) rfl ?_; conv => whnf)
        split
        · rename_i h
          exact Bool.noConfusion ((qE).symm.trans h)
        rename_i hN
        clear hN
        conv => whnf
        exact ⟨hR1.symm, rfl⟩
  have q : decide ((i : Int) < w64 (((M + 1 : Nat) : Int) - 1)) = true := by rw [hw1]; exact decide_eq_true (by omega)
  have qi : decide ((i : Int) < ((M + 1 : Nat) : Int)) = true := decide_eq_true (by omega)
  obtain ⟨n, hn⟩ : ∃ n, n = cntL P i := ⟨_, rfl⟩
  have hnle : n ≤ 1000000 := by
    have h1 : (wdsL P i).length ≤ (P.getD i []).length + 1 := by unfold wdsL; rw [splitL_len]; have := List.count_le_length (a := (32 : UInt8)) (l := P.getD i []); omega
    have := hpl i
    rw [hn]; unfold cntL; omega
  have hbad : lineN P i = false → R = .tup [nilB0, .int .i64 i, .int .i64 26] := fun h => by
    have e : fb (lineN P) (P.length - 1) 0 = i := fb_at (Nat.zero_le _) (by omega) h (fun j _ hj => hg j hj)
    rw [hR]
    unfold refR
    simp only [e]
    rw [decide_eq_true (by omega), cond_true]
  have hnum : ∀ h up, Cs gl n_nacelleref03_numbers up [.str (x i), .str h] (bif goodN (wrdN (wdsL P i)) n then .tup [.lst (some 32) 1 n fun j => [.int .i64 (numM P i j)], .bool (headB P i h)] else .tup [.nilS, .bool false]) up := fun h up => by
    rw [hx, hn]; exact c_rNumbers up (P.getD i []) (by have := hpl i; omega) h
  obtain ⟨g, hgd⟩ : ∃ g, g = goodN (wrdN (wdsL P i)) n := ⟨_, rfl⟩
  rw [← hgd] at hnum
  cases i with
  | zero =>
    have hok : lineN P 0 = (g && (headB P 0 polarB && fitP n)) := by rw [hgd, hn]; rfl
    have hp := hnum polarB
    obtain ⟨bp, hbp⟩ : ∃ b, b = headB P 0 polarB := ⟨_, rfl⟩
    rw [← hbp] at hp hok
    cases g with
    | false =>
      rw [cond_false] at hp
      conv => whnf
      split
      rotate_left
      · rename_i h
        exact Bool.noConfusion ((q).symm.trans h)
      rename_i hN
      clear hN
      conv => whnf
      split
      rotate_left
      · rename_i h
        exact Bool.noConfusion ((qi).symm.trans h)
      rename_i hN
      clear hN
      conv => whnf
      repeat first
        | (refine DRAW.seek ?_; repeat (first | refine TRYD.take ?_ | refine TRYD.next ?_); conv => whnf)
        | (refine HOLD.mk (by first | exact trivial | exact ⟨⟨rfl, rfl⟩, trivial⟩ | exact ⟨⟨rfl, rfl⟩, ⟨rfl, rfl⟩, trivial⟩) ?_; (conv => whnf))
        | (refine CALL0.by (hp ..) rfl ?_; conv => whnf)
        | (refine CALLQ.mk _ _ _ (leL_refl _) (hp ..) rfl ?_; conv => whnf)
      repeat first
        | (refine DRAW.seek ?_; repeat (first | refine TRYD.take ?_ | refine TRYD.next ?_); conv => whnf)
        | (refine HOLD.mk (by first | exact trivial | exact ⟨⟨rfl, rfl⟩, trivial⟩ | exact ⟨⟨rfl, rfl⟩, ⟨rfl, rfl⟩, trivial⟩) ?_; (conv => whnf))
      exact ⟨(hbad (by rw [hok]; simp)).symm, rfl⟩
    | true =>
    rw [cond_true] at hp
    cases bp with
    | false =>
      conv => whnf
      split
      rotate_left
      · rename_i h
        exact Bool.noConfusion ((q).symm.trans h)
      rename_i hN
      clear hN
      conv => whnf
      split
      rotate_left
      · rename_i h
        exact Bool.noConfusion ((qi).symm.trans h)
      rename_i hN
      clear hN
      conv => whnf
      repeat first
        | (refine DRAW.seek ?_; repeat (first | refine TRYD.take ?_ | refine TRYD.next ?_); conv => whnf)
        | (refine HOLD.mk (by first | exact trivial | exact ⟨⟨rfl, rfl⟩, trivial⟩ | exact ⟨⟨rfl, rfl⟩, ⟨rfl, rfl⟩, trivial⟩) ?_; (conv => whnf))
        | (refine CALL0.by (hp ..) rfl ?_; conv => whnf)
        | (refine CALLQ.mk _ _ _ (leL_refl _) (hp ..) rfl ?_; conv => whnf)
      repeat first
        | (refine DRAW.seek ?_; repeat (first | refine TRYD.take ?_ | refine TRYD.next ?_); conv => whnf)
        | (refine HOLD.mk (by first | exact trivial | exact ⟨⟨rfl, rfl⟩, trivial⟩ | exact ⟨⟨rfl, rfl⟩, ⟨rfl, rfl⟩, trivial⟩) ?_; (conv => whnf))
      exact ⟨(hbad (by rw [hok]; simp)).symm, rfl⟩
    | true =>
    by_cases hev : n % 2 = 0
    rotate_left
    · have hf : fitP n = false := by unfold fitP; rw [Int.tmod_eq_emod_of_nonneg (by omega), beq_eq_false_iff_ne]; omega
      have q2 : ((n : Int).tmod 2 != 0) = true := by rw [Int.tmod_eq_emod_of_nonneg (by omega), bne_iff_ne]; omega
      rw [hf] at hok
      conv => whnf
      split
      rotate_left
      · rename_i h
        exact Bool.noConfusion ((q).symm.trans h)
      rename_i hN
      clear hN
      conv => whnf
      split
      rotate_left
      · rename_i h
        exact Bool.noConfusion ((qi).symm.trans h)
      rename_i hN
      clear hN
      conv => whnf
      repeat first
        | (refine DRAW.seek ?_; repeat (first | refine TRYD.take ?_ | refine TRYD.next ?_); conv => whnf)
        | (refine HOLD.mk (by first | exact trivial | exact ⟨⟨rfl, rfl⟩, trivial⟩ | exact ⟨⟨rfl, rfl⟩, ⟨rfl, rfl⟩, trivial⟩) ?_; (conv => whnf))
        | (refine CALL0.by (hp ..) rfl ?_; conv => whnf)
        | (refine CALLQ.mk _ _ _ (leL_refl _) (hp ..) rfl ?_; conv => whnf)
      split
      rotate_left
      · rename_i h
        exact Bool.noConfusion ((q2).symm.trans h)
      rename_i hN
      clear hN
      conv => whnf
      repeat first
        | (refine DRAW.seek ?_; repeat (first | refine TRYD.take ?_ | refine TRYD.next ?_); conv => whnf)
        | (refine HOLD.mk (by first | exact trivial | exact ⟨⟨rfl, rfl⟩, trivial⟩ | exact ⟨⟨rfl, rfl⟩, ⟨rfl, rfl⟩, trivial⟩) ?_; (conv => whnf))
      exact ⟨(hbad (by rw [hok]; simp)).symm, rfl⟩
    obtain ⟨m, hm⟩ : ∃ m, n = 2 * m := ⟨n / 2, by omega⟩
    have hf : fitP n = true := by unfold fitP; rw [Int.tmod_eq_emod_of_nonneg (by omega), beq_iff_eq]; omega
    have q2 : ((n : Int).tmod 2 != 0) = false := by rw [Int.tmod_eq_emod_of_nonneg (by omega)]; simp; omega
    rw [hf] at hok
    obtain ⟨N, hN⟩ : ∃ N, N = numM P 0 := ⟨_, rfl⟩
    rw [← hN] at hp
    conv => whnf
    split
    rotate_left
    · rename_i h
      exact Bool.noConfusion ((q).symm.trans h)
    rename_i hN
    clear hN
    conv => whnf
    split
    rotate_left
    · rename_i h
      exact Bool.noConfusion ((qi).symm.trans h)
    rename_i hN
    clear hN
    conv => whnf
    repeat first
      | (refine DRAW.seek ?_; repeat (first | refine TRYD.take ?_ | refine TRYD.next ?_); conv => whnf)
      | (refine HOLD.mk (by first | exact trivial | exact ⟨⟨rfl, rfl⟩, trivial⟩ | exact ⟨⟨rfl, rfl⟩, ⟨rfl, rfl⟩, trivial⟩) ?_; (conv => whnf))
      | (refine CALL0.by (hp ..) rfl ?_; conv => whnf)
      | (refine CALLQ.mk _ _ _ (leL_refl _) (hp ..) rfl ?_; conv => whnf)
    split
    · rename_i h
      exact Bool.noConfusion ((q2).symm.trans h)
    rename_i hN
    clear hN
    conv => whnf
    refine .mk (α := {j : Nat // j ≤ m}) (fun j => ⟨[(10, .int .i64 (2 * j.1 : Nat)), (8, .lst none 1 n fun j => [.int .i64 (N j)]), (7, .int .i64 (0 : Nat)), (6, .ptr 0 6 0), (5, .lst none 1 (M + 1) fun i => [.str (x i)]), (2, .ptr 0 2 0)], [(6, cellJ N j.1), (2, [.nilS, .nilS, .nilS])], up⟩) (fun j => m - j.1) ⟨0, Nat.zero_le _⟩ ⟨?_, ?_, rfl, rfl⟩ ?_
    · exact ⟨leV_refl _, ⟨.inl rfl, rfl, rfl, fun _ _ => rfl⟩, leV_refl _, leV_refl _, leV_refl _, leV_refl _, trivial⟩
    · exact ⟨leL_refl _, leL_refl _, trivial⟩
    rintro ⟨j, hj⟩
    have hjw : w64 (((2 * j : Nat) : Int) + 2) = ((2 * (j + 1) : Nat) : Int) := by rw [w64, wrap_in] <;> omega
    have hj1 : w64 (((2 * j : Nat) : Int) + 1) = ((2 * j + 1 : Nat) : Int) := by rw [w64, wrap_in] <;> omega
    by_cases hjl : j < m
    rotate_left
    · have e : j = m := by omega
      subst e
      have qj : decide (((2 * j : Nat) : Int) < (n : Int)) = false := decide_eq_false (by omega)
      conv => whnf
      split
      · rename_i h
        exact Bool.noConfusion ((qj).symm.trans h)
      rename_i hN
      clear hN
      conv => whnf
      refine ⟨⟨1, hlt, fun j hj => by rw [show j = 0 by omega]; exact hok⟩, ⟨⟨leV_int hiw, leV_refl _, leV_refl _, leV_refl _, trivial⟩, ⟨?_, leL_refl _, trivial⟩, rfl, rfl⟩, (by show M - 1 < M - 0; omega)⟩
      have hc : cntL P 0 / 2 = j := by rw [← hn]; omega
      show leL (cellJ N j) (cellN P 1)
      rw [hN]
      unfold cellN
      rw [hc]
      cases j with
      | zero => exact ⟨rfl, rfl, rfl, trivial⟩
      | succ j => exact ⟨leV_refl _, leV_refl _, rfl, trivial⟩
    have qj : decide (((2 * j : Nat) : Int) < (n : Int)) = true := decide_eq_true (by omega)
    have qj0 : decide (0 ≤ w64 (((2 * j : Nat) : Int) + 1)) = true := by rw [hj1]; exact decide_eq_true (by omega)
    have qj1 : decide (w64 (((2 * j : Nat) : Int) + 1) < (n : Int)) = true := by rw [hj1]; exact decide_eq_true (by omega)
    have e1 : N ((2 * j : Nat) : Int).toNat = N (2 * j) := by rw [Int.toNat_natCast]
    have e2 : N (w64 (((2 * j : Nat) : Int) + 1)).toNat = N (2 * j + 1) := by rw [hj1, Int.toNat_natCast]
    have app : ∀ (j : Nat) (h : Nat → Int) (x : Int), x = h j → ∀ i, i < j + 1 → appF j (fun i => [IV.int .i64 (h i)]) (litF 1 [.int .i64 x]) i = [.int .i64 (h i)] := fun j h x hx i hi => by
      show (if i < j then [IV.int .i64 (h i)] else litF 1 [.int .i64 x] (i - j)) = _
      split
      · rfl
      · have : i = j := by omega
        subst this
        rw [Nat.sub_self, hx]; rfl
    cases j with
    | zero =>
      conv => whnf
      split
      rotate_left
      · rename_i h
        exact Bool.noConfusion ((qj).symm.trans h)
      rename_i hN
      clear hN
      conv => whnf
      refine DRAW.seek ?_
      repeat (first | refine TRYD.take ?_ | refine TRYD.next ?_)
      conv => whnf
      split
      rotate_left
      · rename_i h
        exact Bool.noConfusion ((qj).symm.trans h)
      rename_i hN
      clear hN
      conv => whnf
      split
      rotate_left
      · rename_i h
        exact Bool.noConfusion ((qj1).symm.trans h)
      rename_i hN
      clear hN
      conv => whnf
      refine ⟨⟨1, hjl⟩, ⟨⟨leV_int hjw, leV_refl _, leV_refl _, leV_refl _, leV_refl _, leV_refl _, trivial⟩, ⟨⟨⟨.inr rfl, rfl, rfl, fun i hi => ?_⟩, ⟨.inr rfl, rfl, rfl, fun i hi => ?_⟩, rfl, trivial⟩, leL_refl _, trivial⟩, rfl, rfl⟩, (by show m - 1 < m - 0; omega)⟩
      · rw [show i = 0 by have : i < 1 := hi; omega]; rfl
      · rw [show i = 0 by have : i < 1 := hi; omega]; rfl
    | succ j =>
      conv => whnf
      split
      rotate_left
      · rename_i h
        exact Bool.noConfusion ((qj).symm.trans h)
      rename_i hN
      clear hN
      conv => whnf
      refine .mkQ [⟨8, 61, 1, j, fun j => [.int .i64 (N (2 * j))]⟩, ⟨18, 71, 1, j, fun j => [.int .i64 (N (2 * j + 1))]⟩] (fun s hs => ?_) (by simp) (by simp) 21 rfl (by decide +kernel) (fun bc => ?_)
      · simp only [List.mem_cons, List.not_mem_nil, or_false] at hs
        rcases hs with rfl | rfl
        · exact ⟨6, 0, _, rfl, rfl⟩
        · exact ⟨6, 1, _, rfl, rfl⟩
      conv => whnf
      split
      rotate_left
      · rename_i h
        exact Bool.noConfusion ((qj).symm.trans h)
      rename_i hN
      clear hN
      conv => whnf
      split
      rotate_left
      · rename_i h
        have h' : decide (j + 1 + 1 ≤ 1073741824) = false := h
        simp at h' <;> omega
      conv => whnf
      refine .mk rfl ?_
      conv => whnf
      split
      rotate_left
      · rename_i h
        exact Bool.noConfusion ((qj0).symm.trans h)
      rename_i hN
      clear hN
      conv => whnf
      split
      rotate_left
      · rename_i h
        exact Bool.noConfusion ((qj1).symm.trans h)
      rename_i hN
      clear hN
      conv => whnf
      split
      rotate_left
      · rename_i h
        have h' : decide (j + 1 + 1 ≤ 1073741824) = false := h
        simp at h' <;> omega
      conv => whnf
      refine .mk rfl ?_
      conv => whnf
      refine ⟨⟨j + 1 + 1, hjl⟩, ⟨⟨leV_int hjw, leV_refl _, leV_refl _, leV_refl _, leV_refl _, leV_refl _, trivial⟩, ⟨⟨⟨.inr rfl, rfl, rfl, app (j + 1) (fun j => N (2 * j)) _ ?_⟩, ⟨.inr rfl, rfl, rfl, app (j + 1) (fun j => N (2 * j + 1)) _ ?_⟩, rfl, trivial⟩, leL_refl _, trivial⟩, rfl, rfl⟩, (by show m - (j + 1 + 1) < m - (j + 1); omega)⟩
      · exact e1
      · exact e2
  | succ k =>
    have hok : lineN P (k + 1) = (g && (headB P (k + 1) ringB && fitR n)) := by rw [hgd, hn]; rfl
    have hp := hnum ringB
    have qk : (((k + 1 : Nat) : Int) == 0) = false := by rw [beq_eq_false_iff_ne]; omega
    obtain ⟨bp, hbp⟩ : ∃ b, b = headB P (k + 1) ringB := ⟨_, rfl⟩
    rw [← hbp] at hp hok
    cases g with
    | false =>
      rw [cond_false] at hp
      conv => whnf
      split
      rotate_left
      · rename_i h
        exact Bool.noConfusion ((q).symm.trans h)
      rename_i hN
      clear hN
      conv => whnf
      split
      rotate_left
      · rename_i h
        exact Bool.noConfusion ((qi).symm.trans h)
      rename_i hN
      clear hN
      conv => whnf
      repeat first
        | (refine DRAW.seek ?_; repeat (first | refine TRYD.take ?_ | refine TRYD.next ?_); conv => whnf)
        | (refine HOLD.mk (by first | exact trivial | exact ⟨⟨rfl, rfl⟩, trivial⟩ | exact ⟨⟨rfl, rfl⟩, ⟨rfl, rfl⟩, trivial⟩) ?_; (conv => whnf))
        | (refine CALL0.by (hp ..) rfl ?_; conv => whnf)
        | (refine CALLQ.mk _ _ _ (leL_refl _) (hp ..) rfl ?_; conv => whnf)
      repeat first
        | (refine DRAW.seek ?_; repeat (first | refine TRYD.take ?_ | refine TRYD.next ?_); conv => whnf)
        | (refine HOLD.mk (by first | exact trivial | exact ⟨⟨rfl, rfl⟩, trivial⟩ | exact ⟨⟨rfl, rfl⟩, ⟨rfl, rfl⟩, trivial⟩) ?_; (conv => whnf))
      exact ⟨(hbad (by rw [hok]; simp)).symm, rfl⟩
    | true =>
    rw [cond_true] at hp
    cases bp with
    | false =>
      conv => whnf
      split
      rotate_left
      · rename_i h
        exact Bool.noConfusion ((q).symm.trans h)
      rename_i hN
      clear hN
      conv => whnf
      split
      rotate_left
      · rename_i h
        exact Bool.noConfusion ((qi).symm.trans h)
      rename_i hN
      clear hN
      conv => whnf
      repeat first
        | (refine DRAW.seek ?_; repeat (first | refine TRYD.take ?_ | refine TRYD.next ?_); conv => whnf)
        | (refine HOLD.mk (by first | exact trivial | exact ⟨⟨rfl, rfl⟩, trivial⟩ | exact ⟨⟨rfl, rfl⟩, ⟨rfl, rfl⟩, trivial⟩) ?_; (conv => whnf))
        | (refine CALL0.by (hp ..) rfl ?_; conv => whnf)
        | (refine CALLQ.mk _ _ _ (leL_refl _) (hp ..) rfl ?_; conv => whnf)
      repeat first
        | (refine DRAW.seek ?_; repeat (first | refine TRYD.take ?_ | refine TRYD.next ?_); conv => whnf)
        | (refine HOLD.mk (by first | exact trivial | exact ⟨⟨rfl, rfl⟩, trivial⟩ | exact ⟨⟨rfl, rfl⟩, ⟨rfl, rfl⟩, trivial⟩) ?_; (conv => whnf))
      exact ⟨(hbad (by rw [hok]; simp)).symm, rfl⟩
    | true =>
    by_cases h4 : n = 4
    rotate_left
    · have hf : fitR n = false := by unfold fitR; rw [beq_eq_false_iff_ne]; omega
      have q2 : ((n : Int) != 4) = true := by rw [bne_iff_ne]; omega
      rw [hf] at hok
      conv => whnf
      split
      rotate_left
      · rename_i h
        exact Bool.noConfusion ((q).symm.trans h)
      rename_i hN
      clear hN
      conv => whnf
      split
      rotate_left
      · rename_i h
        exact Bool.noConfusion ((qi).symm.trans h)
      rename_i hN
      clear hN
      conv => whnf
      repeat first
        | (refine DRAW.seek ?_; repeat (first | refine TRYD.take ?_ | refine TRYD.next ?_); conv => whnf)
        | (refine HOLD.mk (by first | exact trivial | exact ⟨⟨rfl, rfl⟩, trivial⟩ | exact ⟨⟨rfl, rfl⟩, ⟨rfl, rfl⟩, trivial⟩) ?_; (conv => whnf))
        | (refine CALL0.by (hp ..) rfl ?_; conv => whnf)
        | (refine CALLQ.mk _ _ _ (leL_refl _) (hp ..) rfl ?_; conv => whnf)
      split
      rotate_left
      · rename_i h
        exact Bool.noConfusion ((q2).symm.trans h)
      rename_i hN
      clear hN
      conv => whnf
      repeat first
        | (refine DRAW.seek ?_; repeat (first | refine TRYD.take ?_ | refine TRYD.next ?_); conv => whnf)
        | (refine HOLD.mk (by first | exact trivial | exact ⟨⟨rfl, rfl⟩, trivial⟩ | exact ⟨⟨rfl, rfl⟩, ⟨rfl, rfl⟩, trivial⟩) ?_; (conv => whnf))
      exact ⟨(hbad (by rw [hok]; simp)).symm, rfl⟩
    have hf : fitR n = true := by unfold fitR; rw [beq_iff_eq]; omega
    have q2 : ((n : Int) != 4) = false := by simp; omega
    rw [hf] at hok
    have z0 : decide ((0 : Int) < (n : Int)) = true := decide_eq_true (by omega)
    have z1 : decide ((1 : Int) < (n : Int)) = true := decide_eq_true (by omega)
    have z2 : decide ((2 : Int) < (n : Int)) = true := decide_eq_true (by omega)
    have z3 : decide ((3 : Int) < (n : Int)) = true := decide_eq_true (by omega)
    conv => whnf
    split
    rotate_left
    · rename_i h
      exact Bool.noConfusion ((q).symm.trans h)
    rename_i hN
    clear hN
    conv => whnf
    split
    rotate_left
    · rename_i h
      exact Bool.noConfusion ((qi).symm.trans h)
    rename_i hN
    clear hN
    conv => whnf
    repeat first
      | (refine DRAW.seek ?_; repeat (first | refine TRYD.take ?_ | refine TRYD.next ?_); conv => whnf)
      | (refine HOLD.mk (by first | exact trivial | exact ⟨⟨rfl, rfl⟩, trivial⟩ | exact ⟨⟨rfl, rfl⟩, ⟨rfl, rfl⟩, trivial⟩) ?_; (conv => whnf))
      | (refine CALL0.by (hp ..) rfl ?_; conv => whnf)
      | (refine CALLQ.mk _ _ _ (leL_refl _) (hp ..) rfl ?_; conv => whnf)
    split
    · rename_i h
      exact Bool.noConfusion ((q2).symm.trans h)
    rename_i hN
    clear hN
    conv => whnf
    refine DRAW.seek ?_
    repeat (first | refine TRYD.take ?_ | refine TRYD.next ?_)
    conv => whnf
    split
    rotate_left
    · rename_i h
      exact Bool.noConfusion ((z0).symm.trans h)
    rename_i hN
    clear hN
    conv => whnf
    split
    rotate_left
    · rename_i h
      exact Bool.noConfusion ((z1).symm.trans h)
    rename_i hN
    clear hN
    conv => whnf
    split
    rotate_left
    · rename_i h
      exact Bool.noConfusion ((z2).symm.trans h)
    rename_i hN
    clear hN
    conv => whnf
    split
    rotate_left
    · rename_i h
      exact Bool.noConfusion ((z3).symm.trans h)
    rename_i hN
    clear hN
    conv => whnf
    split
    rotate_left
    · rename_i h
      have h' : decide (k + 1 ≤ 1073741824) = false := h
      simp at h' <;> omega
    conv => whnf
    refine ⟨⟨k + 1 + 1, hlt, fun j hj => ?_⟩, ⟨⟨leV_int hiw, leV_refl _, leV_refl _, leV_refl _, trivial⟩, ⟨⟨leV_refl _, leV_refl _, ⟨.inr rfl, rfl, rfl, fun j hj => ?_⟩, trivial⟩, leL_refl _, trivial⟩, rfl, rfl⟩, (by show M - (k + 1 + 1) < M - (k + 1); omega)⟩
    · rcases Nat.lt_or_ge j (k + 1) with h | h
      · exact hg j h
      · rw [show j = k + 1 by omega]; exact hok
    · show (if j < k then _ else litF 4 _ (j - k)) = _
      split
      · rfl
      · have : j = k := by have : j < k + 1 := hj; omega
        subst this
        rw [Nat.sub_self]; rfl
end Go.Proofs.YtfoenhiohhmnlaaGreatDoor.Ix

namespace Go.Proofs.YtfoenhiohhmnlaaGreatDoor.Ix
open Go.Proofs
set_option maxRecDepth 100000
set_option linter.unusedVariables false
set_option linter.unusedSimpArgs false
structure SameB (a b : Bl) : Prop where
  nl : a.nl = b.nl
  nd : a.nd = b.nd
  nr : a.nr = b.nr
  lf : ∀ i, i < b.nl → a.lf i = b.lf i
  df : ∀ i, i < b.nd → a.df i = b.df i
  r1 : ∀ i, i < b.nr → a.r1 i = b.r1 i
  r2 : ∀ i, i < b.nr → a.r2 i = b.r2 i
  r3 : ∀ i, i < b.nr → a.r3 i = b.r3 i
  r4 : ∀ i, i < b.nr → a.r4 i = b.r4 i
theorem SameB.err {a b : Bl} (h : SameB a b) : a.err = b.err := by
  obtain ⟨nl, nd, nr, lf, df, r1, r2, r3, r4⟩ := a
  obtain ⟨nl', nd', nr', lf', df', r1', r2', r3', r4'⟩ := b
  obtain ⟨h1, h2, h3, h4, h5, h6, h7, h8, h9⟩ := h
  dsimp only at h1 h2 h3 h4 h5 h6 h7 h8 h9
  subst h1 h2 h3
  show bladeS _ _ _ _ _ _ _ _ _ = bladeS _ _ _ _ _ _ _ _ _
  unfold bladeS polarS
  dsimp only
  rw [firstS_congr (f := fun i => orE (withinS (lf i) 0 1000) (bif decide (lf i < lf (i - 1)) then 11 else 0)) (g := fun i => orE (withinS (lf' i) 0 1000) (bif decide (lf' i < lf' (i - 1)) then 11 else 0)) nl 0 (fun j _ hj => by rw [h4 j (by omega), h4 (j - 1) (by omega)]),
    firstS_congr (f := fun i => withinS (df i) 0 1000) (g := fun i => withinS (df' i) 0 1000) nd 0 (fun j _ hj => by rw [h5 j (by omega)]),
    firstS_congr (f := ringAt r1 r2 r3 r4) (g := ringAt r1' r2' r3' r4') nr 0 (fun j _ hj => by unfold ringAt; rw [h6 j (by omega), h7 j (by omega), h8 j (by omega), h9 j (by omega), h6 (j - 1) (by omega)])]
structure NumB (b : Bl) : Prop where
  nd : b.nd = b.nl
  n1 : 1 ≤ b.nr
  n2 : b.nr ≤ 16
  l1 : 1 ≤ b.nl
  l2 : b.nl ≤ 32
  pol : ∀ i, i < 2 * b.nl → -64 ≤ b.pol i ∧ b.pol i ≤ 1000
  ring : ∀ k, k < b.nr → ∀ i, i < 4 → -64 ≤ b.ring k i ∧ b.ring k i ≤ 1000
theorem numB {b : Bl} (h : b.err = 0) : NumB b := by
  obtain ⟨hnd, hn1, hn2, ok⟩ := Bl.good (b := b) (f := ⟨1, 1, 0⟩) h (by decide)
  have ok0 := ok 0 (by omega)
  refine ⟨hnd, hn1, hn2, ok0.n0, ok0.n1, fun i hi => ?_, fun k hk i hi => ?_⟩
  · have h1 := ok0.lf0 (i / 2) (by omega)
    have h2 := ok0.df0 (i / 2) (by omega)
    unfold Bl.pol
    split <;> omega
  · have o := ok k hk
    have h1 := o.r
    have h2 := o.c
    have h3 := o.t
    have h4 := o.tip
    unfold Bl.ring
    match i, hi with
    | 0, _ => simp; omega
    | 1, _ => simp; omega
    | 2, _ => simp; omega
    | 3, _ => simp; omega
abbrev bladeT (o : Option Nat) (b : Bl) : IV := .agg [.lst none 1 b.nl fun i => [.int .i64 (b.lf i)], .lst none 1 b.nd fun i => [.int .i64 (b.df i)],
    .lst o 4 b.nr fun i => [.int .i64 (b.r1 i), .int .i64 (b.r2 i), .int .i64 (b.r3 i), .int .i64 (b.r4 i)]]
theorem parR_ok {o : Option Nat} {P : List (List UInt8)} (h : ∀ k, k < linesN P → lineOk P k = true) (he : (parB P).err = 0) : parR o P = .tup [bladeT o (parB P), .int .i64 0, .int .i64 0] := by
  have e : fb (lineOk P) (linesN P) 0 = linesN P := by rw [fb_all (fun j _ hj => h j (by omega))]; omega
  unfold parR
  simp only [e, decide_eq_false (Nat.lt_irrefl (linesN P)), cond_false, he]
  rfl
theorem good_itoa {l : List UInt8} (h : goodW l = true) : Go.Lib.itoa (atoiN l) = l := by
  unfold goodW at h
  simp only [Bool.and_eq_true, decide_eq_true_eq] at h
  exact h.1.2
end Go.Proofs.YtfoenhiohhmnlaaGreatDoor.Ix

namespace Go.Proofs.YtfoenhiohhmnlaaGreatDoor.Ix
open Go.Proofs
set_option maxRecDepth 100000
set_option linter.unusedVariables false
set_option linter.unusedSimpArgs false
theorem decD_step {u : Nat} (h : 10 ≤ u) : Go.Lib.decDigits u = Go.Lib.decDigits (u / 10) ++ [UInt8.ofNat (48 + u % 10)] := by
  conv => lhs; rw [Go.Lib.decDigits]
  rw [dif_neg (by omega)]
theorem ofNat_dig {i : Nat} (h : i < 10) : (UInt8.ofNat (48 + i)).toNat = 48 + i := by
  simp; omega
theorem dec_spec : ∀ u : Nat, (∀ b ∈ Go.Lib.decDigits u, dig b = true) ∧ valL (Go.Lib.decDigits u) = u ∧ Go.Lib.decDigits u ≠ [] ∧ (1 ≤ u → (Go.Lib.decDigits u).headD 0 ≠ 48) := by
  intro u
  induction u using Nat.strongRecOn with
  | ind u ih =>
    by_cases h : u < 10
    · rw [Go.Lib.decDigits_one h]
      refine ⟨fun b hb => ?_, ?_, nofun, fun h1 e => ?_⟩
      · have : b = UInt8.ofNat (48 + u) := by simpa using hb
        rw [this, dig_iff, ofNat_dig h]; omega
      · show 10 * 0 + ((UInt8.ofNat (48 + u)).toNat - 48) = u
        rw [ofNat_dig h]; omega
      · have e : UInt8.ofNat (48 + u) = 48 := e
        have := congrArg UInt8.toNat e
        rw [ofNat_dig h] at this
        simp at this; omega
    · obtain ⟨i1, i2, i3, i4⟩ := ih (u / 10) (by omega)
      have hm : u % 10 < 10 := Nat.mod_lt _ (by omega)
      rw [decD_step (by omega)]
      refine ⟨fun b hb => ?_, ?_, by simp, fun _ => ?_⟩
      · rcases List.mem_append.1 hb with hb | hb
        · exact i1 b hb
        · have : b = UInt8.ofNat (48 + u % 10) := by simpa using hb
          rw [this, dig_iff, ofNat_dig hm]; omega
      · rw [valL_snoc, i2, ofNat_dig hm]; omega
      · have := i4 (by omega)
        cases hd : Go.Lib.decDigits (u / 10) with
        | nil => exact absurd hd i3
        | cons a r => rw [hd] at this; exact this
structure Can (d : List UInt8) : Prop where
  ne : d ≠ []
  le : d.length ≤ 9
  hd : d.length ≤ 1 ∨ d.headD 0 ≠ 48
  dg : ∀ b ∈ d, dig b = true
theorem dec_val : ∀ (n : Nat) (d : List UInt8), d.length = n → d ≠ [] → (d.length ≤ 1 ∨ d.headD 0 ≠ 48) → (∀ b ∈ d, dig b = true) → Go.Lib.decDigits (valL d) = d := by
  intro n
  induction n with
  | zero => intro d h h1; exact absurd (List.length_eq_zero_iff.1 h) h1
  | succ n ih =>
    intro d h h1 h2 h3
    obtain ⟨r, b, rfl⟩ : ∃ r b, d = r ++ [b] := by
      rcases List.eq_nil_or_concat d with e | ⟨r, b, e⟩
      · exact absurd e h1
      · exact ⟨r, b, by rw [e, List.concat_eq_append]⟩
    have hb := dig_iff.1 (h3 b (by simp))
    have hbe : UInt8.ofNat (48 + (b.toNat - 48)) = b := by
      rw [show 48 + (b.toNat - 48) = b.toNat by omega]; simp
    rw [valL_snoc]
    by_cases hr : r = []
    · subst hr
      show Go.Lib.decDigits (10 * 0 + (b.toNat - 48)) = [b]
      rw [show 10 * 0 + (b.toNat - 48) = b.toNat - 48 by omega, Go.Lib.decDigits_one (by omega), hbe]
    · have hlr : r.length = n := by simp at h; exact h
      have hrpos : 0 < r.length := List.length_pos_iff.2 hr
      have hhd : r.headD 0 ≠ 48 := by
        rcases h2 with h2 | h2
        · rw [List.length_append] at h2; simp only [List.length_cons, List.length_nil] at h2; omega
        · cases r with
          | nil => exact absurd rfl hr
          | cons a r => exact h2
      have i1 := ih r hlr hr (.inr hhd) fun x hx => h3 x (by simp [hx])
      have hpos : 1 ≤ valL r := by
        rcases Nat.eq_zero_or_pos (valL r) with h0 | h0
        · rw [h0, Go.Lib.decDigits_one (by omega)] at i1
          rw [← i1] at hhd
          exact absurd (by decide) hhd
        · exact h0
      rw [decD_step (by omega), show (10 * valL r + (b.toNat - 48)) / 10 = valL r by omega, show (10 * valL r + (b.toNat - 48)) % 10 = b.toNat - 48 by omega, i1, hbe]
theorem decFrom_dig : ∀ (l : List UInt8) (acc : Nat), (∀ b ∈ l, dig b = true) → Go.Lib.decFrom acc l = some (l.foldl (fun n b => 10 * n + (b.toNat - 48)) acc)
  | [], acc, _ => rfl
  | b :: r, acc, h => by
    have hb := dig_iff.1 (h b (by simp))
    unfold Go.Lib.decFrom
    unfold Go.Lib.digitVal
    rw [if_pos ⟨hb.1, hb.2⟩]
    simp only [List.foldl_cons]
    rw [decFrom_dig r _ fun x hx => h x (by simp [hx]), Nat.mul_comm acc 10]
theorem Can.nat {d : List UInt8} (h : Can d) : Go.Lib.decNat d = some (valL d) := by
  unfold Go.Lib.decNat
  rw [if_neg (by have := h.ne; simpa using this), decFrom_dig d 0 h.dg]; rfl
def Form (w : List UInt8) (z : Int) : Prop := (Can w ∧ z = (valL w : Nat)) ∨ ∃ d, w = 45 :: d ∧ Can d ∧ 1 ≤ valL d ∧ z = -((valL d : Nat) : Int)
theorem Can.head {d : List UInt8} (h : Can d) : ∃ c r, d = c :: r ∧ c ≠ 45 ∧ c ≠ 43 := by
  cases d with
  | nil => exact absurd rfl h.ne
  | cons c r =>
    have hc := dig_iff.1 (h.dg c (by simp))
    refine ⟨c, r, rfl, ?_, ?_⟩ <;> rintro rfl <;> revert hc <;> decide
theorem Can.num {d : List UInt8} (h : Can d) : numR1 d = (((valL d : Nat) : Int), true) := by
  unfold numR1
  have h1 : (d.isEmpty || (decide (d.length > 9) || (decide (d.length > 1) && d.headD 0 == 48))) = false := by
    have := h.ne
    have := h.le
    have e1 : d.isEmpty = false := by simpa using h.ne
    rw [e1, decide_eq_false (by omega)]
    rcases h.hd with hh | hh
    · rw [decide_eq_false (by omega)]; rfl
    · have : (d.headD 0 == 48) = false := by rw [beq_eq_false_iff_ne]; exact hh
      rw [this]; simp
  rw [h1, List.all_eq_true.2 h.dg]; rfl
theorem num_can {d : List UInt8} (h : (numR1 d).2 = true) : Can d := by
  unfold numR1 at h
  cases h1 : (d.isEmpty || (decide (d.length > 9) || (decide (d.length > 1) && d.headD 0 == 48))) with
  | true => rw [h1] at h; cases h
  | false =>
    rw [h1, cond_false] at h
    simp only [Bool.or_eq_false_iff, Bool.and_eq_false_iff, decide_eq_false_iff_not, beq_eq_false_iff_ne] at h1
    cases h2 : d.all dig with
    | false => rw [h2] at h; cases h
    | true =>
      refine ⟨by have := h1.1; simpa using this, by omega, ?_, List.all_eq_true.1 h2⟩
      rcases h1.2.2 with h3 | h3
      · exact .inl (by omega)
      · exact .inr h3
theorem Form.num {w : List UInt8} {z : Int} (h : Form w z) : numR w = (z, true) := by
  have key : ∀ d, Can d → numR d = (((valL d : Nat) : Int), true) := fun d hd => by
    obtain ⟨c, r, rfl, h1, _⟩ := hd.head
    have : (c == 45) = false := by simpa using h1
    unfold numR
    rw [this, cond_false]; exact hd.num
  rcases h with ⟨h, rfl⟩ | ⟨d, rfl, h, h1, rfl⟩
  · exact key w h
  · show (bif (45 : UInt8) == 45 then _ else _) = _
    rw [show ((45 : UInt8) == 45) = true from rfl, cond_true, key d h]
    simp only [Bool.true_and]
    rw [decide_eq_true (by omega)]
theorem num_form : ∀ {w : List UInt8}, (numR w).2 = true → ∃ z, Form w z
  | [], h => by cases h
  | c :: r, h => by
    unfold numR at h
    cases hc : (c == 45) with
    | false => rw [hc, cond_false] at h; exact ⟨_, .inl ⟨num_can h, rfl⟩⟩
    | true =>
      rw [hc, cond_true] at h
      have hc : c = 45 := by simpa using hc
      subst hc
      simp only [Bool.and_eq_true, decide_eq_true_eq] at h
      obtain ⟨z, hz⟩ := num_form h.1
      rw [hz.num] at h
      rcases hz with ⟨hz, rfl⟩ | ⟨d, rfl, hd, h1, rfl⟩
      · exact ⟨_, .inr ⟨r, rfl, hz, by have := h.2; simp only at this; omega, rfl⟩⟩
      · have := h.2; simp only at this; omega
theorem trim_no {d : List UInt8} (h : Can d) : Go.Lib.trimPrefix d [45] = d := by
  obtain ⟨c, r, rfl, h1, _⟩ := h.head
  unfold Go.Lib.trimPrefix Go.Lib.hasPrefix
  have : ([45] : List UInt8).isPrefixOf (c :: r) = false := by simp [List.isPrefixOf, Ne.symm h1]
  simp [this, h1, Ne.symm h1]
theorem trim_yes (d : List UInt8) : Go.Lib.trimPrefix (45 :: d) [45] = d := by
  unfold Go.Lib.trimPrefix Go.Lib.hasPrefix
  simp [List.isPrefixOf]
theorem Form.good {w : List UInt8} {z : Int} (h : Form w z) : goodW w = true ∧ atoiN w = z := by
  have key : Go.Lib.atoiAll w = .ok z ∧ Go.Lib.itoa z = w ∧ (Go.Lib.trimPrefix w [45]).length ≤ 9 := by
    rcases h with ⟨h, rfl⟩ | ⟨d, rfl, h, h1, rfl⟩
    · refine ⟨?_, by rw [Go.Lib.itoa_nonneg, dec_val _ w rfl h.ne h.hd h.dg], by rw [trim_no h]; exact h.le⟩
      rw [Go.Lib.atoiAll_short w (by have := h.le; omega)]
      obtain ⟨c, r, rfl, h2, h3⟩ := h.head
      simp only [Go.Lib.atoi]
      rw [if_neg (by simpa using h2), if_neg (by simpa using h3), h.nat]; rfl
    · refine ⟨?_, by rw [Go.Lib.itoa_neg _ h1, dec_val _ d rfl h.ne h.hd h.dg], by rw [trim_yes]; exact h.le⟩
      rw [Go.Lib.atoiAll_short _ (by have := h.le; simp; omega)]
      simp only [Go.Lib.atoi]
      rw [if_pos (by rfl), h.nat]; rfl
  obtain ⟨k1, k2, k3⟩ := key
  have e : atoiN w = z := by unfold atoiN; rw [k1]
  refine ⟨?_, e⟩
  unfold goodW
  have eb : atoiB w = true := by unfold atoiB; rw [k1]
  rw [e, eb, decide_eq_true k2, decide_eq_true k3]; rfl
theorem dec_can {n : Nat} (h : (Go.Lib.decDigits n).length ≤ 9) : Can (Go.Lib.decDigits n) := by
  obtain ⟨i1, i2, i3, i4⟩ := dec_spec n
  refine ⟨i3, h, ?_, i1⟩
  rcases Nat.eq_zero_or_pos n with h0 | h0
  · subst h0; rw [Go.Lib.decDigits_one (by omega)]; exact .inl (by simp)
  · exact .inr (i4 h0)
theorem good_form {w : List UInt8} (h : goodW w = true) : ∃ z, Form w z := by
  have hi := good_itoa h
  unfold goodW at h
  simp only [Bool.and_eq_true, decide_eq_true_eq] at h
  have h9 := h.2
  obtain ⟨z, hz⟩ : ∃ z, z = atoiN w := ⟨_, rfl⟩
  rw [← hz] at hi
  by_cases h0 : 0 ≤ z
  · obtain ⟨n, rfl⟩ : ∃ n : Nat, z = n := ⟨z.toNat, by omega⟩
    rw [Go.Lib.itoa_nonneg] at hi
    obtain ⟨i1, i2, i3, i4⟩ := dec_spec n
    have hc : Can w := by
      rw [← hi] at h9 ⊢
      refine dec_can ?_
      have ht : Go.Lib.trimPrefix (Go.Lib.decDigits n) [45] = Go.Lib.decDigits n := by
        cases hd : Go.Lib.decDigits n with
        | nil => exact absurd hd i3
        | cons c r =>
          have hdc := dig_iff.1 (i1 c (by rw [hd]; simp))
          have hne : c ≠ 45 := by rintro rfl; revert hdc; decide
          unfold Go.Lib.trimPrefix Go.Lib.hasPrefix
          simp [List.isPrefixOf, hne, Ne.symm hne]
      rw [ht] at h9; exact h9
    exact ⟨_, .inl ⟨hc, rfl⟩⟩
  · obtain ⟨n, rfl⟩ : ∃ n : Nat, z = -((n : Nat) : Int) := ⟨z.natAbs, by omega⟩
    have hn : 1 ≤ n := by omega
    rw [Go.Lib.itoa_neg n hn] at hi
    rw [← hi, trim_yes] at h9
    obtain ⟨i1, i2, i3, i4⟩ := dec_spec n
    exact ⟨_, .inr ⟨_, hi.symm, dec_can h9, by rw [i2]; exact hn, rfl⟩⟩
theorem good_eq (w : List UInt8) : goodW w = (numR w).2 := by
  cases h : (numR w).2 with
  | true => obtain ⟨z, hz⟩ := num_form h; exact hz.good.1
  | false =>
    cases h2 : goodW w with
    | false => rfl
    | true => obtain ⟨z, hz⟩ := good_form h2; rw [hz.num] at h; cases h
theorem num_eq {w : List UInt8} (h : goodW w = true) : atoiN w = (numR w).1 := by
  obtain ⟨z, hz⟩ := good_form h
  rw [hz.num, hz.good.2]
end Go.Proofs.YtfoenhiohhmnlaaGreatDoor.Ix

namespace Go.Proofs.YtfoenhiohhmnlaaGreatDoor.Ix
open Go.Proofs
set_option maxRecDepth 100000
set_option linter.unusedVariables false
set_option linter.unusedSimpArgs false
variable {gl : Nat → IV}
theorem c_checkRing (up : List Ces) (b : Bl) (f : Fl) (ring : Int) : Cs gl n_rotor_checkRing up [b.iv, f.iv, .int .i64 ring] (.int .i64 (ringErr b f ring)) up := by
  refine mk h_rotor_checkRing rfl rfl ?_
  conv => whnf
  refine .mk 16 (by kernel_rfl) ?_
  conv => whnf
  first | refine CALLQ.mk _ _ _ (leL_refl _) (c_CheckBlade _ _ _ _ _ _ _ _ _ _) rfl ?_ | refine CALL0.mk _ _ _ _ _ (leL_refl _) (c_CheckBlade _ _ _ _ _ _ _ _ _ _) rfl ?_
  conv => whnf
  first | refine CALLQ.mk _ _ _ (leL_refl _) (c_CheckFlow' _ _ _ _) rfl ?_ | refine CALL0.mk _ _ _ _ _ (leL_refl _) (c_CheckFlow' _ _ _ _) rfl ?_
  conv => whnf
  split
  · rename_i h
    have h' : decide (ring < 0) = true := h
    conv => whnf
    first | refine CALLQ.mk _ _ _ (leL_refl _) (c_when _ _ _) rfl ?_ | refine CALL0.mk _ _ _ _ _ (leL_refl _) (c_when _ _ _) rfl ?_
    conv => whnf
    first | refine CALLQ.mk _ _ _ (leL_refl _) (c_f3 _ _ _ _ _ rfl rfl rfl) rfl ?_ | refine CALL0.mk _ _ _ _ _ (leL_refl _) (c_f3 _ _ _ _ _ rfl rfl rfl) rfl ?_
    conv => whnf
    refine ⟨?_, rfl⟩
    unfold ringErr
    rw [h', Bool.true_or]; rfl
  · rename_i h
    have h' : decide (ring < 0) = false := h
    conv => whnf
    first | refine CALLQ.mk _ _ _ (leL_refl _) (c_when _ _ _) rfl ?_ | refine CALL0.mk _ _ _ _ _ (leL_refl _) (c_when _ _ _) rfl ?_
    conv => whnf
    first | refine CALLQ.mk _ _ _ (leL_refl _) (c_f3 _ _ _ _ _ rfl rfl rfl) rfl ?_ | refine CALL0.mk _ _ _ _ _ (leL_refl _) (c_f3 _ _ _ _ _ rfl rfl rfl) rfl ?_
    conv => whnf
    refine ⟨?_, rfl⟩
    unfold ringErr
    rw [h', Bool.false_or]; rfl
theorem c_IndCheck (up : List Ces) (a d : Int) : Cs gl n_rotor_Induction_check up [.agg [.int .i64 a, .int .i64 d]] (.int .i64 (indErr a d)) up := by
  refine mk h_rotor_Induction_check rfl rfl ?_
  conv => whnf
  refine .mk _ _ _ _ _ (leL_refl _) (c_checkDepth _ _) rfl ?_
  conv => whnf
  split
  · rename_i h
    have h' : (withinS d 1 12 != 0) = true := h
    conv => whnf
    refine ⟨?_, rfl⟩
    unfold indErr
    rw [orE_pos h']
  · rename_i h
    have h' : (withinS d 1 12 != 0) = false := h
    have h0 : withinS d 1 12 = 0 := by simpa using h'
    rw [withinS_zero] at h0
    have e1 : w64 (d - 1) = ((d - 1).toNat : Int) := by rw [w64, wrap_in] <;> omega
    have e2 : halfW d = 2 ^ (d - 1).toNat := by
      have := halfW_eq (d := d.toNat) (by omega) (by omega)
      rw [show ((d.toNat : Nat) : Int) = d by omega] at this
      rw [this]; congr 1; omega
    conv => whnf
    refine .mk 7 (by kernel_rfl) ?_
    conv => whnf
    split
    rotate_left
    · rename_i h
      have h' : decide (0 ≤ w64 (d - 1)) = false := h
      simp at h' <;> omega
    conv => whnf
    first | refine CALLQ.mk _ _ _ (leL_refl _) (c_within _ _ _ _) rfl ?_ | refine CALL0.mk _ _ _ _ _ (leL_refl _) (c_within _ _ _ _) rfl ?_
    conv => whnf
    refine ⟨?_, rfl⟩
    show IV.int .i64 (withinS a 0 (halfW d)) = _
    unfold indErr
    rw [orE_neg h', e2]
theorem c_checkAll (up : List Ces) (b : Bl) (f : Fl) (d : Int) : Cs gl n_rotor_checkAll up [b.iv, f.iv, .int .i64 d] (.int .i64 (allErr b f d)) up := by
  refine mk h_rotor_checkAll rfl rfl ?_
  conv => whnf
  refine .mk 8 (by kernel_rfl) ?_
  conv => whnf
  first | refine CALLQ.mk _ _ _ (leL_refl _) (c_CheckBlade _ _ _ _ _ _ _ _ _ _) rfl ?_ | refine CALL0.mk _ _ _ _ _ (leL_refl _) (c_CheckBlade _ _ _ _ _ _ _ _ _ _) rfl ?_
  conv => whnf
  first | refine CALLQ.mk _ _ _ (leL_refl _) (c_CheckFlow' _ _ _ _) rfl ?_ | refine CALL0.mk _ _ _ _ _ (leL_refl _) (c_CheckFlow' _ _ _ _) rfl ?_
  conv => whnf
  first | refine CALLQ.mk _ _ _ (leL_refl _) (c_checkDepth _ _) rfl ?_ | refine CALL0.mk _ _ _ _ _ (leL_refl _) (c_checkDepth _ _) rfl ?_
  conv => whnf
  first | refine CALLQ.mk _ _ _ (leL_refl _) (c_f3 _ _ _ _ _ rfl rfl rfl) rfl ?_ | refine CALL0.mk _ _ _ _ _ (leL_refl _) (c_f3 _ _ _ _ _ rfl rfl rfl) rfl ?_
  conv => whnf
  exact ⟨rfl, rfl⟩
abbrev secAt (b : Bl) (f : Fl) (i : Nat) : IV := secI b.nl b.nd b.lf b.df (b.r1 i) (b.r2 i) (b.r3 i) (b.r4 i) f.w f.s f.p
theorem c_balP (up : List Ces) (b : Bl) (f : Fl) (i : Nat) (h : b.ok f i) (a : Int) (d : Nat) (hd : d ≤ 12) (h0 : 0 ≤ a) (h1 : a ≤ 2 ^ d) :
    Cs gl n_rotor_section_balance up [secAt b f i, .agg [.int .i64 a, .int .i64 d]] (.int .i64 (b.bal f i a d)) up := by
  have o := balOK h hd h0 h1
  have := c_balance (gl := gl) up b.nl b.nd b.lf b.df (b.r1 i) (b.r2 i) (b.r3 i) (b.r4 i) f.w f.s f.p a d o.d0 o.den o.lo o.hi
  rw [balanceW_eq h hd h0 h1] at this
  exact this
theorem c_Balance (up : List Ces) (b : Bl) (f : Fl) (ring a d : Int) : Cs gl n_rotor_Balance up [b.iv, f.iv, .int .i64 ring, .agg [.int .i64 a, .int .i64 d]] (balR b f ring a d) up := by
  refine mk h_rotor_Balance rfl rfl ?_
  unfold balR
  simp only
  conv => whnf
  refine .mk 8 (by kernel_rfl) ?_
  conv => whnf
  first | refine CALLQ.mk _ _ _ (leL_refl _) (c_checkRing _ b f _) rfl ?_ | refine CALL0.mk _ _ _ _ _ (leL_refl _) (c_checkRing _ b f _) rfl ?_
  conv => whnf
  first | refine CALLQ.mk _ _ _ (leL_refl _) (c_IndCheck _ _ _) rfl ?_ | refine CALL0.mk _ _ _ _ _ (leL_refl _) (c_IndCheck _ _ _) rfl ?_
  conv => whnf
  first | refine CALLQ.mk _ _ _ (leL_refl _) (c_f2 _ _ _ _ rfl rfl) rfl ?_ | refine CALL0.mk _ _ _ _ _ (leL_refl _) (c_f2 _ _ _ _ rfl rfl) rfl ?_
  conv => whnf
  split
  · rename_i h
    have h' : (orE (ringErr b f ring) (indErr a d) != 0) = true := h
    conv => whnf
    refine ⟨?_, rfl⟩
    rw [h']; rfl
  · rename_i h
    have h' : (orE (ringErr b f ring) (indErr a d) != 0) = false := h
    have h0 : orE (ringErr b f ring) (indErr a d) = 0 := by simpa using h'
    rw [h']
    have hz := h0
    rw [orE_zero] at h0
    obtain ⟨g1, g2, g3, g4⟩ := ringErr_ok h0.1
    obtain ⟨n, rfl, k2, k3, k4⟩ := indErr_ok h0.2
    obtain ⟨_, _, _, ok⟩ := Bl.good g1 g2
    have hp := Int.pow_succ (2 : Int) n
    have hq := two_pos n
    conv => whnf
    refine .mk 12 (by kernel_rfl) ?_
    conv => whnf
    split
    rotate_left
    · rename_i h
      have h' : decide (0 ≤ ring) = false := h
      simp at h' <;> omega
    conv => whnf
    split
    rotate_left
    · rename_i h
      have h' : decide (ring < b.nr) = false := h
      simp at h' <;> omega
    conv => whnf
    first | refine CALLQ.mk _ _ _ (leL_refl _) (c_balP _ b f ring.toNat (ok _ (by omega)) a (n + 1) (by omega) k3 (by omega)) rfl ?_ | refine CALL0.mk _ _ _ _ _ (leL_refl _) (c_balP _ b f ring.toNat (ok _ (by omega)) a (n + 1) (by omega) k3 (by omega)) rfl ?_
    conv => whnf
    refine ⟨?_, rfl⟩
    rw [hz]; rfl
theorem findS_congr {f g : Int → Int} {half : Int} (h0 : 0 ≤ half) (h : ∀ a, 0 ≤ a → a ≤ half → f a = g a) : findS f half = findS g half := by
  unfold findS
  rw [h half h0 (Int.le_refl _), searchS_congr _ _ _ h]
def findI (o : Option Int) (d : Int) : IV := match o with
  | none => .tup [.agg [.int .i64 0, .int .i64 0], .bool false]
  | some a => .tup [.agg [.int .i64 a, .int .i64 d], .bool true]
theorem c_findP (up : List Ces) (b : Bl) (f : Fl) (i : Nat) (h : b.ok f i) (d : Nat) (hd : d < 12) :
    Cs gl n_rotor_section_find up [secAt b f i, .int .i64 ((d + 1 : Nat) : Int)] (findI (b.br f i d) ((d + 1 : Nat) : Int)) up := by
  have hh : halfW ((d + 1 : Nat) : Int) = 2 ^ d := halfW_eq (d := d + 1) (by omega) (by omega)
  have hp := two_pos d
  have hl := pow_le12 (d := d) (by omega)
  have hs := Int.pow_succ (2 : Int) d
  refine c_find (gl := gl) up b.nl b.nd b.lf b.df (b.r1 i) (b.r2 i) (b.r3 i) (b.r4 i) f.w f.s f.p _ (2 ^ d) ?_ hh ⟨by omega, by omega⟩ (fun a h1 h2 => balOK h (by omega) h1 (by omega)) _ ?_
  · rw [w64, wrap_in] <;> omega
  · have e : findS (fun a => balanceW b.nl b.lf (b.r1 i) (b.r2 i) (b.r3 i) (b.r4 i) f.w f.s f.p a ((d + 1 : Nat) : Int)) (2 ^ d) = b.br f i d := by
      unfold Bl.br brP
      exact findS_congr (by omega) fun a h1 h2 => balanceW_eq h (by omega) h1 (by omega)
    rw [e]
    unfold findI
    cases b.br f i d <;> rfl
theorem c_Find (up : List Ces) (b : Bl) (f : Fl) (ring d : Int) : Cs gl n_rotor_Find up [b.iv, f.iv, .int .i64 ring, .int .i64 d] (findR b f ring d) up := by
  refine mk h_rotor_Find rfl rfl ?_
  unfold findR
  simp only
  conv => whnf
  refine .mk _ _ _ _ _ (leL_refl _) (c_checkRing _ b f _) rfl ?_
  conv => whnf
  refine .mk _ _ _ _ _ (leL_refl _) (c_checkDepth _ _) rfl ?_
  conv => whnf
  refine .mk _ _ _ _ _ (leL_refl _) (c_f2 _ _ _ _ rfl rfl) rfl ?_
  conv => whnf
  split
  · rename_i h
    have h' : (orE (ringErr b f ring) (withinS d 1 12) != 0) = true := h
    conv => whnf
    refine ⟨?_, rfl⟩
    rw [h']; rfl
  · rename_i h
    have h' : (orE (ringErr b f ring) (withinS d 1 12) != 0) = false := h
    have h0 : orE (ringErr b f ring) (withinS d 1 12) = 0 := by simpa using h'
    rw [h', cond_false]
    rw [orE_zero, withinS_zero] at h0
    obtain ⟨g1, g2, g3, g4⟩ := ringErr_ok h0.1
    obtain ⟨_, _, _, ok⟩ := Bl.good g1 g2
    obtain ⟨n, rfl⟩ : ∃ n : Nat, d = ((n + 1 : Nat) : Int) := ⟨(d - 1).toNat, by omega⟩
    rw [show (((n + 1 : Nat) : Int) - 1).toNat = n by omega]
    have hf := fun up => c_findP (gl := gl) up b f ring.toNat (ok _ (by omega)) n (by omega)
    conv => whnf
    refine .mk 16 (by kernel_rfl) ?_
    conv => whnf
    split
    rotate_left
    · rename_i h
      have h' : decide (0 ≤ ring) = false := h
      simp at h' <;> omega
    conv => whnf
    split
    rotate_left
    · rename_i h
      have h' : decide (ring < b.nr) = false := h
      simp at h' <;> omega
    conv => whnf
    generalize b.br f ring.toNat n = o at hf ⊢
    cases o with
    | none =>
      first | refine CALLQ.mk _ _ _ (leL_refl _) (hf _) rfl ?_ | refine CALL0.mk _ _ _ _ _ (leL_refl _) (hf _) rfl ?_
      conv => whnf
      refine .mk 4 (by kernel_rfl) ?_
      conv => whnf
      first | refine CALLQ.mk _ _ _ (leL_refl _) (c_when _ _ _) rfl ?_ | refine CALL0.mk _ _ _ _ _ (leL_refl _) (c_when _ _ _) rfl ?_
      conv => whnf
      exact ⟨rfl, rfl⟩
    | some a =>
      first | refine CALLQ.mk _ _ _ (leL_refl _) (hf _) rfl ?_ | refine CALL0.mk _ _ _ _ _ (leL_refl _) (hf _) rfl ?_
      conv => whnf
      refine .mk 4 (by kernel_rfl) ?_
      conv => whnf
      first | refine CALLQ.mk _ _ _ (leL_refl _) (c_when _ _ _) rfl ?_ | refine CALL0.mk _ _ _ _ _ (leL_refl _) (c_when _ _ _) rfl ?_
      conv => whnf
      exact ⟨rfl, rfl⟩
end Go.Proofs.YtfoenhiohhmnlaaGreatDoor.Ix

namespace Go.Proofs.YtfoenhiohhmnlaaGreatDoor.Ix
open Go.Proofs
set_option maxRecDepth 100000
set_option linter.unusedVariables false
set_option linter.unusedSimpArgs false
variable {gl : Nat → IV}
def Bl.infl (b : Bl) (f : Fl) (i : Nat) (a : Int) (d : Nat) : Int := inflP (b.r1 i) f.w f.s a d
def Bl.of (b : Bl) (f : Fl) (i : Nat) (x : Int) : Int := ofP b.nl b.lf b.df (b.r1 i) (b.r2 i) (b.r3 i) (b.r4 i) f.p x
def Bl.stp (b : Bl) (f : Fl) (i : Nat) (a : Int) (d : Nat) (k : Nat) : Int × Int := stepsP b.nl b.lf b.df (b.r1 i) (b.r2 i) (b.r3 i) (b.r4 i) f.p (b.infl f i (a + 1) d) (b.infl f i a d) k
theorem c_inflP (up : List Ces) (b : Bl) (f : Fl) (i : Nat) (h : b.ok f i) (a a' : Int) (d : Nat) (hd : d ≤ 12) (h0 : 0 ≤ a) (h1 : a ≤ 2 ^ d) (e : a' = a) :
    Cs gl n_rotor_section_inflow up [secAt b f i, .agg [.int .i64 a', .int .i64 d]] (.int .i64 (b.infl f i a d)) up := by
  subst e
  have o := balOK h hd h0 h1
  have := c_inflow (gl := gl) up b.nl b.nd b.lf b.df (b.r1 i) (b.r2 i) (b.r3 i) (b.r4 i) f.w f.s f.p a' d o.d0 o.den
  rw [inflowW_eq h hd h0 h1] at this
  exact this
abbrev secC (b : Bl) (f : Fl) (i : Nat) : List IV := secL b.nl b.nd b.lf b.df (b.r1 i) (b.r2 i) (b.r3 i) (b.r4 i) f.w f.s f.p
theorem c_ofP (ce : Ces) (up : List Ces) (k : Nat) (b : Bl) (f : Fl) (i : Nat) (h : b.ok f i) (hn : b.nd = b.nl) (x x' : Int) (e' : x' = x) (h1 : -100000 ≤ x) (h2 : x ≤ 100000) (hc : lookC ce k = some (secC b f i)) :
    Cs gl n_rotor_section_torque_1 (ce :: up) [.int .i64 x', .ptr 1 k 0] (.int .i64 (b.of f i x)) (ce :: up) := by
  subst e'
  have hcl := clsP_lo h x'
  have e := classW_eq h (x := x') (by omega) (by omega)
  have := c_torque1 (gl := gl) ce up k b.nl b.nd b.lf b.df (b.r1 i) (b.r2 i) (b.r3 i) (b.r4 i) f.w f.s f.p x' (by rw [e]; exact hcl.1) (by rw [e]; exact hcl.2) (by rw [e, hn]; exact hcl.2) hc
  rw [(ofP_bound h h1 h2).2.2] at this
  exact this
theorem infl_rng {b : Bl} {f : Fl} {i : Nat} (h : b.ok f i) {a : Int} {d : Nat} (h0 : 0 ≤ a) (h1 : a ≤ 2 ^ d) : 0 ≤ b.infl f i a d ∧ b.infl f i a d ≤ 51200 := ⟨inflP_nonneg h h1, inflP_le h h0⟩
theorem c_torque (up : List Ces) (b : Bl) (f : Fl) (i : Nat) (h : b.ok f i) (hn : b.nd = b.nl) (a : Int) (d : Nat) (hd : d ≤ 12) (h0 : 0 ≤ a) (h1 : a + 1 ≤ 2 ^ d) :
    Cs gl n_rotor_section_torque up [secAt b f i, .agg [.int .i64 a, .int .i64 d]] (.agg [.int .i64 (b.tor f i a d).1, .int .i64 (b.tor f i a d).2]) up := by
  refine mk h_rotor_section_torque rfl rfl ?_
  have hp := two_pos d
  have hl := pow_le12 hd
  have hn1 := h.n1
  have ht := h.t
  have hpp := h.p
  have e1 : w64 (a + 1) = a + 1 := by rw [w64, wrap_in] <;> omega
  have r1 := infl_rng h (d := d) (a := a + 1) (by omega) h1
  have r2 := infl_rng h (d := d) (a := a) h0 (by omega)
  conv => whnf
  refine .mk 7 (by kernel_rfl) ?_
  conv => whnf
  first | refine CALLQ.mk _ _ _ (leL_refl _) (c_next _ _ _) rfl ?_ | refine CALL0.mk _ _ _ _ _ (leL_refl _) (c_next _ _ _) rfl ?_
  conv => whnf
  first | refine CALLQ.mk _ _ _ (leL_refl _) (c_inflP _ b f i h (a + 1) _ d hd (by omega) h1 e1) rfl ?_ | refine CALL0.mk _ _ _ _ _ (leL_refl _) (c_inflP _ b f i h (a + 1) _ d hd (by omega) h1 e1) rfl ?_
  conv => whnf
  first | refine CALLQ.mk _ _ _ (leL_refl _) (c_inflP _ b f i h a _ d hd h0 (by omega) rfl) rfl ?_ | refine CALL0.mk _ _ _ _ _ (leL_refl _) (c_inflP _ b f i h a _ d hd h0 (by omega) rfl) rfl ?_
  conv => whnf
  refine .mk _ _ _ _ _ (leL_refl _) (c_ofP _ _ 2 b f i h hn _ _ rfl (by omega) (by omega) rfl) rfl ?_
  conv => whnf
  refine .mk _ _ _ _ _ (leL_refl _) (c_ofP _ _ 2 b f i h hn _ _ rfl (by omega) (by omega) rfl) rfl ?_
  conv => whnf
  refine .mk _ _ _ _ _ (leL_refl _) (c_ofP _ _ 2 b f i h hn _ _ rfl (by omega) (by omega) rfl) rfl ?_
  conv => whnf
  refine .mk _ _ _ _ _ (leL_refl _) (c_ofP _ _ 2 b f i h hn _ _ rfl (by omega) (by omega) rfl) rfl ?_
  conv => whnf
  have emin : (if b.of f i (b.infl f i a d) < b.of f i (b.infl f i (a + 1) d) then b.of f i (b.infl f i a d) else b.of f i (b.infl f i (a + 1) d)) = (b.stp f i a d 0).1 := by
    show _ = min (b.of f i (b.infl f i (a + 1) d)) (b.of f i (b.infl f i a d))
    omega
  have emax : (if b.of f i (b.infl f i a d) > b.of f i (b.infl f i (a + 1) d) then b.of f i (b.infl f i a d) else b.of f i (b.infl f i (a + 1) d)) = (b.stp f i a d 0).2 := by
    show _ = max (b.of f i (b.infl f i (a + 1) d)) (b.of f i (b.infl f i a d))
    omega
  have en : w64 ((b.nl : Int) + 2) = ((b.nl + 2 : Nat) : Int) := by rw [w64, wrap_in] <;> omega
  refine .mk (α := {k : Nat // k ≤ b.nl + 2}) (fun k => ⟨[(39, .int .i64 k.1), (38, .int .i64 ((b.nl + 2 : Nat) : Int)), (5, .int .i64 (b.infl f i (a + 1) d)), (6, .int .i64 (b.infl f i a d)), (7, .fn n_rotor_section_torque_1 [] [.ptr 0 2 0]), (2, .ptr 0 2 0), (4, .ptr 0 4 0), (8, .ptr 0 8 0)],
      [(8, [.int .i64 (b.stp f i a d k.1).1, .int .i64 (b.stp f i a d k.1).2]), (4, [.int .i64 0, .int .i64 0]), (2, secC b f i)], up⟩) (fun k => b.nl + 2 - k.1) ⟨0, Nat.zero_le _⟩ ⟨?_, ?_, rfl, rfl⟩ ?_
  · exact ⟨leV_refl _, leV_int en, leV_refl _, leV_refl _, leV_refl _, leV_refl _, leV_refl _, leV_refl _, trivial⟩
  · exact ⟨⟨leV_int emin, leV_int emax, trivial⟩, leL_refl _, leL_refl _, trivial⟩
  · rintro ⟨k, hk⟩
    have ej : w64 (w64 (w64 (b.r3 i + f.p) + k) - 1) = b.r3 i + f.p + k - 1 := by
      have q1 : w64 (b.r3 i + f.p) = b.r3 i + f.p := by rw [w64, wrap_in] <;> omega
      rw [q1]
      have q2 : w64 (b.r3 i + f.p + k) = b.r3 i + f.p + k := by rw [w64, wrap_in] <;> omega
      rw [q2, w64, wrap_in] <;> omega
    have hw : w64 ((k : Int) + 1) = ((k + 1 : Nat) : Int) := by rw [w64, wrap_in] <;> omega
    conv => whnf
    split
    · rename_i hb
      have hlt : k < b.nl + 2 := by
        have hb' : decide ((k : Int) < ((b.nl + 2 : Nat) : Int)) = true := hb
        simp at hb'; omega
      conv => whnf
      refine .mk _ _ _ _ _ (leL_refl _) (c_shift _ _ _ _ _ _ _ _ _ _ _ _) rfl ?_
      conv => whnf
      split
      · rename_i g1
        have g1 : decide (w64 (w64 (w64 (b.r3 i + f.p) + k) - 1) > b.infl f i (a + 1) d) = true := g1
        rw [ej] at g1
        conv => whnf
        split
        · rename_i g2
          have g2 : decide (w64 (w64 (w64 (b.r3 i + f.p) + k) - 1) < b.infl f i a d) = true := g2
          rw [ej] at g2
          simp at g1 g2
          have hs : b.stp f i a d (k + 1) = (min (b.stp f i a d k).1 (b.of f i (b.r3 i + f.p + k - 1)), max (b.stp f i a d k).2 (b.of f i (b.r3 i + f.p + k - 1))) := by
            show (if _ then _ else _) = _
            rw [if_pos ⟨g1, g2⟩]; rfl
          conv => whnf
          refine .mk 13 (by kernel_rfl) ?_
          conv => whnf
          first | refine CALLQ.mk _ _ _ (leL_refl _) (c_ofP _ _ 2 b f i h hn _ _ ej (by omega) (by omega) rfl) rfl ?_ | refine CALL0.mk _ _ _ _ _ (leL_refl _) (c_ofP _ _ 2 b f i h hn _ _ ej (by omega) (by omega) rfl) rfl ?_
          conv => whnf
          first | refine CALLQ.mk _ _ _ (leL_refl _) (c_ofP _ _ 2 b f i h hn _ _ ej (by omega) (by omega) rfl) rfl ?_ | refine CALL0.mk _ _ _ _ _ (leL_refl _) (c_ofP _ _ 2 b f i h hn _ _ ej (by omega) (by omega) rfl) rfl ?_
          conv => whnf
          refine ⟨⟨k + 1, hlt⟩, ⟨⟨leV_int hw, leV_refl _, leV_refl _, leV_refl _, leV_refl _, leV_refl _, leV_refl _, leV_refl _, trivial⟩, ⟨⟨leV_int ?_, leV_int ?_, trivial⟩, leL_refl _, leL_refl _, trivial⟩, rfl, rfl⟩, ?_⟩
          · show (if b.of f i (b.r3 i + f.p + k - 1) < (b.stp f i a d k).1 then b.of f i (b.r3 i + f.p + k - 1) else (b.stp f i a d k).1) = _
            rw [hs]; simp only; omega
          · show (if b.of f i (b.r3 i + f.p + k - 1) > (b.stp f i a d k).2 then b.of f i (b.r3 i + f.p + k - 1) else (b.stp f i a d k).2) = _
            rw [hs]; simp only; omega
          · show b.nl + 2 - (k + 1) < b.nl + 2 - k
            omega
        · rename_i g2
          have g2 : decide (w64 (w64 (w64 (b.r3 i + f.p) + k) - 1) < b.infl f i a d) = false := g2
          rw [ej] at g2
          simp at g1 g2
          have hs : b.stp f i a d (k + 1) = b.stp f i a d k := by
            show (if _ then _ else _) = _
            exact if_neg fun g => absurd g.2 (Int.not_lt.2 g2)
          conv => whnf
          refine ⟨⟨k + 1, hlt⟩, ⟨⟨leV_int hw, leV_refl _, leV_refl _, leV_refl _, leV_refl _, leV_refl _, leV_refl _, leV_refl _, trivial⟩, ⟨⟨leV_int ?_, leV_int ?_, trivial⟩, leL_refl _, leL_refl _, trivial⟩, rfl, rfl⟩, ?_⟩
          · show (b.stp f i a d k).1 = _
            rw [hs]
          · show (b.stp f i a d k).2 = _
            rw [hs]
          · show b.nl + 2 - (k + 1) < b.nl + 2 - k
            omega
      · rename_i g1
        have g1 : decide (w64 (w64 (w64 (b.r3 i + f.p) + k) - 1) > b.infl f i (a + 1) d) = false := g1
        rw [ej] at g1
        simp at g1
        have hs : b.stp f i a d (k + 1) = b.stp f i a d k := by
          show (if _ then _ else _) = _
          exact if_neg fun g => absurd g.1 (Int.not_lt.2 g1)
        conv => whnf
        refine ⟨⟨k + 1, hlt⟩, ⟨⟨leV_int hw, leV_refl _, leV_refl _, leV_refl _, leV_refl _, leV_refl _, leV_refl _, leV_refl _, trivial⟩, ⟨⟨leV_int ?_, leV_int ?_, trivial⟩, leL_refl _, leL_refl _, trivial⟩, rfl, rfl⟩, ?_⟩
        · show (b.stp f i a d k).1 = _
          rw [hs]
        · show (b.stp f i a d k).2 = _
          rw [hs]
        · show b.nl + 2 - (k + 1) < b.nl + 2 - k
          omega
    · rename_i hb
      have : k = b.nl + 2 := by
        have hb' : decide ((k : Int) < ((b.nl + 2 : Nat) : Int)) = false := hb
        simp at hb'; omega
      subst this
      conv => whnf
      exact ⟨rfl, rfl⟩
theorem c_thrust1 (ce : Ces) (up : List Ces) (k m : Nat) (b : Bl) (f : Fl) (i : Nat) (h : b.ok f i) (a : Int) (d : Nat) (hd : d ≤ 12) (x x' : Int) (e' : x' = x) (h0 : 0 ≤ x) (h1 : x ≤ 2 ^ d)
    (hx : lookC ce k = some [.int .i64 a, .int .i64 d]) (hs : lookC ce m = some (secC b f i)) :
    Cs gl n_rotor_section_thrust_1 (ce :: up) [.int .i64 x', .ptr 1 k 0, .ptr 1 m 0] (.int .i64 (thrustP (b.r1 i) x d)) (ce :: up) := by
  subst e'
  refine mk h_rotor_section_thrust_1 rfl rfl ?_
  have e := (thrustP_bound h hd h0 h1).2.2
  conv => whnf
  refine .mk 12 (by kernel_rfl) ?_
  conv => whnf
  split
  rotate_left
  · rename_i h; exact absurd (hx.symm.trans h) nofun
  rename_i c0 h
  obtain rfl := Option.some.inj (hx.symm.trans h)
  clear h
  conv => whnf
  split
  rotate_left
  · rename_i h; exact absurd (hs.symm.trans h) nofun
  rename_i c0 h
  obtain rfl := Option.some.inj (hs.symm.trans h)
  clear h
  conv => whnf
  refine ⟨?_, rfl⟩
  rw [← e]; rfl
theorem c_thrust (up : List Ces) (b : Bl) (f : Fl) (i : Nat) (h : b.ok f i) (a : Int) (d : Nat) (hd : d ≤ 12) (h0 : 0 ≤ a) (h1 : a + 1 ≤ 2 ^ d) :
    Cs gl n_rotor_section_thrust up [secAt b f i, .agg [.int .i64 a, .int .i64 d]] (.agg [.int .i64 (b.thr i a d).1, .int .i64 (b.thr i a d).2]) up := by
  refine mk h_rotor_section_thrust rfl rfl ?_
  have hp := two_pos d
  have hl := pow_le12 hd
  have e1 : w64 (a + 1) = a + 1 := by rw [w64, wrap_in] <;> omega
  conv => whnf
  refine .mk 10 (by kernel_rfl) ?_
  conv => whnf
  first | refine CALLQ.mk _ _ _ (leL_refl _) (c_thrust1 _ _ 3 2 b f i h a d hd _ _ rfl h0 (by omega) rfl rfl) rfl ?_ | refine CALL0.mk _ _ _ _ _ (leL_refl _) (c_thrust1 _ _ 3 2 b f i h a d hd _ _ rfl h0 (by omega) rfl rfl) rfl ?_
  conv => whnf
  first | refine CALLQ.mk _ _ _ (leL_refl _) (c_thrust1 _ _ 3 2 b f i h a d hd _ _ e1 (by omega) h1 rfl rfl) rfl ?_ | refine CALL0.mk _ _ _ _ _ (leL_refl _) (c_thrust1 _ _ 3 2 b f i h a d hd _ _ e1 (by omega) h1 rfl rfl) rfl ?_
  conv => whnf
  exact ⟨rfl, rfl⟩
end Go.Proofs.YtfoenhiohhmnlaaGreatDoor.Ix

namespace Go.Proofs.YtfoenhiohhmnlaaGreatDoor.Ix
open Go.Proofs
set_option maxRecDepth 100000
set_option linter.unusedVariables false
set_option linter.unusedSimpArgs false
variable {gl : Nat → IV}
theorem sections_ivis (C : Con) (gl : Nat → IV) (n : Nat) (hn : n ≤ 4611686018427387904) (r1 r2 r3 r4 : Nat → Int) (a b c : Int) (nl nd : Nat) (fl2 fd : Nat → List IV) :
    ivis C (Γs gl) f_rotor_sections_1 [.vptr 3 1 (fun _ => [.lst none 1 nl fl2, .lst none 1 nd fd, .lst none 4 n (fun i => [.int .i64 (r1 i), .int .i64 (r2 i), .int .i64 (r3 i), .int .i64 (r4 i)])]) 0 0, .vptr 3 1 (fun _ => [.int .i64 a, .int .i64 b, .int .i64 c]) 0 0] n
     (fun i => [.agg [.lst none 1 nl fl2, .lst none 1 nd fd, .int .i64 (r1 i), .int .i64 (r2 i), .int .i64 (r3 i), .int .i64 (r4 i), .int .i64 a, .int .i64 b, .int .i64 c]]) := by
  conv => whnf
  intro l
  conv => whnf
  refine .mk (α := {i : Nat // i ≤ n}) (fun i => ⟨[(9, .int .i64 i.1), (8, .int .i64 n), (7, .lst none 4 n (fun i => [.int .i64 (r1 i), .int .i64 (r2 i), .int .i64 (r3 i), .int .i64 (r4 i)])), (2, .vptr 3 1 (fun _ => [.int .i64 a, .int .i64 b, .int .i64 c]) 0 0), (1, .vptr 3 1 (fun _ => [.lst none 1 nl fl2, .lst none 1 nd fd, .lst none 4 n (fun i => [.int .i64 (r1 i), .int .i64 (r2 i), .int .i64 (r3 i), .int .i64 (r4 i)])]) 0 0), (0, .lit (.func (.yield l) #[] #[]))], [], List.replicate i.1 []⟩) (fun i => n - i.1) ⟨0, Nat.zero_le _⟩ ⟨?_, trivial, rfl, rfl⟩ ?_
  · exact ⟨leV_refl _, leV_refl _, leV_refl _, leV_refl _, leV_refl _, leV_refl _, trivial⟩
  · rintro ⟨i, hi⟩
    conv => whnf
    split
    · rename_i hb
      conv => whnf
      split
      · have hlt : i < n := by simpa using hb
        conv => whnf
        refine .mk rfl (by simp) (by simpa using hlt) (by simp) rfl ?_
        intro bb
        cases bb
        · conv => whnf
          show n ≤ (List.replicate (n + 1) [] ++ List.replicate i []).length
          simp; omega
        · conv => whnf
          refine ⟨⟨i + 1, hlt⟩, ⟨?_, trivial, rfl, rfl⟩, ?_⟩
          · have hw : IntKind.i64.wrap ((i : Int) + 1) = ((i + 1 : Nat) : Int) := by
              rw [wrap_in] <;> omega
            exact ⟨leV_int hw, leV_refl _, leV_refl _, leV_refl _, leV_refl _, leV_refl _, trivial⟩
          · show n - (i + 1) < n - i
            omega
      · rename_i h2; rw [hb] at h2; cases h2
    · rename_i hb
      conv => whnf
      simp at hb
      show n ≤ (List.replicate i []).length
      simp; omega
theorem v_sections (gl : Nat → IV) (b : Bl) (f : Fl) (hn : b.nr ≤ 16) : Vis prog gl n_rotor_sections_1 [.vptr 3 1 (fun _ => [.lst none 1 b.nl fun i => [.int .i64 (b.lf i)], .lst none 1 b.nd fun i => [.int .i64 (b.df i)], .lst none 4 b.nr fun i => [.int .i64 (b.r1 i), .int .i64 (b.r2 i), .int .i64 (b.r3 i), .int .i64 (b.r4 i)]]) 0 0, .vptr 3 1 (fun _ => [.int .i64 f.w, .int .i64 f.s, .int .i64 f.p]) 0 0] b.nr (fun i => [secAt b f i]) :=
  vis_of_body (Γ := Γs gl) (C := ⟨fun _ _ _ _ _ => False, fun _ _ _ _ => False, fun _ _ _ _ => False, fun _ _ _ _ _ => False⟩) tok0 ⟨fun _ _ _ _ _ h => h.elim, fun _ _ _ _ h => h.elim, fun _ _ _ _ _ h => h.elim⟩ (fun _ _ _ _ _ h => h.elim) h_rotor_sections_1 rfl rfl (by kernel_rfl) (by kernel_rfl) (sections_ivis _ gl b.nr (by omega) _ _ _ _ _ _ _ _ _ _ _)
def sumTo (g : Nat → Int) : Nat → Int
  | 0 => 0
  | n + 1 => sumTo g n + g n
theorem sumTo_bound {g : Nat → Int} {B : Int} : ∀ (n : Nat), (∀ i, i < n → -B ≤ g i ∧ g i ≤ B) → -(n * B) ≤ sumTo g n ∧ sumTo g n ≤ n * B
  | 0, _ => by simp [sumTo]
  | n + 1, h => by
    have h1 := sumTo_bound n fun i hi => h i (by omega)
    have h2 := h n (by omega)
    simp only [sumTo]
    have e : ((n + 1 : Nat) : Int) * B = n * B + B := by rw [Int.natCast_add, Int.add_mul]; simp
    rw [e]; omega
theorem c_sum (up : List Ces) (n : Nat) (hn : n ≤ 16) (g1 g2 : Nat → Int) (h : ∀ i, i < n → (-1000000000000000 ≤ g1 i ∧ g1 i ≤ 1000000000000000) ∧ (-1000000000000000 ≤ g2 i ∧ g2 i ≤ 1000000000000000)) :
    Cs gl n_rotor_sum up [.lst none 2 n fun i => [.int .i64 (g1 i), .int .i64 (g2 i)]] (.agg [.int .i64 (sumTo g1 n), .int .i64 (sumTo g2 n)]) up := by
  refine mk h_rotor_sum rfl rfl ?_
  conv => whnf
  refine .mk (α := {k : Nat // k ≤ n}) (fun k => ⟨[(8, .int .i64 k.1), (7, .int .i64 n), (6, .lst none 2 n fun i => [.int .i64 (g1 i), .int .i64 (g2 i)]), (2, .ptr 0 2 0), (3, .ptr 0 3 0)], [(3, [.int .i64 (sumTo g1 k.1), .int .i64 (sumTo g2 k.1)]), (2, [.int .i64 0, .int .i64 0])], up⟩) (fun k => n - k.1) ⟨0, Nat.zero_le _⟩ ⟨?_, ?_, rfl, rfl⟩ ?_
  · exact ⟨leV_refl _, leV_refl _, leV_refl _, leV_refl _, leV_refl _, trivial⟩
  · exact ⟨leL_refl _, leL_refl _, trivial⟩
  · rintro ⟨k, hk⟩
    conv => whnf
    split
    · rename_i hb
      have hlt : k < n := by simpa using hb
      conv => whnf
      split
      · have b1 := sumTo_bound (g := g1) (B := 1000000000000000) k fun i hi => (h i (by omega)).1
        have b2 := sumTo_bound (g := g2) (B := 1000000000000000) k fun i hi => (h i (by omega)).2
        have b3 := h k hlt
        have e1 : w64 (sumTo g1 k + g1 k) = sumTo g1 (k + 1) := by rw [w64, wrap_in]; rfl; omega; omega
        have e2 : w64 (sumTo g2 k + g2 k) = sumTo g2 (k + 1) := by rw [w64, wrap_in]; rfl; omega; omega
        conv => whnf
        refine ⟨⟨k + 1, hlt⟩, ⟨⟨leV_int ?_, leV_refl _, leV_refl _, leV_refl _, leV_refl _, trivial⟩, ⟨⟨leV_int e1, leV_int e2, trivial⟩, leL_refl _, trivial⟩, rfl, rfl⟩, ?_⟩
        · show w64 ((k : Int) + 1) = ((k + 1 : Nat) : Int)
          rw [w64, wrap_in] <;> omega
        · show n - (k + 1) < n - k
          omega
      · rename_i h2; rw [hb] at h2; cases h2
    · rename_i hb
      have : k = n := by simp at hb; omega
      subst this
      conv => whnf
      exact ⟨rfl, rfl⟩
def allBr (b : Bl) (f : Fl) (d : Nat) : Prop := ∀ i, i < b.nr → (b.br f i d).isSome = true
instance (b : Bl) (f : Fl) (d : Nat) : Decidable (allBr b f d) := by unfold allBr; infer_instance
def eachR (b : Bl) (f : Fl) (d : Nat) (φ : Nat → Int → Int × Int) : IV :=
  if allBr b f d then .tup [.lst (some 32) 2 b.nr fun i => [.int .i64 (φ i ((b.br f i d).getD 0)).1, .int .i64 (φ i ((b.br f i d).getD 0)).2], .int .i64 0]
  else .tup [.nilS, .int .i64 7]
theorem c_each (up : List Ces) (b : Bl) (f : Fl) (d : Nat) (hd : d < 12) (hb : b.err = 0) (hf : f.err = 0) (F : Nat) (φ : Nat → Int → Int × Int)
    (hF : ∀ up i a, i < b.nr → b.br f i d = some a → Cs gl F up [secAt b f i, .agg [.int .i64 a, .int .i64 ((d + 1 : Nat) : Int)]] (.agg [.int .i64 (φ i a).1, .int .i64 (φ i a).2]) up) :
    Cs gl n_rotor_each up [b.iv, f.iv, .int .i64 ((d + 1 : Nat) : Int), .fn F [] []] (eachR b f d φ) up := by
  refine mk h_rotor_each rfl rfl ?_
  obtain ⟨_, hn1, hn2, ok⟩ := Bl.good hb hf
  conv => whnf
  refine .mk _ _ _ _ _ (leL_refl _) (c_sections _ _ _ _ _ _ _ _ _ _ _ _ _) rfl ?_
  conv => whnf
  let L : Nat → List IV := fun i => [.int .i64 (φ i ((b.br f i d).getD 0)).1, .int .i64 (φ i ((b.br f i d).getD 0)).2]
  refine .mk n_rotor_sections_1 _ b.nr (fun i => [secAt b f i]) rfl rfl (v_sections gl b f hn2) (by kernel_rfl) (fun _ _ => rfl)
    (α := {k : Nat // k ≤ b.nr ∧ ∀ j, j < k → (b.br f j d).isSome = true}) (fun k => ⟨[(6, .ptr 0 6 0), (7, .ptr 0 7 0), (8, .ptr 0 8 0), (9, .ptr 0 9 0), (10, .ptr 0 10 0)],
      [(10, [.lst (some 32) 2 k.1 L]), (9, [.int .i64 0]), (8, [.nilS]), (7, [.fn F [] []]), (6, [.int .i64 ((d + 1 : Nat) : Int)])], up⟩) (fun k => k.1) ⟨0, Nat.zero_le _, fun j hj => by omega⟩ ⟨?_, ?_, rfl, rfl⟩ rfl (fun _ => rfl) ?_ ?_
  · exact ⟨leV_refl _, leV_refl _, leV_refl _, leV_refl _, leV_refl _, trivial⟩
  · exact ⟨⟨rfl, trivial⟩, leL_refl _, leL_refl _, leL_refl _, leL_refl _, trivial⟩
  · rintro ⟨k, hk, hs⟩ hlt
    replace hlt : k < b.nr := hlt
    have hfd := fun up => c_findP (gl := gl) up b f k (ok k hlt) d hd
    conv => whnf
    cases hbr : b.br f k d with
    | none =>
      rw [hbr] at hfd
      refine .mk _ _ _ _ _ (leL_refl _) (hfd _) rfl ?_
      conv => whnf
      refine ⟨?_, rfl⟩
      have hno : ¬ allBr b f d := fun h => by have := h k hlt; rw [hbr] at this; cases this
      unfold eachR
      rw [if_neg hno]
    | some a =>
      rw [hbr] at hfd
      refine .mk _ _ _ _ _ (leL_refl _) (hfd _) rfl ?_
      conv => whnf
      refine .mk 6 (by kernel_rfl) ?_
      conv => whnf
      first | refine CALLQ.mk _ _ _ (leL_refl _) (hF _ k a hlt hbr) rfl ?_ | refine CALL0.mk _ _ _ _ _ (leL_refl _) (hF _ k a hlt hbr) rfl ?_
      conv => whnf
      split
      rotate_left
      · rename_i h
        have h' : decide (k + 1 ≤ 1073741824) = false := h
        simp at h' <;> omega
      conv => whnf
      refine ⟨⟨k + 1, hlt, fun j hj => ?_⟩, rfl, ⟨?_, ?_, rfl, rfl⟩⟩
      · by_cases e : j = k
        · rw [e, hbr]; rfl
        · exact hs j (by omega)
      · exact ⟨leV_refl _, leV_refl _, leV_refl _, leV_refl _, leV_refl _, trivial⟩
      · refine ⟨⟨⟨.inr rfl, rfl, rfl, fun j hj => ?_⟩, trivial⟩, leL_refl _, leL_refl _, leL_refl _, leL_refl _, trivial⟩
        show (if j < k then L j else litF 2 [.int .i64 (φ k a).1, .int .i64 (φ k a).2] (j - k)) = L j
        split
        · rfl
        · have : j = k := by have : j < k + 1 := hj; omega
          subst this
          rw [Nat.sub_self]
          show [IV.int .i64 (φ j a).1, .int .i64 (φ j a).2] = [.int .i64 (φ j ((b.br f j d).getD 0)).1, .int .i64 (φ j ((b.br f j d).getD 0)).2]
          rw [hbr]; rfl
  · rintro ⟨k, hk, hs⟩ heq
    have : k = b.nr := heq
    subst this
    conv => whnf
    refine ⟨?_, rfl⟩
    unfold eachR
    rw [if_pos (show allBr b f d from hs)]
theorem br_rng {b : Bl} {f : Fl} {i d : Nat} (h : b.ok f i) {a : Int} (hbr : b.br f i d = some a) : 0 ≤ a ∧ a < 2 ^ d := by
  have := (brP_some h).1 hbr
  exact ⟨this.1, this.2.1⟩
theorem tor_bound {b : Bl} {f : Fl} {i d : Nat} (h : b.ok f i) (hd : d < 12) {a : Int} (hbr : b.br f i d = some a) :
    (-1000000000000000 ≤ (b.tor f i a (d + 1)).1 ∧ (b.tor f i a (d + 1)).1 ≤ 1000000000000000) ∧ (-1000000000000000 ≤ (b.tor f i a (d + 1)).2 ∧ (b.tor f i a (d + 1)).2 ≤ 1000000000000000) := by
  obtain ⟨h0, h1⟩ := br_rng h hbr
  have hs := Int.pow_succ (2 : Int) d
  have hp := two_pos d
  have r1 := infl_rng h (d := d + 1) (a := a + 1) (by omega) (by omega)
  have r2 := infl_rng h (d := d + 1) (a := a) (by omega) (by omega)
  obtain ⟨x, y, x1, x2, y1, y2, e1, e2⟩ := stepsP_in (n := b.nl) (lf := b.lf) (df := b.df) (r := b.r1 i) (c := b.r2 i) (t := b.r3 i) (tip := b.r4 i) (p := f.p) (inflP_mono h (d := d + 1) (show a ≤ a + 1 by omega)) (b.nl + 2)
  have r1 : 0 ≤ inflP (b.r1 i) f.w f.s (a + 1) (d + 1) := r1.1
  have r2 : inflP (b.r1 i) f.w f.s a (d + 1) ≤ 51200 := r2.2
  have q1 := ofP_bound h (x := x) (by omega) (by omega)
  have q2 := ofP_bound h (x := y) (by omega) (by omega)
  show (-1000000000000000 ≤ (stepsP _ _ _ _ _ _ _ _ _ _ _).1 ∧ _) ∧ _
  rw [e1]
  refine ⟨⟨q1.1, ?_⟩, ?_⟩
  · show (stepsP _ _ _ _ _ _ _ _ _ _ _).1 ≤ _
    rw [e1]; exact q1.2.1
  · show _ ≤ (stepsP _ _ _ _ _ _ _ _ _ _ _).2 ∧ (stepsP _ _ _ _ _ _ _ _ _ _ _).2 ≤ _
    rw [e2]; exact ⟨q2.1, q2.2.1⟩
theorem thr_bound {b : Bl} {f : Fl} {i d : Nat} (h : b.ok f i) (hd : d < 12) {a : Int} (hbr : b.br f i d = some a) :
    (-1000000000000000 ≤ (b.thr i a (d + 1)).1 ∧ (b.thr i a (d + 1)).1 ≤ 1000000000000000) ∧ (-1000000000000000 ≤ (b.thr i a (d + 1)).2 ∧ (b.thr i a (d + 1)).2 ≤ 1000000000000000) := by
  obtain ⟨h0, h1⟩ := br_rng h hbr
  have hs := Int.pow_succ (2 : Int) d
  have hp := two_pos d
  have q1 := thrustP_bound h (d := d + 1) (a := a) (by omega) h0 (by omega)
  have q2 := thrustP_bound h (d := d + 1) (a := a + 1) (by omega) (by omega) (by omega)
  refine ⟨⟨?_, q1.2.1⟩, ?_, q2.2.1⟩
  · have := q1.1
    show _ ≤ thrustP _ _ _; omega
  · have := q2.1
    show _ ≤ thrustP _ _ _; omega
def sumR (b : Bl) (f : Fl) (d : Int) (φ : Nat → Int → Nat → Int × Int) : IV :=
  bif allErr b f d != 0 then .tup [.agg [.int .i64 0, .int .i64 0], .int .i64 (allErr b f d)] else
    if allBr b f (d - 1).toNat then .tup [.agg [.int .i64 (sumTo (fun i => (φ i ((b.br f i (d - 1).toNat).getD 0) d.toNat).1) b.nr), .int .i64 (sumTo (fun i => (φ i ((b.br f i (d - 1).toNat).getD 0) d.toNat).2) b.nr)], .int .i64 0]
    else .tup [.agg [.int .i64 0, .int .i64 0], .int .i64 7]
theorem allErr_ok {b : Bl} {f : Fl} {d : Int} (h : allErr b f d = 0) : b.err = 0 ∧ f.err = 0 ∧ ∃ n : Nat, d = ((n + 1 : Nat) : Int) ∧ n < 12 := by
  unfold allErr at h
  simp only [orE_zero, withinS_zero] at h
  exact ⟨h.1, h.2.1, (d - 1).toNat, by omega, by omega⟩
theorem c_sum0 (up : List Ces) : Cs gl n_rotor_sum up [.nilS] (.agg [.int .i64 0, .int .i64 0]) up := by
  have := c_sum (gl := gl) up 0 (by omega) (fun _ => 0) (fun _ => 0) (fun i hi => by omega)
  refine Comp.le ?_ this
  exact ⟨rfl, trivial⟩
theorem c_Thrust (up : List Ces) (b : Bl) (f : Fl) (d : Int) : Cs gl n_rotor_Thrust up [b.iv, f.iv, .int .i64 d] (sumR b f d (fun i a d => b.thr i a d)) up := by
  refine mk h_rotor_Thrust rfl rfl ?_
  unfold sumR
  conv => whnf
  refine .mk _ _ _ _ _ (leL_refl _) (c_checkAll _ b f _) rfl ?_
  conv => whnf
  split
  · rename_i h
    have h' : (allErr b f d != 0) = true := h
    conv => whnf
    refine ⟨?_, rfl⟩
    rw [h']; rfl
  · rename_i h
    have h' : (allErr b f d != 0) = false := h
    have h0 : allErr b f d = 0 := by simpa using h'
    rw [h', cond_false]
    obtain ⟨g1, g2, n, rfl, g3⟩ := allErr_ok h0
    obtain ⟨_, hn1, hn2, ok⟩ := Bl.good g1 g2
    rw [show (((n + 1 : Nat) : Int) - 1).toNat = n by omega, show (((n + 1 : Nat) : Int)).toNat = n + 1 by omega]
    have hs := Int.pow_succ (2 : Int) n
    have he := fun up => c_each (gl := gl) up b f n g3 g1 g2 n_rotor_section_thrust (fun i a => b.thr i a (n + 1)) fun up i a hi hbr => by
      have := br_rng (ok i hi) hbr
      exact c_thrust up b f i (ok i hi) a (n + 1) (by omega) (by omega) (by omega)
    conv => whnf
    by_cases hall : allBr b f n
    · rw [eachR, if_pos hall] at he
      refine .mk _ _ _ _ _ (leL_refl _) (he _) rfl ?_
      conv => whnf
      refine .mk _ _ _ _ _ (leL_refl _) (c_sum _ _ hn2 _ _ (fun i hi => by obtain ⟨a, ha⟩ := Option.isSome_iff_exists.1 (hall i hi); rw [ha]; exact thr_bound (ok i hi) g3 ha)) rfl ?_
      conv => whnf
      refine ⟨?_, rfl⟩
      rw [if_pos hall]
    · rw [eachR, if_neg hall] at he
      refine .mk _ _ _ _ _ (leL_refl _) (he _) rfl ?_
      conv => whnf
      refine .mk _ _ _ _ _ (leL_refl _) (c_sum0 _) rfl ?_
      conv => whnf
      refine ⟨?_, rfl⟩
      rw [if_neg hall]
def ringsR (b : Bl) (f : Fl) (d : Int) : IV :=
  bif allErr b f d != 0 then .tup [.nilS, .int .i64 (allErr b f d)] else
    if allBr b f (d - 1).toNat then .tup [.lst (some 19) 2 b.nr fun i => [.int .i64 (b.tor f i ((b.br f i (d - 1).toNat).getD 0) d.toNat).1, .int .i64 (b.tor f i ((b.br f i (d - 1).toNat).getD 0) d.toNat).2], .int .i64 0]
    else .tup [.nilS, .int .i64 7]
theorem c_Rings (up : List Ces) (b : Bl) (f : Fl) (d : Int) : Cs gl n_rotor_Rings up [b.iv, f.iv, .int .i64 d] (ringsR b f d) up := by
  refine mk h_rotor_Rings rfl rfl ?_
  unfold ringsR
  conv => whnf
  refine .mk _ _ _ _ _ (leL_refl _) (c_checkAll _ b f _) rfl ?_
  conv => whnf
  split
  · rename_i h
    have h' : (allErr b f d != 0) = true := h
    conv => whnf
    refine ⟨?_, rfl⟩
    rw [h']; rfl
  · rename_i h
    have h' : (allErr b f d != 0) = false := h
    have h0 : allErr b f d = 0 := by simpa using h'
    rw [h', cond_false]
    obtain ⟨g1, g2, n, rfl, g3⟩ := allErr_ok h0
    obtain ⟨hnd, hn1, hn2, ok⟩ := Bl.good g1 g2
    rw [show (((n + 1 : Nat) : Int) - 1).toNat = n by omega, show (((n + 1 : Nat) : Int)).toNat = n + 1 by omega]
    have hs := Int.pow_succ (2 : Int) n
    have he := fun up => c_each (gl := gl) up b f n g3 g1 g2 n_rotor_section_torque (fun i a => b.tor f i a (n + 1)) fun up i a hi hbr => by
      have := br_rng (ok i hi) hbr
      exact c_torque up b f i (ok i hi) hnd a (n + 1) (by omega) (by omega) (by omega)
    conv => whnf
    by_cases hall : allBr b f n
    · rw [eachR, if_pos hall] at he
      refine .mk _ _ _ _ _ (leL_refl _) (he _) rfl ?_
      conv => whnf
      refine ⟨?_, rfl⟩
      rw [if_pos hall]
    · rw [eachR, if_neg hall] at he
      refine .mk _ _ _ _ _ (leL_refl _) (he _) rfl ?_
      conv => whnf
      refine ⟨?_, rfl⟩
      rw [if_neg hall]
theorem c_Torque (up : List Ces) (b : Bl) (f : Fl) (d : Int) : Cs gl n_rotor_Torque up [b.iv, f.iv, .int .i64 d] (sumR b f d (fun i a d => b.tor f i a d)) up := by
  refine mk h_rotor_Torque rfl rfl ?_
  unfold sumR
  have hr := fun up => c_Rings (gl := gl) up b f d
  unfold ringsR at hr
  conv => whnf
  by_cases h' : (allErr b f d != 0) = true
  · rw [h', cond_true] at hr
    refine .mk _ _ _ _ _ (leL_refl _) (hr _) rfl ?_
    conv => whnf
    refine .mk _ _ _ _ _ (leL_refl _) (c_sum0 _) rfl ?_
    conv => whnf
    refine ⟨?_, rfl⟩
    rw [h']; rfl
  · replace h' : (allErr b f d != 0) = false := by simpa using h'
    rw [h', cond_false] at hr ⊢
    have h0 : allErr b f d = 0 := by simpa using h'
    obtain ⟨g1, g2, n, rfl, g3⟩ := allErr_ok h0
    obtain ⟨hnd, hn1, hn2, ok⟩ := Bl.good g1 g2
    rw [show (((n + 1 : Nat) : Int) - 1).toNat = n by omega, show (((n + 1 : Nat) : Int)).toNat = n + 1 by omega] at hr ⊢
    by_cases hall : allBr b f n
    · rw [if_pos hall] at hr
      refine .mk _ _ _ _ _ (leL_refl _) (hr _) rfl ?_
      conv => whnf
      refine .mk _ _ _ _ _ (leL_refl _) (c_sum _ _ hn2 _ _ (fun i hi => by obtain ⟨a, ha⟩ := Option.isSome_iff_exists.1 (hall i hi); rw [ha]; exact tor_bound (ok i hi) g3 ha)) rfl ?_
      conv => whnf
      refine ⟨?_, rfl⟩
      rw [if_pos hall]
    · rw [if_neg hall] at hr
      refine .mk _ _ _ _ _ (leL_refl _) (hr _) rfl ?_
      conv => whnf
      refine .mk _ _ _ _ _ (leL_refl _) (c_sum0 _) rfl ?_
      conv => whnf
      refine ⟨?_, rfl⟩
      rw [if_neg hall]
end Go.Proofs.YtfoenhiohhmnlaaGreatDoor.Ix

namespace Go.Proofs.YtfoenhiohhmnlaaGreatDoor.Ix
open Go.Proofs
set_option maxRecDepth 100000
set_option linter.unusedVariables false
set_option linter.unusedSimpArgs false
variable {gl : Nat → IV}
end Go.Proofs.YtfoenhiohhmnlaaGreatDoor.Ix

namespace Go.Proofs.YtfoenhiohhmnlaaGreatDoor.Ix
open Go.Proofs
set_option maxRecDepth 100000
set_option linter.unusedVariables false
set_option linter.unusedSimpArgs false
variable {gl : Nat → IV}
def parA (o : Option Nat) (l : List UInt8) : IV := if l = [] then .tup [nilB0, .int .i64 0, .int .i64 26] else parR o (splitL 10 l)
theorem c_pParseA (up : List Ces) (hp : gl g_internal_strconv_uint64pow10 = powI) (h2 : gl g_strconv_ErrSyntax = errI) (h3 : gl g_strconv_ErrRange = errI) (l : List UInt8) (hl : l.length ≤ 4096) :
    Cs gl n_rotor_Parse up [.str (bytesS l)] (parA (some 24) l) up := by
  unfold parA
  by_cases h : l = []
  · subst h
    rw [if_pos rfl]
    obtain ⟨s, hs⟩ : ∃ s, s = bytesS [] := ⟨_, rfl⟩
    have hsz : s.size = 0 := by rw [hs]; rfl
    rw [← hs]
    have q0 : decide ((s.size : Int) > 4096) = false := decide_eq_false (by omega)
    have qe : (s.toList == ByteArray.empty.toList) = true := by
      rw [hs]; exact beq_self_eq_true _
    refine mk h_rotor_Parse rfl rfl ?_
    conv => whnf
    split
    · rename_i h
      exact Bool.noConfusion ((q0).symm.trans h)
    rename_i hN
    clear hN
    conv => whnf
    split
    rotate_left
    · rename_i h
      exact Bool.noConfusion ((qe).symm.trans h)
    rename_i hN
    clear hN
    conv => whnf
    exact ⟨rfl, rfl⟩
  · rw [if_neg h]
    exact c_pParse up hp h2 h3 l hl h
abbrev toldI (b : Bl) : IV :=
  .agg [.lst none 1 b.nl fun i => [.int .i64 (b.lf i)], .lst none 1 b.nd fun i => [.int .i64 (b.df i)], .lst (some 20) 4 b.nr fun i => [.int .i64 (b.r1 i), .int .i64 (b.r2 i), .int .i64 (b.r3 i), .int .i64 (b.r4 i)]]
theorem c_toldB (up : List Ces) (b : Bl) (hn : b.nr ≤ 1000000) : Cs gl n_nacellelaw03_told up [b.iv] (toldI b) up := by
  obtain ⟨nl, nd, n, lf, df, r1, r2, r3, r4⟩ := b
  have hn : n ≤ 1000000 := hn
  refine mk h_nacellelaw03_told rfl rfl ?_
  conv => whnf
  let R : Nat → List IV := fun i => [.int .i64 (r1 i), .int .i64 (r2 i), .int .i64 (r3 i), .int .i64 (r4 i)]
  refine .mk (α := {k : Nat // k ≤ n}) (fun k => ⟨[(12, .int .i64 k.1), (11, .int .i64 n), (10, .lst none 4 n R), (2, .ptr 0 2 0), (3, .ptr 0 3 0)],
    [(3, [.lst none 1 nl fun i => [.int .i64 (lf i)], .lst none 1 nd fun i => [.int .i64 (df i)], .lst (some 20) 4 k.1 R]), (2, [.nilS, .nilS, .nilS])], up⟩) (fun k => n - k.1) ⟨0, Nat.zero_le _⟩ ⟨?_, ?_, rfl, rfl⟩ ?_
  · exact ⟨leV_refl _, leV_refl _, leV_refl _, leV_refl _, leV_refl _, trivial⟩
  · exact ⟨⟨leV_refl _, leV_refl _, rfl, trivial⟩, leL_refl _, trivial⟩
  · rintro ⟨k, hk⟩
    have hw : w64 ((k : Int) + 1) = ((k + 1 : Nat) : Int) := by rw [w64, wrap_in] <;> omega
    by_cases hlt : k < n
    · have q : decide ((k : Int) < n) = true := decide_eq_true (by omega)
      conv => whnf
      split
      rotate_left
      · rename_i h
        exact Bool.noConfusion ((q).symm.trans h)
      rename_i hN
      clear hN
      conv => whnf
      split
      rotate_left
      · rename_i h
        have h' : decide ((k : Int) < n) = false := h
        simp at h' <;> omega
      conv => whnf
      split
      rotate_left
      · rename_i h
        have h' : decide (k + 1 ≤ 1073741824) = false := h
        simp at h' <;> omega
      conv => whnf
      refine ⟨⟨k + 1, hlt⟩, ⟨⟨leV_int hw, leV_refl _, leV_refl _, leV_refl _, leV_refl _, trivial⟩, ⟨⟨leV_refl _, leV_refl _, ⟨.inr rfl, rfl, rfl, fun j hj => ?_⟩, trivial⟩, leL_refl _, trivial⟩, rfl, rfl⟩, (by show n - (k + 1) < n - k; omega)⟩
      show (if j < k then R j else litF 4 (R k) (j - k)) = R j
      split
      · rfl
      · have : j = k := by have : j < k + 1 := hj; omega
        subst this
        rw [Nat.sub_self]
        rfl
    · have q : decide ((k : Int) < n) = false := decide_eq_false (by omega)
      have : k = n := by omega
      subst this
      conv => whnf
      split
      · rename_i h
        exact Bool.noConfusion ((q).symm.trans h)
      rename_i hN
      clear hN
      conv => whnf
      exact ⟨rfl, rfl⟩
theorem c_rSameIntsR (up : List Ces) (n : Nat) (hn : n ≤ 10000000) (f : Nat → Int) :
    Cs gl n_nacelleref01_SameInts up [.lst none 1 n fun i => [.int .i64 (f i)], .lst none 1 n fun i => [.int .i64 (f i)]] (.bool true) up := by
  refine mk h_nacelleref01_SameInts rfl rfl ?_
  have q0 : ((n : Int) != n) = false := by simp
  conv => whnf
  split
  · rename_i h
    exact Bool.noConfusion ((q0).symm.trans h)
  rename_i hN
  clear hN
  conv => whnf
  refine .mk (α := {i : Nat // i ≤ n}) (fun i => ⟨[(5, .int .i64 i.1), (1, .lst none 1 n fun i => [.int .i64 (f i)]), (0, .lst none 1 n fun i => [.int .i64 (f i)])], [], up⟩) (fun i => n - i.1) ⟨0, Nat.zero_le _⟩ ⟨?_, ?_, rfl, rfl⟩ ?_
  · exact ⟨leV_refl _, leV_refl _, leV_refl _, trivial⟩
  · exact trivial
  rintro ⟨i, hi⟩
  have hw : w64 ((i : Int) + 1) = ((i + 1 : Nat) : Int) := by rw [w64, wrap_in] <;> omega
  by_cases hlt : i < n
  · have q : decide ((i : Int) < (n : Int)) = true := decide_eq_true (by omega)
    have ne : (f i != f i) = false := by simp
    conv => whnf
    split
    rotate_left
    · rename_i h
      exact Bool.noConfusion ((q).symm.trans h)
    rename_i hN
    clear hN
    conv => whnf
    refine DRAW.seek ?_
    repeat (first | refine TRYD.take ?_ | refine TRYD.next ?_)
    conv => whnf
    split
    rotate_left
    · rename_i h
      exact Bool.noConfusion ((q).symm.trans h)
    rename_i hN
    clear hN
    conv => whnf
    split
    rotate_left
    · rename_i h
      exact Bool.noConfusion ((q).symm.trans h)
    rename_i hN
    clear hN
    conv => whnf
    split
    · rename_i h
      exact Bool.noConfusion ((ne).symm.trans h)
    rename_i hN
    clear hN
    conv => whnf
    exact ⟨⟨i + 1, hlt⟩, ⟨⟨leV_int hw, leV_refl _, leV_refl _, trivial⟩, trivial, rfl, rfl⟩, (by show n - (i + 1) < n - i; omega)⟩
  · have q : decide ((i : Int) < (n : Int)) = false := decide_eq_false (by omega)
    conv => whnf
    split
    · rename_i h
      exact Bool.noConfusion ((q).symm.trans h)
    rename_i hN
    clear hN
    conv => whnf
    exact ⟨rfl, rfl⟩
theorem c_rSameBladeR (up : List Ces) (b : Bl) (h1 : b.nl ≤ 1000000) (h2 : b.nd ≤ 1000000) (h3 : b.nr ≤ 1000000) : Cs gl n_nacelleref03_SameBlade up [b.iv, b.iv] (.bool true) up := by
  obtain ⟨nl, nd, n, lf, df, r1, r2, r3, r4⟩ := b
  have h1 : nl ≤ 1000000 := h1
  have h2 : nd ≤ 1000000 := h2
  have h3 : n ≤ 1000000 := h3
  have hA := fun up => c_rSameIntsR (gl := gl) up nl (by omega) lf
  have hB := fun up => c_rSameIntsR (gl := gl) up nd (by omega) df
  refine mk h_nacelleref03_SameBlade rfl rfl ?_
  have q0 : ((n : Int) != n) = false := by simp
  conv => whnf
  repeat first
    | (refine DRAW.seek ?_; repeat (first | refine TRYD.take ?_ | refine TRYD.next ?_); conv => whnf)
    | (refine HOLD.mk (by first | exact trivial | exact ⟨⟨rfl, rfl⟩, trivial⟩ | exact ⟨⟨rfl, rfl⟩, ⟨rfl, rfl⟩, trivial⟩) ?_; (conv => whnf))
    | (refine CALL0.by (hA ..) rfl ?_; conv => whnf)
    | (refine CALLQ.mk _ _ _ (leL_refl _) (hA ..) rfl ?_; conv => whnf)
    | (refine CALL0.by (hB ..) rfl ?_; conv => whnf)
    | (refine CALLQ.mk _ _ _ (leL_refl _) (hB ..) rfl ?_; conv => whnf)
  split
  · rename_i h
    exact Bool.noConfusion ((q0).symm.trans h)
  rename_i hN
  clear hN
  conv => whnf
  let B : List IV := [.lst none 1 nl fun i => [.int .i64 (lf i)], .lst none 1 nd fun i => [.int .i64 (df i)], .lst none 4 n fun i => [.int .i64 (r1 i), .int .i64 (r2 i), .int .i64 (r3 i), .int .i64 (r4 i)]]
  refine .mk (α := {i : Nat // i ≤ n}) (fun i => ⟨[(5, .int .i64 i.1), (3, .ptr 0 3 0), (2, .ptr 0 2 0)], [(3, B), (2, B)], up⟩) (fun i => n - i.1) ⟨0, Nat.zero_le _⟩ ⟨?_, ?_, rfl, rfl⟩ ?_
  · exact ⟨leV_refl _, leV_refl _, leV_refl _, trivial⟩
  · exact ⟨leL_refl _, leL_refl _, trivial⟩
  rintro ⟨i, hi⟩
  have hw : w64 ((i : Int) + 1) = ((i + 1 : Nat) : Int) := by rw [w64, wrap_in] <;> omega
  by_cases hlt : i < n
  · have q : decide ((i : Int) < (n : Int)) = true := decide_eq_true (by omega)
    have e1 : (!(r1 i == r1 i && (r2 i == r2 i && (r3 i == r3 i && (r4 i == r4 i && true))))) = false := by simp
    conv => whnf
    split
    rotate_left
    · rename_i h
      exact Bool.noConfusion ((q).symm.trans h)
    rename_i hN
    clear hN
    conv => whnf
    refine DRAW.seek ?_
    repeat (first | refine TRYD.take ?_ | refine TRYD.next ?_)
    conv => whnf
    split
    rotate_left
    · rename_i h
      exact Bool.noConfusion ((q).symm.trans h)
    rename_i hN
    clear hN
    conv => whnf
    split
    rotate_left
    · rename_i h
      exact Bool.noConfusion ((q).symm.trans h)
    rename_i hN
    clear hN
    conv => whnf
    split
    · rename_i h
      exact Bool.noConfusion ((e1).symm.trans h)
    rename_i hN
    clear hN
    conv => whnf
    exact ⟨⟨i + 1, hlt⟩, ⟨⟨leV_int hw, leV_refl _, leV_refl _, trivial⟩, ⟨leL_refl _, leL_refl _, trivial⟩, rfl, rfl⟩, (by show n - (i + 1) < n - i; omega)⟩
  · have q : decide ((i : Int) < (n : Int)) = false := decide_eq_false (by omega)
    conv => whnf
    split
    · rename_i h
      exact Bool.noConfusion ((q).symm.trans h)
    rename_i hN
    clear hN
    conv => whnf
    exact ⟨rfl, rfl⟩
end Go.Proofs.YtfoenhiohhmnlaaGreatDoor.Ix

namespace Go.Proofs.YtfoenhiohhmnlaaGreatDoor.Ix
open Go.Proofs
set_option maxRecDepth 100000
set_option linter.unusedVariables false
set_option linter.unusedSimpArgs false
variable {gl : Nat → IV}
abbrev loadsI (o : Option Nat) (n : Nat) (x y z : Nat → Int) : IV := .lst o 3 n fun i => [.int .i64 (x i), .int .i64 (y i), .int .i64 (z i)]
theorem c_mapped3 (up : List Ces) (n : Nat) (hn : n ≤ 1000000) (x y z φ : Nat → Int) (k : Nat) (hk : ∀ up i, i < n → Cs gl k up [.agg [.int .i64 (x i), .int .i64 (y i), .int .i64 (z i)]] (.int .i64 (φ i)) up) :
    Cs gl n_rotor_mapped_3_int_api_Errno up [loadsI none n x y z, .fn k [] []] (.lst (some 19) 1 n fun i => [.int .i64 (φ i)]) up := by
  refine mk h_rotor_mapped_3_int_api_Errno rfl rfl ?_
  conv => whnf
  refine .mk (α := {i : Nat // i ≤ n}) (fun i => ⟨[(10, .int .i64 i.1), (9, .int .i64 n), (8, loadsI none n x y z), (5, .lst (some 19) 1 i.1 fun i => [.int .i64 (φ i)]), (1, .fn k [] [])], [], up⟩) (fun i => n - i.1) ⟨0, Nat.zero_le _⟩ ⟨?_, trivial, rfl, rfl⟩ ?_
  · exact ⟨leV_refl _, leV_refl _, leV_refl _, rfl, leV_refl _, trivial⟩
  · rintro ⟨i, hi⟩
    conv => whnf
    split
    · rename_i hb
      have hlt : i < n := by simpa using hb
      conv => whnf
      split
      rotate_left
      · rename_i h
        have h' : decide ((i : Int) < n) = false := h
        simp at h' <;> omega
      conv => whnf
      refine .mk _ _ _ _ _ (leL_refl _) (hk _ i hlt) rfl ?_
      conv => whnf
      split
      rotate_left
      · rename_i h
        have h' : decide (i + 1 ≤ 1073741824) = false := h
        simp at h' <;> omega
      conv => whnf
      refine ⟨⟨i + 1, hlt⟩, ⟨⟨leV_int ?_, leV_refl _, leV_refl _, ⟨.inr rfl, rfl, rfl, fun j hj => ?_⟩, leV_refl _, trivial⟩, trivial, rfl, rfl⟩, (by show n - (i + 1) < n - i; omega)⟩
      · show w64 ((i : Int) + 1) = ((i + 1 : Nat) : Int)
        rw [w64, wrap_in] <;> omega
      · show (if j < i then [IV.int .i64 (φ j)] else litF 1 [.int .i64 (φ i)] (j - i)) = [IV.int .i64 (φ j)]
        split
        · rfl
        · have : j = i := by have : j < i + 1 := hj; omega
          subst this; rw [Nat.sub_self]; rfl
    · rename_i hb
      have : i = n := by simp at hb; omega
      subst this
      conv => whnf
      exact ⟨rfl, rfl⟩
def recE (n : Nat) (x y z : Nat → Int) : Int := firstS (fun i => loadS (x i) (y i) (z i)) n 0
def recR (n : Nat) (x y z : Nat → Int) (φ : Int → Int → Nat → Int × Int) : IV :=
  bif decide ((n : Int) > 400) then .tup [.agg [.int .i64 0, .int .i64 0], .int .i64 5] else
    bif recE n x y z != 0 then .tup [.agg [.int .i64 0, .int .i64 0], .int .i64 (recE n x y z)] else
      .tup [.agg [.int .i64 (sumTo (fun i => (φ (x i - z i) (y i - z i) i).1) n), .int .i64 (sumTo (fun i => (φ (x i - z i) (y i - z i) i).2) n)], .int .i64 0]
theorem recE_ok {n : Nat} {x y z : Nat → Int} (h : recE n x y z = 0) : ∀ i, i < n → (-1000000 ≤ x i ∧ x i ≤ 1000000) ∧ (-1000000 ≤ y i ∧ y i ≤ 1000000) ∧ (-1000000 ≤ z i ∧ z i ≤ 1000000) := fun i hi => by
  unfold recE at h
  rw [firstS_zero] at h
  exact loadS_ok (h i (by omega) (by omega))
theorem c_record (up : List Ces) (n : Nat) (x y z : Nat → Int) (F : Nat) (φ : Int → Int → Nat → Int × Int) (h00 : ∀ t, φ 0 0 t = (0, 0))
    (hφ : ∀ a b t, -2000000 ≤ a → a ≤ 2000000 → -2000000 ≤ b → b ≤ 2000000 → (-4000000 ≤ (φ a b t).1 ∧ (φ a b t).1 ≤ 4000000) ∧ (-4000000 ≤ (φ a b t).2 ∧ (φ a b t).2 ≤ 4000000))
    (hF : ∀ up a b (t : Nat), t < 400 → -2000000 ≤ a → a ≤ 2000000 → -2000000 ≤ b → b ≤ 2000000 → Cs gl F up [.agg [.int .i64 a, .int .i64 b], .int .i64 t] (.agg [.int .i64 (φ a b t).1, .int .i64 (φ a b t).2]) up) :
    Cs gl n_rotor_record up [loadsI none n x y z, .fn F [] []] (recR n x y z φ) up := by
  refine mkR [28] h_rotor_record rfl rfl ?_
  unfold recR
  conv => whnf
  split
  · rename_i h
    have h : decide ((n : Int) > 400) = true := h
    rw [h]
    conv => whnf
    exact ⟨rfl, rfl⟩
  · rename_i h
    have h : decide ((n : Int) > 400) = false := h
    rw [h, cond_false]
    have hn : n ≤ 400 := by simp at h; omega
    conv => whnf
    refine .mk _ _ _ _ _ (leL_refl _) (c_mapped3 _ n (by omega) x y z (fun i => loadS (x i) (y i) (z i)) _ (fun up i _ => c_checkLoads up _ _ _)) rfl ?_
    conv => whnf
    refine .mk _ _ _ _ _ (leL_refl _) (c_first _ n (by omega) fun i => loadS (x i) (y i) (z i)) rfl ?_
    conv => whnf
    split
    · rename_i h
      have h : (recE n x y z != 0) = true := h
      rw [h]
      conv => whnf
      exact ⟨rfl, rfl⟩
    · rename_i h
      have h : (recE n x y z != 0) = false := h
      rw [h, cond_false]
      have hok := recE_ok (show recE n x y z = 0 by simpa using h)
      have hb : ∀ i, i < n → (-4000000 ≤ (φ (x i - z i) (y i - z i) i).1 ∧ (φ (x i - z i) (y i - z i) i).1 ≤ 4000000) ∧ (-4000000 ≤ (φ (x i - z i) (y i - z i) i).2 ∧ (φ (x i - z i) (y i - z i) i).2 ≤ 4000000) := fun i hi => by
        have := hok i hi
        exact hφ _ _ i (by omega) (by omega) (by omega) (by omega)
      conv => whnf
      split
      rotate_left
      · rename_i h
        have h' : decide ((n : Int) ≤ 1073741824) = false := h
        simp at h' <;> omega
      conv => whnf
      split
      rotate_left
      · rename_i h
        have h' : decide ((n : Int) = n) = false := h
        simp at h' <;> omega
      conv => whnf
      split
      rotate_left
      · rename_i h
        have h' : decide (n = ((n : Int)).toNat) = false := h
        simp at h' <;> omega
      conv => whnf
      refine .mk (α := {k : Nat // k ≤ n}) (fun k => ⟨[(31, .int .i64 k.1), (30, .int .i64 n), (29, loadsI none n x y z), (1, .fn F [] []), (4, .ptr 0 4 0), (8, .ptr 0 8 0)],
        [(8, [.int .i64 (sumTo (fun i => (φ (x i - z i) (y i - z i) i).1) k.1), .int .i64 (sumTo (fun i => (φ (x i - z i) (y i - z i) i).2) k.1)]), (4, [.int .i64 0, .int .i64 0])], up⟩) (fun k => n - k.1) ⟨0, Nat.zero_le _⟩ ⟨?_, ?_, rfl, rfl⟩ ?_
      · exact ⟨leV_refl _, leV_refl _, leV_view _ _ _ _, leV_refl _, leV_refl _, leV_refl _, trivial⟩
      · exact ⟨leL_refl _, leL_refl _, trivial⟩
      rintro ⟨k, hk⟩
      conv => whnf
      split
      · rename_i hb'
        have hlt : k < n := by
          have hb' : decide ((k : Int) < n) = true := hb'
          simpa using hb'
        have ho := hok k hlt
        have hq := hb k hlt
        have hw : w64 ((k : Int) + 1) = ((k + 1 : Nat) : Int) := by rw [w64, wrap_in] <;> omega
        have e1 : w64 (x k - z k) = x k - z k := by rw [w64, wrap_in] <;> omega
        have e2 : w64 (y k - z k) = y k - z k := by rw [w64, wrap_in] <;> omega
        have s1 := sumTo_bound (g := fun i => (φ (x i - z i) (y i - z i) i).1) (B := 4000000) k fun i hi => (hb i (by omega)).1
        have s2 := sumTo_bound (g := fun i => (φ (x i - z i) (y i - z i) i).2) (B := 4000000) k fun i hi => (hb i (by omega)).2
        have t1 : w64 (sumTo (fun i => (φ (x i - z i) (y i - z i) i).1) k + (φ (x k - z k) (y k - z k) k).1) = sumTo (fun i => (φ (x i - z i) (y i - z i) i).1) (k + 1) := by
          rw [w64, wrap_in]; rfl; omega; omega
        have t2 : w64 (sumTo (fun i => (φ (x i - z i) (y i - z i) i).2) k + (φ (x k - z k) (y k - z k) k).2) = sumTo (fun i => (φ (x i - z i) (y i - z i) i).2) (k + 1) := by
          rw [w64, wrap_in]; rfl; omega; omega
        conv => whnf
        split
        rotate_left
        · rename_i h
          have h' : decide ((k : Int) < n) = false := h
          simp at h' <;> omega
        conv => whnf
        refine .mk _ _ _ _ _ (leL_refl _) (c_component _ _ _ _) rfl ?_
        conv => whnf
        split
        · rename_i h
          have h : (w64 (x k - z k) == 0 && (w64 (y k - z k) == 0 && true)) = true := h
          rw [e1, e2] at h
          simp at h
          have p1 : sumTo (fun i => (φ (x i - z i) (y i - z i) i).1) (k + 1) = sumTo (fun i => (φ (x i - z i) (y i - z i) i).1) k := by
            show sumTo _ k + (φ (x k - z k) (y k - z k) k).1 = _
            rw [h.1, h.2, h00]; simp
          have p2 : sumTo (fun i => (φ (x i - z i) (y i - z i) i).2) (k + 1) = sumTo (fun i => (φ (x i - z i) (y i - z i) i).2) k := by
            show sumTo _ k + (φ (x k - z k) (y k - z k) k).2 = _
            rw [h.1, h.2, h00]; simp
          conv => whnf
          exact ⟨⟨k + 1, hlt⟩, ⟨⟨leV_int hw, leV_refl _, leV_refl _, leV_refl _, leV_refl _, leV_refl _, trivial⟩, ⟨⟨leV_int p1.symm, leV_int p2.symm, trivial⟩, leL_refl _, trivial⟩, rfl, rfl⟩, (by show n - (k + 1) < n - k; omega)⟩
        · have hFw : ∀ up, Cs gl F up [.agg [.int .i64 (w64 (x k - z k)), .int .i64 (w64 (y k - z k))], .int .i64 k] (.agg [.int .i64 (φ (x k - z k) (y k - z k) k).1, .int .i64 (φ (x k - z k) (y k - z k) k).2]) up := fun up => by
            rw [e1, e2]
            exact hF up _ _ k (by omega) (by omega) (by omega) (by omega) (by omega)
          conv => whnf
          refine .mk _ _ _ _ _ (leL_refl _) (hFw _) rfl ?_
          conv => whnf
          exact ⟨⟨k + 1, hlt⟩, ⟨⟨leV_int hw, leV_refl _, leV_refl _, leV_refl _, leV_refl _, leV_refl _, trivial⟩, ⟨⟨leV_int t1, leV_int t2, trivial⟩, leL_refl _, trivial⟩, rfl, rfl⟩, (by show n - (k + 1) < n - k; omega)⟩
      · rename_i hb'
        have : k = n := by
          have hb' : decide ((k : Int) < n) = false := hb'
          simp at hb'; omega
        subst this
        conv => whnf
        exact ⟨rfl, rfl⟩
theorem c_Rot1 (up : List Ces) (a b t : Int) : Cs gl n_rotor_Rotating_1 up [.agg [.int .i64 a, .int .i64 b], .int .i64 t] (.agg [.int .i64 a, .int .i64 b]) up := by
  refine mk h_rotor_Rotating_1 rfl rfl ?_
  conv => whnf
  exact ⟨rfl, rfl⟩
def rotR (n : Nat) (x y z : Nat → Int) : IV := recR n x y z fun a b _ => (a, b)
def fixR (n : Nat) (x y z : Nat → Int) : IV := recR n x y z fun a b t => turnP a b t
theorem recR_tup (n : Nat) (x y z : Nat → Int) (φ : Int → Int → Nat → Int × Int) : ∃ A B E, recR n x y z φ = .tup [.agg [.int .i64 A, .int .i64 B], .int .i64 E] := by
  unfold recR
  cases decide ((n : Int) > 400) <;> cases recE n x y z != 0 <;> exact ⟨_, _, _, rfl⟩
theorem c_Rotating (up : List Ces) (n : Nat) (x y z : Nat → Int) : Cs gl n_rotor_Rotating up [loadsI none n x y z] (rotR n x y z) up := by
  refine mk h_rotor_Rotating rfl rfl ?_
  have h := fun up => c_record (gl := gl) up n x y z n_rotor_Rotating_1 (fun a b _ => (a, b)) (fun _ => rfl) (fun a b t h1 h2 h3 h4 => ⟨⟨by omega, by omega⟩, by omega, by omega⟩) (fun up a b t _ _ _ _ _ => c_Rot1 up a b t)
  unfold rotR
  obtain ⟨A, B, E, e⟩ := recR_tup n x y z fun a b _ => (a, b)
  rw [e] at h ⊢
  conv => whnf
  refine .mk _ _ _ _ _ (leL_refl _) (h _) rfl ?_
  conv => whnf
  exact ⟨rfl, rfl⟩
theorem c_Fixed (up : List Ces) (hg : gl g_rotor_roots = rootsI) (n : Nat) (x y z : Nat → Int) : Cs gl n_rotor_Fixed up [loadsI none n x y z] (fixR n x y z) up := by
  refine mk h_rotor_Fixed rfl rfl ?_
  have h := fun up => c_record (gl := gl) up n x y z n_rotor_Pair_turned (fun a b t => turnP a b t) (fun t => by unfold turnP; split; rfl; split <;> rfl)
    (fun a b t h1 h2 h3 h4 => by unfold turnP; split; exact ⟨⟨by simp only; omega, by simp only; omega⟩, by simp only; omega, by simp only; omega⟩; split <;> exact ⟨⟨by simp only; omega, by simp only; omega⟩, by simp only; omega, by simp only; omega⟩)
    (fun up a b t _ _ _ _ _ => c_turned up hg a b t (by omega) (by omega))
  unfold fixR
  obtain ⟨A, B, E, e⟩ := recR_tup n x y z fun a b t => turnP a b t
  rw [e] at h ⊢
  conv => whnf
  refine .mk _ _ _ _ _ (leL_refl _) (h _) rfl ?_
  conv => whnf
  exact ⟨rfl, rfl⟩
end Go.Proofs.YtfoenhiohhmnlaaGreatDoor.Ix

namespace Go.Proofs.YtfoenhiohhmnlaaGreatDoor.Ix
open Go.Proofs
set_option maxRecDepth 100000
set_option linter.unusedVariables false
set_option linter.unusedSimpArgs false
variable {gl : Nat → IV}
def inflR (b : Bl) (f : Fl) (ring a d : Int) : IV :=
  let e := orE (ringErr b f ring) (indErr a d)
  .tup [.int .i64 (bif e != 0 then 0 else b.infl f ring.toNat a d.toNat), .int .i64 e]
theorem c_Inflow (up : List Ces) (b : Bl) (f : Fl) (ring a d : Int) : Cs gl n_rotor_Inflow up [b.iv, f.iv, .int .i64 ring, .agg [.int .i64 a, .int .i64 d]] (inflR b f ring a d) up := by
  refine mk h_rotor_Inflow rfl rfl ?_
  unfold inflR
  simp only
  conv => whnf
  refine .mk 8 (by kernel_rfl) ?_
  conv => whnf
  first | refine CALLQ.mk _ _ _ (leL_refl _) (c_checkRing _ b f _) rfl ?_ | refine CALL0.mk _ _ _ _ _ (leL_refl _) (c_checkRing _ b f _) rfl ?_
  conv => whnf
  first | refine CALLQ.mk _ _ _ (leL_refl _) (c_IndCheck _ _ _) rfl ?_ | refine CALL0.mk _ _ _ _ _ (leL_refl _) (c_IndCheck _ _ _) rfl ?_
  conv => whnf
  first | refine CALLQ.mk _ _ _ (leL_refl _) (c_f2 _ _ _ _ rfl rfl) rfl ?_ | refine CALL0.mk _ _ _ _ _ (leL_refl _) (c_f2 _ _ _ _ rfl rfl) rfl ?_
  conv => whnf
  split
  · rename_i h
    have h' : (orE (ringErr b f ring) (indErr a d) != 0) = true := h
    conv => whnf
    refine ⟨?_, rfl⟩
    rw [h']; rfl
  · rename_i h
    have h' : (orE (ringErr b f ring) (indErr a d) != 0) = false := h
    have h0 : orE (ringErr b f ring) (indErr a d) = 0 := by simpa using h'
    rw [h']
    have hz := h0
    rw [orE_zero] at h0
    obtain ⟨g1, g2, g3, g4⟩ := ringErr_ok h0.1
    obtain ⟨n, rfl, k2, k3, k4⟩ := indErr_ok h0.2
    obtain ⟨_, _, _, ok⟩ := Bl.good g1 g2
    have hp := Int.pow_succ (2 : Int) n
    have hq := two_pos n
    conv => whnf
    refine .mk 12 (by kernel_rfl) ?_
    conv => whnf
    split
    rotate_left
    · rename_i h
      have h' : decide (0 ≤ ring) = false := h
      simp at h' <;> omega
    conv => whnf
    split
    rotate_left
    · rename_i h
      have h' : decide (ring < b.nr) = false := h
      simp at h' <;> omega
    conv => whnf
    first | refine CALLQ.mk _ _ _ (leL_refl _) (c_inflP _ b f ring.toNat (ok _ (by omega)) a _ (n + 1) (by omega) k3 (by omega) rfl) rfl ?_ | refine CALL0.mk _ _ _ _ _ (leL_refl _) (c_inflP _ b f ring.toNat (ok _ (by omega)) a _ (n + 1) (by omega) k3 (by omega) rfl) rfl ?_
    conv => whnf
    refine ⟨?_, rfl⟩
    rw [hz]; rfl
def timesR (a b c d : Int) : IV :=
  let e := orE (pairS a b) (pairS c d)
  bif e != 0 then .tup [.agg [.int .i64 0, .int .i64 0], .int .i64 e] else .tup [.agg [.int .i64 (timesP a b c d).1, .int .i64 (timesP a b c d).2], .int .i64 0]
theorem c_Times (up : List Ces) (a b c d : Int) : Cs gl n_rotor_Times up [.agg [.int .i64 a, .int .i64 b], .agg [.int .i64 c, .int .i64 d]] (timesR a b c d) up := by
  refine mk h_rotor_Times rfl rfl ?_
  unfold timesR
  simp only
  conv => whnf
  refine .mk 6 (by kernel_rfl) ?_
  conv => whnf
  first | refine CALLQ.mk _ _ _ (leL_refl _) (c_PairCheck _ _ _) rfl ?_ | refine CALL0.mk _ _ _ _ _ (leL_refl _) (c_PairCheck _ _ _) rfl ?_
  conv => whnf
  first | refine CALLQ.mk _ _ _ (leL_refl _) (c_PairCheck _ _ _) rfl ?_ | refine CALL0.mk _ _ _ _ _ (leL_refl _) (c_PairCheck _ _ _) rfl ?_
  conv => whnf
  first | refine CALLQ.mk _ _ _ (leL_refl _) (c_f2 _ _ _ _ rfl rfl) rfl ?_ | refine CALL0.mk _ _ _ _ _ (leL_refl _) (c_f2 _ _ _ _ rfl rfl) rfl ?_
  conv => whnf
  split
  · rename_i h
    have h : (orE (pairS a b) (pairS c d) != 0) = true := h
    conv => whnf
    refine ⟨?_, rfl⟩
    rw [h]; rfl
  · rename_i h
    have h : (orE (pairS a b) (pairS c d) != 0) = false := h
    rw [h, cond_false]
    have h0 : orE (pairS a b) (pairS c d) = 0 := by simpa using h
    rw [orE_zero] at h0
    obtain ⟨k1, k2⟩ := pairS_ok h0.1
    obtain ⟨k3, k4⟩ := pairS_ok h0.2
    conv => whnf
    refine .mk _ _ _ _ _ (leL_refl _) (c_times _ _ _ _ _ k1 k2 k3 k4) rfl ?_
    conv => whnf
    exact ⟨rfl, rfl⟩
def pitchErr (x y : Int) : Int := orE (withinS x (-64) 64) (orE (withinS y (-64) 64) (bif decide (y < x) then 11 else 0))
theorem c_checkPitches (up : List Ces) (x y : Int) : Cs gl n_rotor_checkPitches up [.int .i64 x, .int .i64 y] (.int .i64 (pitchErr x y)) up := by
  refine mk h_rotor_checkPitches rfl rfl ?_
  conv => whnf
  refine .mk _ _ _ _ _ (leL_refl _) (c_within _ _ _ _) rfl ?_
  conv => whnf
  refine .mk _ _ _ _ _ (leL_refl _) (c_within _ _ _ _) rfl ?_
  conv => whnf
  refine .mk _ _ _ _ _ (leL_refl _) (c_when _ _ _) rfl ?_
  conv => whnf
  refine .mk _ _ _ _ _ (leL_refl _) (c_f3 _ _ _ _ _ rfl rfl rfl) rfl ?_
  conv => whnf
  exact ⟨rfl, rfl⟩
theorem pitchErr_ok {x y : Int} (h : pitchErr x y = 0) : -64 ≤ x ∧ x ≤ y ∧ y ≤ 64 := by
  unfold pitchErr at h
  simp only [orE_zero, withinS_zero] at h
  rw [bif_zero (by decide)] at h
  simp at h
  omega
def Fl.at (f : Fl) (p : Int) : Fl := ⟨f.w, f.s, p⟩
theorem Fl.at_err {f : Fl} (h : f.err = 0) {p : Int} (h1 : -64 ≤ p) (h2 : p ≤ 64) : (f.at p).err = 0 := by
  unfold Fl.err flowS at *
  simp only [orE_zero, withinS_zero] at *
  exact ⟨h.1, h.2.1, h1, h2⟩
def Bl.tq (b : Bl) (f : Fl) (D : Nat) : Option (Int × Int) :=
  if allBr b f D then some (sumTo (fun i => (b.tor f i ((b.br f i D).getD 0) (D + 1)).1) b.nr, sumTo (fun i => (b.tor f i ((b.br f i D).getD 0) (D + 1)).2) b.nr) else none
def pitR (o : Option (Int × Int)) : IV := match o with
  | some t => .tup [.agg [.int .i64 t.1, .int .i64 t.2], .bool true]
  | none => .tup [.agg [.int .i64 0, .int .i64 0], .bool false]
theorem c_pitched (up : List Ces) (b : Bl) (f : Fl) (D : Nat) (hD : D < 12) (p : Int) (hb : b.err = 0) (hf : (f.at p).err = 0) :
    Cs gl n_rotor_pitched up [b.iv, f.iv, .int .i64 ((D + 1 : Nat) : Int), .int .i64 p] (pitR (b.tq (f.at p) D)) up := by
  refine mk h_rotor_pitched rfl rfl ?_
  obtain ⟨hnd, hn1, hn2, ok⟩ := Bl.good hb hf
  have hs := Int.pow_succ (2 : Int) D
  have he := fun up => c_each (gl := gl) up b (f.at p) D hD hb hf n_rotor_section_torque (fun i a => b.tor (f.at p) i a (D + 1)) fun up i a hi hbr => by
    have := br_rng (ok i hi) hbr
    exact c_torque up b (f.at p) i (ok i hi) hnd a (D + 1) (by omega) (by omega) (by omega)
  unfold Bl.tq
  conv => whnf
  by_cases hall : allBr b (f.at p) D
  · rw [eachR, if_pos hall] at he
    refine .mk _ _ _ _ _ (leL_refl _) (he _) rfl ?_
    conv => whnf
    refine .mk _ _ _ _ _ (leL_refl _) (c_sum _ _ hn2 _ _ (fun i hi => by obtain ⟨a, ha⟩ := Option.isSome_iff_exists.1 (hall i hi); rw [ha]; exact tor_bound (ok i hi) hD ha)) rfl ?_
    conv => whnf
    refine ⟨?_, rfl⟩
    rw [if_pos hall]; rfl
  · rw [eachR, if_neg hall] at he
    refine .mk _ _ _ _ _ (leL_refl _) (he _) rfl ?_
    conv => whnf
    refine .mk _ _ _ _ _ (leL_refl _) (c_sum0 _) rfl ?_
    conv => whnf
    refine ⟨?_, rfl⟩
    rw [if_neg hall]; rfl
def bestTo (g : Int → Option (Int × Int)) (x : Int) : Nat → Int × (Int × Int) × Bool
  | 0 => (0, (0, 0), false)
  | k + 1 => match g (x + k) with
    | some t => bif !(bestTo g x k).2.2 || decide (t.1 > (bestTo g x k).2.1.1) then (x + k, t, true) else bestTo g x k
    | none => bestTo g x k
def bestErr (b : Bl) (f : Fl) (d x y : Int) : Int := orE (allErr b f d) (pitchErr x y)
def bestOf (b : Bl) (f : Fl) (d x y : Int) : Int × (Int × Int) × Bool := bestTo (fun p => b.tq (f.at p) (d - 1).toNat) x (y + 1 - x).toNat
def bestR (b : Bl) (f : Fl) (d x y : Int) : IV :=
  bif bestErr b f d x y != 0 then .tup [.int .i64 0, .agg [.int .i64 0, .int .i64 0], .int .i64 (bestErr b f d x y)] else
    .tup [.int .i64 (bestOf b f d x y).1, .agg [.int .i64 (bestOf b f d x y).2.1.1, .int .i64 (bestOf b f d x y).2.1.2], .int .i64 (bif !(bestOf b f d x y).2.2 then 7 else 0)]
theorem c_Best (up : List Ces) (b : Bl) (f : Fl) (d x y : Int) : Cs gl n_rotor_Best up [b.iv, f.iv, .int .i64 d, .int .i64 x, .int .i64 y] (bestR b f d x y) up := by
  refine mk h_rotor_Best rfl rfl ?_
  unfold bestR
  conv => whnf
  refine .mk _ _ _ _ _ (leL_refl _) (c_checkAll _ b f _) rfl ?_
  conv => whnf
  refine .mk _ _ _ _ _ (leL_refl _) (c_checkPitches _ _ _) rfl ?_
  conv => whnf
  refine .mk _ _ _ _ _ (leL_refl _) (c_f2 _ _ _ _ rfl rfl) rfl ?_
  conv => whnf
  split
  · rename_i h
    have h : (bestErr b f d x y != 0) = true := h
    conv => whnf
    refine ⟨?_, rfl⟩
    rw [h]; rfl
  · rename_i h
    have h : (bestErr b f d x y != 0) = false := h
    rw [h, cond_false]
    have h0 : bestErr b f d x y = 0 := by simpa using h
    unfold bestErr at h0
    rw [orE_zero] at h0
    obtain ⟨g1, g2, n, rfl, g3⟩ := allErr_ok h0.1
    obtain ⟨p1, p2, p3⟩ := pitchErr_ok h0.2
    clear h h0
    obtain ⟨N, hN⟩ : ∃ N : Nat, y + 1 - x = N := ⟨(y + 1 - x).toNat, by omega⟩
    have eB : bestOf b f ((n + 1 : Nat) : Int) x y = bestTo (fun p => b.tq (f.at p) n) x N := by
      unfold bestOf
      rw [hN, show (((n + 1 : Nat) : Int) - 1).toNat = n by omega]; rfl
    rw [eB]
    obtain ⟨g, hg⟩ : ∃ g : Int → Option (Int × Int), g = fun p => b.tq (f.at p) n := ⟨_, rfl⟩
    rw [← hg]
    have hpit : ∀ up p, -64 ≤ p → p ≤ 64 → Cs gl n_rotor_pitched up [b.iv, f.iv, .int .i64 ((n + 1 : Nat) : Int), .int .i64 p] (pitR (g p)) up := fun up p q1 q2 => by
      rw [hg]; exact c_pitched up b f n g3 p g1 (Fl.at_err g2 q1 q2)
    clear hg eB
    conv => whnf
    refine .mk (α := {k : Nat // k ≤ N}) (fun k => ⟨[(17, .int .i64 (x + k.1)), (16, .bool (bestTo g x k.1).2.2), (14, .int .i64 (bestTo g x k.1).1), (4, .int .i64 y), (2, .int .i64 ((n + 1 : Nat) : Int)), (5, .ptr 0 5 0), (6, .ptr 0 6 0), (11, .ptr 0 11 0), (15, .ptr 0 15 0)],
      [(15, [.int .i64 (bestTo g x k.1).2.1.1, .int .i64 (bestTo g x k.1).2.1.2]), (11, [.int .i64 0, .int .i64 0]), (6, [.int .i64 f.w, .int .i64 f.s, .int .i64 f.p]),
       (5, [.lst none 1 b.nl fun i => [.int .i64 (b.lf i)], .lst none 1 b.nd fun i => [.int .i64 (b.df i)], .lst none 4 b.nr fun i => [.int .i64 (b.r1 i), .int .i64 (b.r2 i), .int .i64 (b.r3 i), .int .i64 (b.r4 i)]])], up⟩) (fun k => N - k.1) ⟨0, Nat.zero_le _⟩ ⟨?_, ?_, rfl, rfl⟩ ?_
    · exact ⟨leV_int (by show x = x + ((0 : Nat) : Int); omega), leV_refl _, leV_refl _, leV_refl _, leV_refl _, leV_refl _, leV_refl _, leV_refl _, leV_refl _, trivial⟩
    · exact ⟨leL_refl _, leL_refl _, leL_refl _, leL_refl _, trivial⟩
    rintro ⟨k, hk⟩
    have hw : w64 (x + k + 1) = x + ((k + 1 : Nat) : Int) := by rw [w64, wrap_in] <;> omega
    conv => whnf
    split
    · rename_i h
      have h : decide (x + k ≤ y) = true := h
      have hlt : k < N := by simp at h; omega
      have hp := fun up => hpit up (x + k) (by omega) (by omega)
      have hstep : bestTo g x (k + 1) = match g (x + k) with
        | some t => bif !(bestTo g x k).2.2 || decide (t.1 > (bestTo g x k).2.1.1) then (x + k, t, true) else bestTo g x k
        | none => bestTo g x k := rfl
      cases hgk : g (x + k) with
      | none =>
        rw [hgk] at hp hstep
        simp only at hstep
        conv => whnf
        refine .mk _ _ _ _ _ (leL_refl _) (hp _) rfl ?_
        conv => whnf
        refine ⟨⟨k + 1, hlt⟩, ⟨⟨leV_int hw, ?_, ?_, leV_refl _, leV_refl _, leV_refl _, leV_refl _, leV_refl _, leV_refl _, trivial⟩, ⟨?_, leL_refl _, leL_refl _, leL_refl _, trivial⟩, rfl, rfl⟩, (by show N - (k + 1) < N - k; omega)⟩
        · simp only [hstep]; exact leV_refl _
        · simp only [hstep]; exact leV_refl _
        · simp only [hstep]; exact leL_refl _
      | some t =>
        rw [hgk] at hp hstep
        simp only at hstep
        obtain ⟨B, hB⟩ : ∃ B, B = bestTo g x k := ⟨_, rfl⟩
        rw [← hB] at hstep ⊢
        obtain ⟨b1, ⟨b2, b3⟩, b4⟩ := B
        conv => whnf
        refine .mk _ _ _ _ _ (leL_refl _) (hp _) rfl ?_
        conv => whnf
        cases b4 with
        | false =>
          simp only [Bool.not_false, Bool.true_or, cond_true] at hstep
          conv => whnf
          refine .mk 3 (by kernel_rfl) ?_
          conv => whnf
          refine ⟨⟨k + 1, hlt⟩, ⟨⟨leV_int hw, ?_, ?_, leV_refl _, leV_refl _, leV_refl _, leV_refl _, leV_refl _, leV_refl _, trivial⟩, ⟨?_, leL_refl _, leL_refl _, leL_refl _, trivial⟩, rfl, rfl⟩, (by show N - (k + 1) < N - k; omega)⟩
          · simp only [hstep]; exact leV_refl _
          · simp only [hstep]; exact leV_refl _
          · simp only [hstep]; exact leL_refl _
        | true =>
          simp only [Bool.not_true, Bool.false_or] at hstep
          conv => whnf
          split
          · rename_i h
            have h : decide (t.1 > b2) = true := h
            rw [h, cond_true] at hstep
            conv => whnf
            refine .mk 3 (by kernel_rfl) ?_
            conv => whnf
            refine ⟨⟨k + 1, hlt⟩, ⟨⟨leV_int hw, ?_, ?_, leV_refl _, leV_refl _, leV_refl _, leV_refl _, leV_refl _, leV_refl _, trivial⟩, ⟨?_, leL_refl _, leL_refl _, leL_refl _, trivial⟩, rfl, rfl⟩, (by show N - (k + 1) < N - k; omega)⟩
            · simp only [hstep]; exact leV_refl _
            · simp only [hstep]; exact leV_refl _
            · simp only [hstep]; exact leL_refl _
          · rename_i h
            have h : decide (t.1 > b2) = false := h
            rw [h, cond_false] at hstep
            conv => whnf
            refine ⟨⟨k + 1, hlt⟩, ⟨⟨leV_int hw, ?_, ?_, leV_refl _, leV_refl _, leV_refl _, leV_refl _, leV_refl _, leV_refl _, trivial⟩, ⟨?_, leL_refl _, leL_refl _, leL_refl _, trivial⟩, rfl, rfl⟩, (by show N - (k + 1) < N - k; omega)⟩
            · simp only [hstep]; exact leV_refl _
            · simp only [hstep]; exact leV_refl _
            · simp only [hstep]; exact leL_refl _
    · rename_i h
      have h : decide (x + k ≤ y) = false := h
      have : k = N := by simp at h; omega
      subst this
      conv => whnf
      refine .mk 6 (by kernel_rfl) ?_
      conv => whnf
      first | refine CALLQ.mk _ _ _ (leL_refl _) (c_when _ _ _) rfl ?_ | refine CALL0.mk _ _ _ _ _ (leL_refl _) (c_when _ _ _) rfl ?_
      conv => whnf
      exact ⟨rfl, rfl⟩
def limTo (g : Int → Option (Int × Int)) (m : Int) : Nat → Int → Option Int
  | 0, _ => none
  | k + 1, p => match g p with
    | some t => bif decide (t.2 ≤ m) then some p else limTo g m k (p + 1)
    | none => limTo g m k (p + 1)
def limErr (b : Bl) (f : Fl) (d x y m : Int) : Int := orE (allErr b f d) (orE (pitchErr x y) (withinS m (-1152921504606846976) 1152921504606846976))
def limOf (b : Bl) (f : Fl) (d x y m : Int) : Option Int := limTo (fun p => b.tq (f.at p) (d - 1).toNat) m (y + 1 - x).toNat x
def limR (b : Bl) (f : Fl) (d x y m : Int) : IV :=
  bif limErr b f d x y m != 0 then .tup [.int .i64 0, .int .i64 (limErr b f d x y m)] else
    match limOf b f d x y m with
    | some p => .tup [.int .i64 p, .int .i64 0]
    | none => .tup [.int .i64 0, .int .i64 7]
theorem c_Limit (up : List Ces) (b : Bl) (f : Fl) (d x y m : Int) : Cs gl n_rotor_Limit up [b.iv, f.iv, .int .i64 d, .int .i64 x, .int .i64 y, .int .i64 m] (limR b f d x y m) up := by
  refine mk h_rotor_Limit rfl rfl ?_
  unfold limR
  conv => whnf
  refine .mk _ _ _ _ _ (leL_refl _) (c_checkAll _ b f _) rfl ?_
  conv => whnf
  refine .mk _ _ _ _ _ (leL_refl _) (c_checkPitches _ _ _) rfl ?_
  conv => whnf
  refine .mk _ _ _ _ _ (leL_refl _) (c_within _ _ _ _) rfl ?_
  conv => whnf
  refine .mk _ _ _ _ _ (leL_refl _) (c_f3 _ _ _ _ _ rfl rfl rfl) rfl ?_
  conv => whnf
  split
  · rename_i h
    have h : (limErr b f d x y m != 0) = true := h
    conv => whnf
    refine ⟨?_, rfl⟩
    rw [h]; rfl
  · rename_i h
    have h : (limErr b f d x y m != 0) = false := h
    rw [h, cond_false]
    have h0 : limErr b f d x y m = 0 := by simpa using h
    unfold limErr at h0
    simp only [orE_zero, withinS_zero] at h0
    obtain ⟨g1, g2, n, rfl, g3⟩ := allErr_ok h0.1
    obtain ⟨p1, p2, p3⟩ := pitchErr_ok h0.2.1
    clear h h0
    obtain ⟨N, hN⟩ : ∃ N : Nat, y + 1 - x = N := ⟨(y + 1 - x).toNat, by omega⟩
    have eB : limOf b f ((n + 1 : Nat) : Int) x y m = limTo (fun p => b.tq (f.at p) n) m N x := by
      unfold limOf
      rw [hN, show (((n + 1 : Nat) : Int) - 1).toNat = n by omega]; rfl
    rw [eB]
    obtain ⟨g, hg⟩ : ∃ g : Int → Option (Int × Int), g = fun p => b.tq (f.at p) n := ⟨_, rfl⟩
    rw [← hg]
    have hpit : ∀ up p, -64 ≤ p → p ≤ 64 → Cs gl n_rotor_pitched up [b.iv, f.iv, .int .i64 ((n + 1 : Nat) : Int), .int .i64 p] (pitR (g p)) up := fun up p q1 q2 => by
      rw [hg]; exact c_pitched up b f n g3 p g1 (Fl.at_err g2 q1 q2)
    clear hg eB
    obtain ⟨R, hR⟩ : ∃ R, R = limTo g m N x := ⟨_, rfl⟩
    rw [← hR]
    have hw1 : w64 (y + 1) = y + 1 := by rw [w64, wrap_in] <;> omega
    conv => whnf
    refine .mk (α := {k : Nat // k ≤ N ∧ R = limTo g m (N - k) (x + k)}) (fun k => ⟨[(16, .int .i64 (x + k.1)), (15, .int .i64 (y + 1)), (5, .int .i64 m), (4, .int .i64 y), (2, .int .i64 ((n + 1 : Nat) : Int)), (6, .ptr 0 6 0), (7, .ptr 0 7 0)],
      [(7, [.int .i64 f.w, .int .i64 f.s, .int .i64 f.p]),
       (6, [.lst none 1 b.nl fun i => [.int .i64 (b.lf i)], .lst none 1 b.nd fun i => [.int .i64 (b.df i)], .lst none 4 b.nr fun i => [.int .i64 (b.r1 i), .int .i64 (b.r2 i), .int .i64 (b.r3 i), .int .i64 (b.r4 i)]])], up⟩) (fun k => N - k.1) ⟨0, Nat.zero_le _, by rw [hR]; simp⟩ ⟨?_, ?_, rfl, rfl⟩ ?_
    · exact ⟨leV_int (by show x = x + ((0 : Nat) : Int); omega), leV_int hw1, leV_refl _, leV_refl _, leV_refl _, leV_refl _, leV_refl _, trivial⟩
    · exact ⟨leL_refl _, leL_refl _, trivial⟩
    rintro ⟨k, hk, hRk⟩
    have hw : w64 (x + k + 1) = x + ((k + 1 : Nat) : Int) := by rw [w64, wrap_in] <;> omega
    conv => whnf
    split
    · rename_i h
      have h : decide (x + k ≤ y) = true := h
      have hlt : k < N := by simp at h; omega
      have hp := fun up => hpit up (x + k) (by omega) (by omega)
      have hstep : limTo g m (N - k) (x + k) = match g (x + k) with
          | some t => bif decide (t.2 ≤ m) then some (x + k) else limTo g m (N - (k + 1)) (x + ((k + 1 : Nat) : Int))
          | none => limTo g m (N - (k + 1)) (x + ((k + 1 : Nat) : Int)) := by
        rw [show N - k = (N - (k + 1)) + 1 by omega, show x + ((k + 1 : Nat) : Int) = x + k + 1 by omega]; rfl
      cases hgk : g (x + k) with
      | none =>
        rw [hgk] at hp hstep
        conv => whnf
        refine .mk _ _ _ _ _ (leL_refl _) (hp _) rfl ?_
        conv => whnf
        exact ⟨⟨k + 1, hlt, by rw [hRk, hstep]⟩, ⟨⟨leV_int hw, leV_refl _, leV_refl _, leV_refl _, leV_refl _, leV_refl _, leV_refl _, trivial⟩, ⟨leL_refl _, leL_refl _, trivial⟩, rfl, rfl⟩, (by show N - (k + 1) < N - k; omega)⟩
      | some t =>
        rw [hgk] at hp hstep
        simp only at hstep
        conv => whnf
        refine .mk _ _ _ _ _ (leL_refl _) (hp _) rfl ?_
        conv => whnf
        split
        · rename_i h
          have h : decide (t.2 ≤ m) = true := h
          rw [h, cond_true] at hstep
          conv => whnf
          split
          · rename_i h
            have h : decide (x + k > y) = true := h
            simp at h; omega
          · conv => whnf
            refine ⟨?_, rfl⟩
            show IV.tup [.int .i64 (x + k), .int .i64 0] = _
            have hRR : R = some (x + k) := hRk.trans hstep
            rw [hRR]
        · rename_i h
          have h : decide (t.2 ≤ m) = false := h
          rw [h, cond_false] at hstep
          conv => whnf
          exact ⟨⟨k + 1, hlt, by rw [hRk, hstep]⟩, ⟨⟨leV_int hw, leV_refl _, leV_refl _, leV_refl _, leV_refl _, leV_refl _, leV_refl _, trivial⟩, ⟨leL_refl _, leL_refl _, trivial⟩, rfl, rfl⟩, (by show N - (k + 1) < N - k; omega)⟩
    · rename_i h
      have h : decide (x + k ≤ y) = false := h
      have : k = N := by simp at h; omega
      subst this
      rw [Nat.sub_self] at hRk
      conv => whnf
      split
      · conv => whnf
        refine ⟨?_, rfl⟩
        rw [hRk]; rfl
      · rename_i h
        have h : decide (y + 1 > y) = false := h
        simp at h; omega
end Go.Proofs.YtfoenhiohhmnlaaGreatDoor.Ix

namespace Go.Proofs.YtfoenhiohhmnlaaGreatDoor.Ix
open Go.Proofs
set_option maxRecDepth 100000
set_option linter.unusedVariables false
set_option linter.unusedSimpArgs false
variable {gl : Nat → IV}
theorem Comp.res {P : Program} {gl : Nat → IV} {g : Nat} {up up' : List Ces} {args : List IV} {r r' : IV} (h : Comp P gl g up args r up') (hle : leV r r') : Comp P gl g up args r' up' :=
  ⟨h.1, fun vals w I X β σ hm hl ha => (h.2 vals w I X β σ hm hl ha).mono fun e w' ⟨v, I', s, e1, e2, e3⟩ => ⟨v, I', s, e1, leV_sound _ _ _ hle e2, e3⟩⟩
def exB : Bl := ⟨3, 3, 1, fun i => [0, 1, 2].getD i 0, fun i => [0, 0, 1].getD i 0, fun _ => 2, fun _ => 1, fun _ => 0, fun _ => 256⟩
def exF (p : Int) : Fl := ⟨1, 256, p⟩
theorem c_sample (up : List Ces) : Cs gl n_nacellelaw03_sample up [] exB.iv up := by
  have h : Cs gl n_nacellelaw03_sample up [] (.agg [.lst (some 1) 1 3 (litF 1 [.int .i64 0, .int .i64 1, .int .i64 2]), .lst (some 2) 1 3 (litF 1 [.int .i64 0, .int .i64 0, .int .i64 1]), .lst (some 5) 4 1 (litF 4 [.int .i64 2, .int .i64 1, .int .i64 0, .int .i64 256])]) up := by
    refine mk h_nacellelaw03_sample rfl rfl ?_
    conv => whnf
    exact ⟨rfl, rfl⟩
  refine h.res ⟨⟨.inl rfl, rfl, rfl, fun i hi => ?_⟩, ⟨.inl rfl, rfl, rfl, fun i hi => ?_⟩, ⟨.inl rfl, rfl, rfl, fun i hi => ?_⟩, trivial⟩
  · match i, hi with
    | 0, _ => rfl
    | 1, _ => rfl
    | 2, _ => rfl
  · match i, hi with
    | 0, _ => rfl
    | 1, _ => rfl
    | 2, _ => rfl
  · match i, hi with
    | 0, _ => rfl
theorem c_breeze (up : List Ces) (p : Int) : Cs gl n_nacellelaw03_breeze up [.int .i64 p] (flowI 1 256 p) up := by
  refine mk h_nacellelaw03_breeze rfl rfl ?_
  conv => whnf
  exact ⟨rfl, rfl⟩
theorem a_Inflow (up : List Ces) : Cs gl n_rotor_Inflow up [exB.iv, flowI 1 256 0, .int .i64 0, .agg [.int .i64 1, .int .i64 3]] (.tup [.int .i64 1, .int .i64 0]) up := by
  rw [← show inflR exB (exF 0) 0 1 3 = .tup [.int .i64 1, .int .i64 0] by kernel_rfl]
  exact c_Inflow up exB (exF 0) 0 1 3
theorem a_Balance (up : List Ces) (a z : Int) (h : balR exB (exF 0) 0 a 3 = .tup [.int .i64 z, .int .i64 0]) : Cs gl n_rotor_Balance up [exB.iv, flowI 1 256 0, .int .i64 0, .agg [.int .i64 a, .int .i64 3]] (.tup [.int .i64 z, .int .i64 0]) up := by
  rw [← h]
  exact c_Balance up exB (exF 0) 0 a 3
theorem a_Find (up : List Ces) (p d a e z : Int) (h : findR exB (exF p) 0 d = .tup [.agg [.int .i64 a, .int .i64 e], .int .i64 z]) : Cs gl n_rotor_Find up [exB.iv, flowI 1 256 p, .int .i64 0, .int .i64 d] (.tup [.agg [.int .i64 a, .int .i64 e], .int .i64 z]) up := by
  rw [← h]
  exact c_Find up exB (exF p) 0 d
theorem a_Thrust (up : List Ces) : Cs gl n_rotor_Thrust up [exB.iv, flowI 1 256 0, .int .i64 3] (.tup [.agg [.int .i64 14336, .int .i64 24576], .int .i64 0]) up := by
  rw [← show sumR exB (exF 0) 3 (fun i a d => exB.thr i a d) = .tup [.agg [.int .i64 14336, .int .i64 24576], .int .i64 0] by kernel_rfl]
  exact c_Thrust up exB (exF 0) 3
theorem a_Torque (up : List Ces) (p d x y : Int) (h : sumR exB (exF p) d (fun i a d => exB.tor (exF p) i a d) = .tup [.agg [.int .i64 x, .int .i64 y], .int .i64 0]) : Cs gl n_rotor_Torque up [exB.iv, flowI 1 256 p, .int .i64 d] (.tup [.agg [.int .i64 x, .int .i64 y], .int .i64 0]) up := by
  rw [← h]
  exact c_Torque up exB (exF p) d
theorem a_Best (up : List Ces) : Cs gl n_rotor_Best up [exB.iv, flowI 1 256 0, .int .i64 3, .int .i64 (-1), .int .i64 1] (.tup [.int .i64 0, .agg [.int .i64 512, .int .i64 512], .int .i64 0]) up := by
  rw [← show bestR exB (exF 0) 3 (-1) 1 = .tup [.int .i64 0, .agg [.int .i64 512, .int .i64 512], .int .i64 0] by kernel_rfl]
  exact c_Best up exB (exF 0) 3 (-1) 1
theorem a_Limit (up : List Ces) (m e : Int) (h : limR exB (exF 0) 3 (-1) 1 m = .tup [.int .i64 0, .int .i64 e]) : Cs gl n_rotor_Limit up [exB.iv, flowI 1 256 0, .int .i64 3, .int .i64 (-1), .int .i64 1, .int .i64 m] (.tup [.int .i64 0, .int .i64 e]) up := by
  rw [← h]
  exact c_Limit up exB (exF 0) 3 (-1) 1 m
theorem a_Split (up : List Ces) : Cs gl n_rotor_Split up [.agg [.int .i64 4, .int .i64 1, .int .i64 1]] (.tup [.int .i64 6, .agg [.int .i64 3, .int .i64 0], .int .i64 0]) up := by
  rw [← show splitR 4 1 1 = .tup [.int .i64 6, .agg [.int .i64 3, .int .i64 0], .int .i64 0] by kernel_rfl]
  exact c_Split up 4 1 1
theorem a_Turn (up : List Ces) (hr : gl g_rotor_roots = rootsI) : Cs gl n_rotor_Turn up [.agg [.int .i64 3, .int .i64 0], .int .i64 1] (.tup [.agg [.int .i64 0, .int .i64 3], .int .i64 0]) up := by
  rw [← show turnR 3 0 1 = .tup [.agg [.int .i64 0, .int .i64 3], .int .i64 0] by kernel_rfl]
  exact c_Turn up hr 3 0 1
theorem a_Merge (up : List Ces) (a b x y z e : Int) (h : mergeR 6 a b = .tup [.agg [.int .i64 x, .int .i64 y, .int .i64 z], .int .i64 e]) : Cs gl n_rotor_Merge up [.int .i64 6, .agg [.int .i64 a, .int .i64 b]] (.tup [.agg [.int .i64 x, .int .i64 y, .int .i64 z], .int .i64 e]) up := by
  rw [← h]
  exact c_Merge up 6 a b
theorem a_Times (up : List Ces) : Cs gl n_rotor_Times up [.agg [.int .i64 1, .int .i64 2], .agg [.int .i64 1, .int .i64 2]] (.tup [.agg [.int .i64 (-3), .int .i64 0], .int .i64 0]) up := by
  rw [← show timesR 1 2 1 2 = .tup [.agg [.int .i64 (-3), .int .i64 0], .int .i64 0] by kernel_rfl]
  exact c_Times up 1 2 1 2
theorem a_Norm (up : List Ces) : Cs gl n_rotor_Norm up [.agg [.int .i64 1, .int .i64 2]] (.tup [.int .i64 3, .int .i64 0]) up := by
  rw [← show normR 1 2 = .tup [.int .i64 3, .int .i64 0] by kernel_rfl]
  exact c_Norm up 1 2
abbrev recF : Nat → List IV := litF 3 [.int .i64 4, .int .i64 1, .int .i64 1, .int .i64 1, .int .i64 4, .int .i64 1]
def recX (i : Nat) : Int := [4, 1].getD i 0
def recY (i : Nat) : Int := [1, 4].getD i 0
theorem rec_le : leL [.lst none 3 2 recF] [loadsI none 2 recX recY fun _ => 1] := ⟨⟨.inl rfl, rfl, rfl, fun i hi => by
  match i, hi with
  | 0, _ => rfl
  | 1, _ => rfl⟩, trivial⟩
theorem a_Rotating (up : List Ces) : Cs gl n_rotor_Rotating up [.lst none 3 2 recF] (.tup [.agg [.int .i64 3, .int .i64 3], .int .i64 0]) up := by
  rw [← show rotR 2 recX recY (fun _ => 1) = .tup [.agg [.int .i64 3, .int .i64 3], .int .i64 0] by kernel_rfl]
  exact Comp.le rec_le (c_Rotating up 2 recX recY fun _ => 1)
theorem a_Fixed (up : List Ces) (hr : gl g_rotor_roots = rootsI) : Cs gl n_rotor_Fixed up [.lst none 3 2 recF] (.tup [.agg [.int .i64 0, .int .i64 (-3)], .int .i64 0]) up := by
  rw [← show fixR 2 recX recY (fun _ => 1) = .tup [.agg [.int .i64 0, .int .i64 (-3)], .int .i64 0] by kernel_rfl]
  exact Comp.le rec_le (c_Fixed up hr 2 recX recY fun _ => 1)
theorem itoa_small {i : Nat} (h : i < 10) : Go.Lib.itoa (i : Int) = [UInt8.ofNat (48 + i)] := by rw [Go.Lib.itoa_nonneg, Go.Lib.decDigits_one h]
theorem itoa_256 : Go.Lib.itoa 256 = [50, 53, 54] := by
  rw [show (256 : Int) = ((256 : Nat) : Int) from rfl, Go.Lib.itoa_nonneg, Go.Lib.decDigits, dif_neg (by decide), Go.Lib.decDigits_two (by decide) (by decide)]
  rfl
abbrev exT : List UInt8 := [112, 111, 108, 97, 114, 32, 48, 32, 48, 32, 49, 32, 48, 32, 50, 32, 49, 10, 114, 105, 110, 103, 32, 50, 32, 49, 32, 48, 32, 50, 53, 54, 10]
theorem exB_text : exB.text = exT := by
  have i0 : Go.Lib.itoa 0 = [48] := itoa_small (i := 0) (by decide)
  have i1 : Go.Lib.itoa 1 = [49] := itoa_small (i := 1) (by decide)
  have i2 : Go.Lib.itoa 2 = [50] := itoa_small (i := 2) (by decide)
  have h1 : numsS exB.pol 6 = [32, 48, 32, 48, 32, 49, 32, 48, 32, 50, 32, 49] := by
    show ((((((([] : List UInt8) ++ 32 :: Go.Lib.itoa 0) ++ 32 :: Go.Lib.itoa 0) ++ 32 :: Go.Lib.itoa 1) ++ 32 :: Go.Lib.itoa 0) ++ 32 :: Go.Lib.itoa 2) ++ 32 :: Go.Lib.itoa 1) = _
    rw [i0, i1, i2]; rfl
  have h2 : numsS (exB.ring 0) 4 = [32, 50, 32, 49, 32, 48, 32, 50, 53, 54] := by
    show ((((([] : List UInt8) ++ 32 :: Go.Lib.itoa 2) ++ 32 :: Go.Lib.itoa 1) ++ 32 :: Go.Lib.itoa 0) ++ 32 :: Go.Lib.itoa 256) = _
    rw [i0, i1, i2, itoa_256]; rfl
  show (polarW ++ numsS exB.pol 6 ++ [10]) ++ ([] ++ (ringW ++ numsS (exB.ring 0) 4 ++ [10])) = _
  rw [h1, h2]; rfl
theorem a_Print (up : List Ces) (hp : gl g_internal_strconv_uint64pow10 = powI) : Cs gl n_rotor_Print up [exB.iv] (.tup [.str (bytesS exT), .int .i64 0]) up := by
  have h := c_Print up hp exB
  unfold printR at h
  rw [exB_text, show (exB.err != 0) = false by kernel_rfl] at h
  exact h
theorem c_awake (up : List Ces) (hr : gl g_rotor_roots = rootsI) (hp : gl g_internal_strconv_uint64pow10 = powI) : Cs gl n_nacellelaw03_awake up [] (.bool true) up := by
  refine mk h_nacellelaw03_awake rfl rfl ?_
  conv => whnf
  refine .mk _ _ _ _ _ (leL_refl _) (c_sample _) rfl ?_
  conv => whnf
  refine .mk _ _ _ _ _ (leL_refl _) (c_breeze _ _) rfl ?_
  conv => whnf
  refine .mk _ _ _ _ _ (leL_refl _) (a_Inflow _) rfl ?_
  conv => whnf
  refine .mk _ _ _ _ _ (leL_refl _) (c_sample _) rfl ?_
  conv => whnf
  refine .mk _ _ _ _ _ (leL_refl _) (c_breeze _ _) rfl ?_
  conv => whnf
  refine .mk _ _ _ _ _ (leL_refl _) (a_Balance _ 0 (-32768) (by kernel_rfl)) rfl ?_
  conv => whnf
  refine .mk _ _ _ _ _ (leL_refl _) (c_sample _) rfl ?_
  conv => whnf
  refine .mk _ _ _ _ _ (leL_refl _) (c_breeze _ _) rfl ?_
  conv => whnf
  refine .mk _ _ _ _ _ (leL_refl _) (a_Balance _ 1 (-2048) (by kernel_rfl)) rfl ?_
  conv => whnf
  refine .mk _ _ _ _ _ (leL_refl _) (c_sample _) rfl ?_
  conv => whnf
  refine .mk _ _ _ _ _ (leL_refl _) (c_breeze _ _) rfl ?_
  conv => whnf
  refine .mk _ _ _ _ _ (leL_refl _) (a_Balance _ 2 8192 (by kernel_rfl)) rfl ?_
  conv => whnf
  refine .mk _ _ _ _ _ (leL_refl _) (c_sample _) rfl ?_
  conv => whnf
  refine .mk _ _ _ _ _ (leL_refl _) (c_breeze _ _) rfl ?_
  conv => whnf
  refine .mk _ _ _ _ _ (leL_refl _) (a_Find _ 0 3 1 3 0 (by kernel_rfl)) rfl ?_
  conv => whnf
  refine .mk _ _ _ _ _ (leL_refl _) (c_sample _) rfl ?_
  conv => whnf
  refine .mk _ _ _ _ _ (leL_refl _) (c_breeze _ _) rfl ?_
  conv => whnf
  refine .mk _ _ _ _ _ (leL_refl _) (a_Find _ 0 2 0 2 0 (by kernel_rfl)) rfl ?_
  conv => whnf
  refine .mk _ _ _ _ _ (leL_refl _) (c_sample _) rfl ?_
  conv => whnf
  refine .mk _ _ _ _ _ (leL_refl _) (c_breeze _ _) rfl ?_
  conv => whnf
  refine .mk _ _ _ _ _ (leL_refl _) (a_Find _ 1 3 0 3 0 (by kernel_rfl)) rfl ?_
  conv => whnf
  refine .mk _ _ _ _ _ (leL_refl _) (c_sample _) rfl ?_
  conv => whnf
  refine .mk _ _ _ _ _ (leL_refl _) (c_breeze _ _) rfl ?_
  conv => whnf
  refine .mk _ _ _ _ _ (leL_refl _) (a_Find _ (-1) 3 0 0 7 (by kernel_rfl)) rfl ?_
  conv => whnf
  refine .mk _ _ _ _ _ (leL_refl _) (c_sample _) rfl ?_
  conv => whnf
  refine .mk _ _ _ _ _ (leL_refl _) (c_breeze _ _) rfl ?_
  conv => whnf
  refine .mk _ _ _ _ _ (leL_refl _) (a_Thrust _) rfl ?_
  conv => whnf
  refine .mk _ _ _ _ _ (leL_refl _) (c_sample _) rfl ?_
  conv => whnf
  refine .mk _ _ _ _ _ (leL_refl _) (c_breeze _ _) rfl ?_
  conv => whnf
  refine .mk _ _ _ _ _ (leL_refl _) (a_Torque _ 0 3 512 512 (by kernel_rfl)) rfl ?_
  conv => whnf
  refine .mk _ _ _ _ _ (leL_refl _) (c_sample _) rfl ?_
  conv => whnf
  refine .mk _ _ _ _ _ (leL_refl _) (c_breeze _ _) rfl ?_
  conv => whnf
  refine .mk _ _ _ _ _ (leL_refl _) (a_Torque _ 0 2 (-522240) 512 (by kernel_rfl)) rfl ?_
  conv => whnf
  refine .mk _ _ _ _ _ (leL_refl _) (c_sample _) rfl ?_
  conv => whnf
  refine .mk _ _ _ _ _ (leL_refl _) (c_breeze _ _) rfl ?_
  conv => whnf
  refine .mk _ _ _ _ _ (leL_refl _) (a_Torque _ 1 3 0 1024 (by kernel_rfl)) rfl ?_
  conv => whnf
  refine .mk _ _ _ _ _ (leL_refl _) (c_sample _) rfl ?_
  conv => whnf
  refine .mk _ _ _ _ _ (leL_refl _) (c_breeze _ _) rfl ?_
  conv => whnf
  refine .mk _ _ _ _ _ (leL_refl _) (a_Best _) rfl ?_
  conv => whnf
  refine .mk _ _ _ _ _ (leL_refl _) (c_sample _) rfl ?_
  conv => whnf
  refine .mk _ _ _ _ _ (leL_refl _) (c_breeze _ _) rfl ?_
  conv => whnf
  refine .mk _ _ _ _ _ (leL_refl _) (a_Limit _ 512 0 (by kernel_rfl)) rfl ?_
  conv => whnf
  refine .mk _ _ _ _ _ (leL_refl _) (c_sample _) rfl ?_
  conv => whnf
  refine .mk _ _ _ _ _ (leL_refl _) (c_breeze _ _) rfl ?_
  conv => whnf
  refine .mk _ _ _ _ _ (leL_refl _) (a_Limit _ 511 7 (by kernel_rfl)) rfl ?_
  conv => whnf
  refine .mk _ _ _ _ _ (leL_refl _) (a_Split _) rfl ?_
  conv => whnf
  refine .mk _ _ _ _ _ (leL_refl _) (a_Turn _ hr) rfl ?_
  conv => whnf
  refine .mk _ _ _ _ _ (leL_refl _) (a_Merge _ 0 3 1 4 1 0 (by kernel_rfl)) rfl ?_
  conv => whnf
  refine .mk _ _ _ _ _ (leL_refl _) (a_Merge _ 1 0 0 0 0 30 (by kernel_rfl)) rfl ?_
  conv => whnf
  refine .mk _ _ _ _ _ (leL_refl _) (a_Times _) rfl ?_
  conv => whnf
  refine .mk _ _ _ _ _ (leL_refl _) (a_Norm _) rfl ?_
  conv => whnf
  refine .mk _ _ _ _ _ (leL_refl _) (a_Rotating _) rfl ?_
  conv => whnf
  refine .mk _ _ _ _ _ (leL_refl _) (a_Fixed _ hr) rfl ?_
  conv => whnf
  refine .mk _ _ _ _ _ (leL_refl _) (c_sample _) rfl ?_
  conv => whnf
  refine .mk _ _ _ _ _ (leL_refl _) (a_Print _ hp) rfl ?_
  conv => whnf
  refine ⟨?_, rfl⟩
  show IV.bool ((bytesS exT).toList == (bytesS exT).toList) = _
  rw [beq_self_eq_true]
end Go.Proofs.YtfoenhiohhmnlaaGreatDoor.Ix

namespace Go.Proofs.YtfoenhiohhmnlaaGreatDoor.Ix
open Go.Proofs
set_option maxRecDepth 100000
set_option linter.unusedVariables false
set_option linter.unusedSimpArgs false
variable {gl : Nat → IV}
end Go.Proofs.YtfoenhiohhmnlaaGreatDoor.Ix

namespace Go.Proofs.YtfoenhiohhmnlaaGreatDoor.Ix
open Go.Proofs
set_option maxRecDepth 100000
set_option linter.unusedVariables false
set_option linter.unusedSimpArgs false
theorem goodTo_N (P : List (List UInt8)) (k : Nat) : ∀ n, goodTo (wrdL P k) n = goodN (wrdN (wdsL P k)) n
  | 0 => rfl
  | n + 1 => by
    rw [goodTo, goodN, goodTo_N P k n, good_eq]; rfl
theorem lineOk_N (P : List (List UInt8)) (k : Nat) : lineOk P k = (decide (k + 1 < P.length) && lineN P k) := by
  unfold lineOk lineN
  rw [goodTo_N]
  cases k <;> rfl
theorem lineN_good {P : List (List UInt8)} {k : Nat} (h : lineN P k = true) : goodN (wrdN (wdsL P k)) (cntL P k) = true := by
  unfold lineN at h
  exact (Bool.and_eq_true_iff.1 h).1
theorem num_N {P : List (List UInt8)} {k i : Nat} (h : lineN P k = true) (hi : i < cntL P k) : numL P k i = numM P k i := by
  have h1 := goodN_iff.1 (lineN_good h) i hi
  have h2 : goodW (wrdL P k i) = true := by rw [good_eq]; exact h1
  exact num_eq h2
theorem lineN_four {P : List (List UInt8)} {k : Nat} (h : lineN P (k + 1) = true) : cntL P (k + 1) = 4 := by
  unfold lineN at h
  have h1 := (Bool.and_eq_true_iff.1 h).2
  have h2 := (Bool.and_eq_true_iff.1 h1).2
  unfold fitR at h2
  have : (cntL P (k + 1) : Int) = 4 := by simpa using h2
  omega
theorem fb_lt {g : Nat → Bool} : ∀ {n i : Nat}, fb g n i < i + n → g (fb g n i) = false ∧ i ≤ fb g n i ∧ ∀ j, i ≤ j → j < fb g n i → g j = true
  | 0, i, h => by unfold fb at h; omega
  | n + 1, i, h => by
    unfold fb at h ⊢
    cases q : g i with
    | false => rw [cond_false]; exact ⟨q, Nat.le_refl _, fun j h1 h2 => by omega⟩
    | true =>
      rw [q, cond_true] at h
      obtain ⟨h1, h2, h3⟩ := fb_lt (g := g) (n := n) (i := i + 1) (by omega)
      rw [cond_true]
      refine ⟨h1, by omega, fun j k1 k2 => ?_⟩
      rcases Nat.eq_or_lt_of_le k1 with rfl | hh
      · exact q
      · exact h3 j hh k2
theorem parse_same (l : List UInt8) : (∃ a e, parA (some 24) l = .tup [nilB0, .int .i64 a, .int .i64 e] ∧ refR (splitL 10 l) = .tup [nilB0, .int .i64 a, .int .i64 e]) ∨
    ∃ B B', parA (some 24) l = .tup [bladeT (some 24) B, .int .i64 0, .int .i64 0] ∧ refR (splitL 10 l) = .tup [bladeQ B', .int .i64 0, .int .i64 0] ∧ SameB B B' ∧ NumB B' := by
  by_cases hl0 : l = []
  · subst hl0
    exact .inl ⟨0, 26, rfl, rfl⟩
  have hpa : parA (some 24) l = parR (some 24) (splitL 10 l) := if_neg hl0
  rw [hpa]
  have hM0 : (splitL 10 l).length = 1 → (splitL 10 l).getD 0 [] = [] → False := fun h1 h2 => by
    have hc : l.count 10 = 0 := by have := splitL_len 10 l; omega
    have hnone := splitL_none (c := 10) (l := l) (fun hm => by have := List.count_pos_iff.2 hm; omega)
    rw [hnone] at h2
    exact hl0 h2
  have hpos := List.length_pos_iff.2 (splitL_ne 10 l)
  obtain ⟨P, hP⟩ : ∃ P, P = splitL 10 l := ⟨_, rfl⟩
  rw [← hP] at hM0 hpos ⊢
  obtain ⟨M, hM⟩ : ∃ M, P.length = M + 1 := ⟨P.length - 1, by omega⟩
  have hlast : P.getLastD [] = P.getD M [] := by
    rw [List.getLastD_eq_getLast?, List.getLast?_eq_getElem?, List.getD_eq_getElem?_getD, hM]; rfl
  have hML : M ≤ linesN P := by unfold linesN; split <;> omega
  have ok : ∀ k, k < M → lineOk P k = lineN P k := fun k hk => by rw [lineOk_N, decide_eq_true (by omega), Bool.true_and]
  by_cases hb : fb (lineN P) M 0 < M
  · obtain ⟨k, hk⟩ : ∃ k, k = fb (lineN P) M 0 := ⟨_, rfl⟩
    obtain ⟨h1, h2, h3⟩ := fb_lt (g := lineN P) (n := M) (i := 0) (by omega)
    rw [← hk] at hb h1 h3
    have e : fb (lineOk P) (linesN P) 0 = k := fb_at (Nat.zero_le _) (by omega) (by rw [ok k hb]; exact h1) (fun j _ hj => by rw [ok j (by omega)]; exact h3 j (by omega) hj)
    refine .inl ⟨(k : Nat), 26, ?_, ?_⟩
    · unfold parR
      simp only [e]
      rw [decide_eq_true (by omega), cond_true]
    · unfold refR
      rw [hM, Nat.add_sub_cancel, ← hk]
      simp only
      rw [decide_eq_true hb, cond_true]
  have hall : ∀ k, k < M → lineN P k = true := by
    have key : ∀ n i, ¬ fb (lineN P) n i < i + n → ∀ k, i ≤ k → k < i + n → lineN P k = true := by
      intro n
      induction n with
      | zero => intro i _ k h1 h2; omega
      | succ n ih =>
        intro i hh k h1 h2
        unfold fb at hh
        cases q : lineN P i with
        | false => rw [q, cond_false] at hh; omega
        | true =>
          rw [q, cond_true] at hh
          by_cases hk : k = i
          · rw [hk]; exact q
          · exact ih (i + 1) (by omega) k (by omega) (by omega)
    exact fun k hk => key M 0 (by omega) k (Nat.zero_le _) (by omega)
  have efb : fb (lineN P) (P.length - 1) 0 = M := by rw [hM, Nat.add_sub_cancel, fb_all (fun j _ hj => hall j (by omega))]; omega
  have hR0 : refR P = bif !(P.getD M []).isEmpty || M == 0 then .tup [nilB0, .int .i64 (M : Nat), .int .i64 26] else
      bif (refB P).err != 0 then .tup [nilB0, .int .i64 (M : Nat), .int .i64 (refB P).err] else .tup [bladeQ (refB P), .int .i64 0, .int .i64 0] := by
    unfold refR
    simp only [efb]
    rw [hM, Nat.add_sub_cancel, decide_eq_false (Nat.lt_irrefl M), cond_false]
  by_cases he : P.getD M [] = []
  rotate_left
  · have hN : linesN P = M + 1 := by unfold linesN; rw [hlast, if_neg he, hM]
    have e : fb (lineOk P) (linesN P) 0 = M := fb_at (Nat.zero_le _) (by omega) (by rw [lineOk_N, decide_eq_false (by omega)]; rfl) (fun j _ hj => by rw [ok j hj]; exact hall j hj)
    refine .inl ⟨(M : Nat), 26, ?_, ?_⟩
    · unfold parR
      simp only [e]
      rw [decide_eq_true (by omega), cond_true]
    · rw [hR0]
      have : (P.getD M []).isEmpty = false := by cases h : P.getD M [] with | nil => exact absurd h he | cons _ _ => rfl
      rw [this]; rfl
  have hN : linesN P = M := by unfold linesN; rw [hlast, if_pos he, hM]; rfl
  have hMpos : 1 ≤ M := by
    rcases Nat.eq_zero_or_pos M with h0 | h0
    · subst h0; exact (hM0 hM he).elim
    · exact h0
  have hR1 : refR P = bif (refB P).err != 0 then .tup [nilB0, .int .i64 (M : Nat), .int .i64 (refB P).err] else .tup [bladeQ (refB P), .int .i64 0, .int .i64 0] := by
    rw [hR0, he]
    have : (M == 0) = false := by rw [beq_eq_false_iff_ne]; omega
    rw [this]; rfl
  have hS : SameB (parB P) (refB P) := by
    have h0 := hall 0 (by omega)
    refine ⟨rfl, rfl, (by show linesN P - 1 = P.length - 2; omega), fun i hi => ?_, fun i hi => ?_, fun i hi => ?_, fun i hi => ?_, fun i hi => ?_, fun i hi => ?_⟩
    · have hi : i < cntL P 0 / 2 := hi
      exact num_N h0 (by omega)
    · have hi : i < cntL P 0 / 2 := hi
      exact num_N h0 (by omega)
    all_goals
      have hi : i < P.length - 2 := hi
      have hk := hall (i + 1) (by omega)
      have h4 := lineN_four hk
      exact num_N hk (by omega)
  have efo : fb (lineOk P) (linesN P) 0 = linesN P := by rw [fb_all (fun j _ hj => by rw [ok j (by omega)]; exact hall j (by omega))]; omega
  by_cases hE : (refB P).err = 0
  · refine .inr ⟨parB P, refB P, parR_ok (fun k hk => by rw [ok k (by omega)]; exact hall k (by omega)) (hS.err.trans hE), ?_, hS, numB hE⟩
    rw [hR1, hE]; rfl
  · have q : ((refB P).err != 0) = true := by simpa using hE
    refine .inl ⟨(M : Nat), (refB P).err, ?_, by rw [hR1, q, cond_true]⟩
    unfold parR
    simp only [efo, decide_eq_false (Nat.lt_irrefl (linesN P)), cond_false]
    rw [hS.err, q, cond_true, hN]
end Go.Proofs.YtfoenhiohhmnlaaGreatDoor.Ix

namespace Go.Proofs.YtfoenhiohhmnlaaGreatDoor.Ix
open Go.Proofs
set_option maxRecDepth 100000
set_option linter.unusedVariables false
set_option linter.unusedSimpArgs false
variable {gl : Nat → IV}
theorem c_pParseL (up : List Ces) (s : ByteArray) (q9 : decide ((s.size : Int) > 4096) = true) : Cs gl n_rotor_Parse up [.str s] (.tup [nilB0, .int .i64 0, .int .i64 27]) up := by
  refine mk h_rotor_Parse rfl rfl ?_
  conv => whnf
  split
  rotate_left
  · rename_i h
    exact Bool.noConfusion ((q9).symm.trans h)
  rename_i hN
  clear hN
  conv => whnf
  exact ⟨rfl, rfl⟩
theorem c_rPBladeL (up : List Ces) (s : ByteArray) (q9 : decide ((s.size : Int) > 4096) = true) : Cs gl n_nacelleref03_Parse up [.str s] (.tup [nilB0, .int .i64 0, .int .i64 27]) up := by
  refine mk h_nacelleref03_Parse rfl rfl ?_
  conv => whnf
  split
  rotate_left
  · rename_i h
    exact Bool.noConfusion ((q9).symm.trans h)
  rename_i hN
  clear hN
  conv => whnf
  exact ⟨rfl, rfl⟩
abbrev blade00 : Bl := ⟨0, 0, 0, fun _ => 0, fun _ => 0, fun _ => 0, fun _ => 0, fun _ => 0, fun _ => 0⟩
theorem texts_no (up : List Ces) (hr : gl g_rotor_roots = rootsI) (hp : gl g_internal_strconv_uint64pow10 = powI) (s : ByteArray) (h1 : decide ((s.size : Int) > 300) = true) (h2 : ((s.size : Int) != 4097) = true) :
    Cs gl n_nacellelaw03_RotorTexts up [.str s] (.bool true) up := by
  have hA := fun up => c_awake (gl := gl) up hr hp
  refine mk h_nacellelaw03_RotorTexts rfl rfl ?_
  conv => whnf
  repeat first
    | (refine DRAW.seek ?_; repeat (first | refine TRYD.take ?_ | refine TRYD.next ?_); conv => whnf)
    | (refine HOLD.mk (by first | exact trivial | exact ⟨⟨rfl, rfl⟩, trivial⟩ | exact ⟨⟨rfl, rfl⟩, ⟨rfl, rfl⟩, trivial⟩) ?_; (conv => whnf))
    | (refine CALL0.by (hA ..) rfl ?_; conv => whnf)
    | (refine CALLQ.mk _ _ _ (leL_refl _) (hA ..) rfl ?_; conv => whnf)
  split
  rotate_left
  · rename_i h
    exact Bool.noConfusion ((h1).symm.trans h)
  rename_i hN
  clear hN
  conv => whnf
  repeat first
    | (refine DRAW.seek ?_; repeat (first | refine TRYD.take ?_ | refine TRYD.next ?_); conv => whnf)
    | (refine HOLD.mk (by first | exact trivial | exact ⟨⟨rfl, rfl⟩, trivial⟩ | exact ⟨⟨rfl, rfl⟩, ⟨rfl, rfl⟩, trivial⟩) ?_; (conv => whnf))
    | (refine CALL0.by (hA ..) rfl ?_; conv => whnf)
    | (refine CALLQ.mk _ _ _ (leL_refl _) (hA ..) rfl ?_; conv => whnf)
  split
  rotate_left
  · rename_i h
    exact Bool.noConfusion ((h2).symm.trans h)
  rename_i hN
  clear hN
  conv => whnf
  repeat first
    | (refine DRAW.seek ?_; repeat (first | refine TRYD.take ?_ | refine TRYD.next ?_); conv => whnf)
    | (refine HOLD.mk (by first | exact trivial | exact ⟨⟨rfl, rfl⟩, trivial⟩ | exact ⟨⟨rfl, rfl⟩, ⟨rfl, rfl⟩, trivial⟩) ?_; (conv => whnf))
    | (refine CALL0.by (hA ..) rfl ?_; conv => whnf)
    | (refine CALLQ.mk _ _ _ (leL_refl _) (hA ..) rfl ?_; conv => whnf)
  exact ⟨rfl, rfl⟩
theorem texts_go (up : List Ces) (hr : gl g_rotor_roots = rootsI) (hp : gl g_internal_strconv_uint64pow10 = powI) (s : ByteArray) (h : decide ((s.size : Int) > 300) = false ∨ (decide ((s.size : Int) > 300) = true ∧ ((s.size : Int) != 4097) = false))
    (A B T : IV) (I E : Int) (hPa : ∀ up, Cs gl n_rotor_Parse up [.str s] (.tup [A, .int .i64 I, .int .i64 E]) up) (hPr : ∀ up, Cs gl n_nacelleref03_Parse up [.str s] (.tup [B, .int .i64 I, .int .i64 E]) up)
    (hAB : (A = nilB0 ∧ B = nilB0) ∨ ∃ b b', A = bladeT (some 24) b ∧ B = bladeQ b' ∧ SameB b b' ∧ NumB b') :
    Cs gl n_nacellelaw03_RotorTexts up [.str s] (.bool true) up := by
  have hA := fun up => c_awake (gl := gl) up hr hp
  have qI : (I == I) = true := by simp
  have qE : (E == E) = true := by simp
  rcases hAB with ⟨rfl, rfl⟩ | ⟨b, b', rfl, rfl, hS, hN⟩
  · have hTo : ∀ up, Cs gl n_nacellelaw03_told up [nilB0] (toldI blade00) up := fun up => by
      refine Comp.le (args' := [blade00.iv]) ?_ (c_toldB (gl := gl) up blade00 (Nat.zero_le _))
      exact ⟨⟨rfl, rfl, rfl, trivial⟩, trivial⟩
    have hSB : ∀ up, Cs gl n_nacelleref03_SameBlade up [blade00.iv, nilB0] (.bool true) up := fun up => by
      refine Comp.le (args' := [blade00.iv, blade00.iv]) ?_ (c_rSameBladeR up blade00 (Nat.zero_le _) (Nat.zero_le _) (Nat.zero_le _))
      exact ⟨leV_refl _, ⟨rfl, rfl, rfl, trivial⟩, trivial⟩
    rcases h with h1 | ⟨h1, h2⟩
    · refine mk h_nacellelaw03_RotorTexts rfl rfl ?_
      conv => whnf
      repeat first
        | (refine DRAW.seek ?_; repeat (first | refine TRYD.take ?_ | refine TRYD.next ?_); conv => whnf)
        | (refine HOLD.mk (by first | exact trivial | exact ⟨⟨rfl, rfl⟩, trivial⟩ | exact ⟨⟨rfl, rfl⟩, ⟨rfl, rfl⟩, trivial⟩) ?_; (conv => whnf))
        | (refine CALL0.by (hA ..) rfl ?_; conv => whnf)
        | (refine CALLQ.mk _ _ _ (leL_refl _) (hA ..) rfl ?_; conv => whnf)
      split
      · rename_i h
        exact Bool.noConfusion ((h1).symm.trans h)
      rename_i hN
      clear hN
      conv => whnf
      repeat first
        | (refine DRAW.seek ?_; repeat (first | refine TRYD.take ?_ | refine TRYD.next ?_); conv => whnf)
        | (refine HOLD.mk (by first | exact trivial | exact ⟨⟨rfl, rfl⟩, trivial⟩ | exact ⟨⟨rfl, rfl⟩, ⟨rfl, rfl⟩, trivial⟩) ?_; (conv => whnf))
        | (refine CALL0.by (hPa ..) rfl ?_; conv => whnf)
        | (refine CALLQ.mk _ _ _ (leL_refl _) (hPa ..) rfl ?_; conv => whnf)
        | (refine CALL0.by (hPr ..) rfl ?_; conv => whnf)
        | (refine CALLQ.mk _ _ _ (leL_refl _) (hPr ..) rfl ?_; conv => whnf)
        | (refine CALL0.by (hTo ..) rfl ?_; conv => whnf)
        | (refine CALLQ.mk _ _ _ (leL_refl _) (hTo ..) rfl ?_; conv => whnf)
        | (refine CALL0.by (hSB ..) rfl ?_; conv => whnf)
        | (refine CALLQ.mk _ _ _ (leL_refl _) (hSB ..) rfl ?_; conv => whnf)
      split
      rotate_left
      · rename_i h
        exact Bool.noConfusion ((qI).symm.trans h)
      rename_i hN
      clear hN
      conv => whnf
      exact ⟨congrArg IV.bool qE, rfl⟩
    · refine mk h_nacellelaw03_RotorTexts rfl rfl ?_
      conv => whnf
      repeat first
        | (refine DRAW.seek ?_; repeat (first | refine TRYD.take ?_ | refine TRYD.next ?_); conv => whnf)
        | (refine HOLD.mk (by first | exact trivial | exact ⟨⟨rfl, rfl⟩, trivial⟩ | exact ⟨⟨rfl, rfl⟩, ⟨rfl, rfl⟩, trivial⟩) ?_; (conv => whnf))
        | (refine CALL0.by (hA ..) rfl ?_; conv => whnf)
        | (refine CALLQ.mk _ _ _ (leL_refl _) (hA ..) rfl ?_; conv => whnf)
      split
      rotate_left
      · rename_i h
        exact Bool.noConfusion ((h1).symm.trans h)
      rename_i hN
      clear hN
      conv => whnf
      split
      · rename_i h
        exact Bool.noConfusion ((h2).symm.trans h)
      rename_i hN
      clear hN
      conv => whnf
      repeat first
        | (refine DRAW.seek ?_; repeat (first | refine TRYD.take ?_ | refine TRYD.next ?_); conv => whnf)
        | (refine HOLD.mk (by first | exact trivial | exact ⟨⟨rfl, rfl⟩, trivial⟩ | exact ⟨⟨rfl, rfl⟩, ⟨rfl, rfl⟩, trivial⟩) ?_; (conv => whnf))
        | (refine CALL0.by (hPa ..) rfl ?_; conv => whnf)
        | (refine CALLQ.mk _ _ _ (leL_refl _) (hPa ..) rfl ?_; conv => whnf)
        | (refine CALL0.by (hPr ..) rfl ?_; conv => whnf)
        | (refine CALLQ.mk _ _ _ (leL_refl _) (hPr ..) rfl ?_; conv => whnf)
        | (refine CALL0.by (hTo ..) rfl ?_; conv => whnf)
        | (refine CALLQ.mk _ _ _ (leL_refl _) (hTo ..) rfl ?_; conv => whnf)
        | (refine CALL0.by (hSB ..) rfl ?_; conv => whnf)
        | (refine CALLQ.mk _ _ _ (leL_refl _) (hSB ..) rfl ?_; conv => whnf)
      split
      rotate_left
      · rename_i h
        exact Bool.noConfusion ((qI).symm.trans h)
      rename_i hN
      clear hN
      conv => whnf
      exact ⟨congrArg IV.bool qE, rfl⟩
  · have hl2 := hN.l2
    have hn2 := hN.n2
    have hnd := hN.nd
    have hTo := fun up => c_toldB (gl := gl) up b (by rw [hS.nr]; omega)
    have hSB : ∀ up, Cs gl n_nacelleref03_SameBlade up [b.iv, b'.iv] (.bool true) up := fun up => by
      refine Comp.le ?_ (c_rSameBladeR up b' (by omega) (by omega) (by omega))
      refine ⟨⟨⟨.inl rfl, rfl, hS.nl, fun i hi => ?_⟩, ⟨.inl rfl, rfl, hS.nd, fun i hi => ?_⟩, ⟨.inl rfl, rfl, hS.nr, fun i hi => ?_⟩, trivial⟩, leV_refl _, trivial⟩
      · show [IV.int .i64 _] = [IV.int .i64 _]
        rw [hS.lf i (by have := hS.nl; have : i < _ := hi; omega)]
      · show [IV.int .i64 _] = [IV.int .i64 _]
        rw [hS.df i (by have := hS.nd; have : i < _ := hi; omega)]
      · show [IV.int .i64 _, IV.int .i64 _, IV.int .i64 _, IV.int .i64 _] = [IV.int .i64 _, IV.int .i64 _, IV.int .i64 _, IV.int .i64 _]
        have hi : i < b'.nr := by have := hS.nr; have : i < _ := hi; omega
        rw [hS.r1 i hi, hS.r2 i hi, hS.r3 i hi, hS.r4 i hi]
    rcases h with h1 | ⟨h1, h2⟩
    · refine mk h_nacellelaw03_RotorTexts rfl rfl ?_
      conv => whnf
      repeat first
        | (refine DRAW.seek ?_; repeat (first | refine TRYD.take ?_ | refine TRYD.next ?_); conv => whnf)
        | (refine HOLD.mk (by first | exact trivial | exact ⟨⟨rfl, rfl⟩, trivial⟩ | exact ⟨⟨rfl, rfl⟩, ⟨rfl, rfl⟩, trivial⟩) ?_; (conv => whnf))
        | (refine CALL0.by (hA ..) rfl ?_; conv => whnf)
        | (refine CALLQ.mk _ _ _ (leL_refl _) (hA ..) rfl ?_; conv => whnf)
      split
      · rename_i h
        exact Bool.noConfusion ((h1).symm.trans h)
      rename_i hN
      clear hN
      conv => whnf
      repeat first
        | (refine DRAW.seek ?_; repeat (first | refine TRYD.take ?_ | refine TRYD.next ?_); conv => whnf)
        | (refine HOLD.mk (by first | exact trivial | exact ⟨⟨rfl, rfl⟩, trivial⟩ | exact ⟨⟨rfl, rfl⟩, ⟨rfl, rfl⟩, trivial⟩) ?_; (conv => whnf))
        | (refine CALL0.by (hPa ..) rfl ?_; conv => whnf)
        | (refine CALLQ.mk _ _ _ (leL_refl _) (hPa ..) rfl ?_; conv => whnf)
        | (refine CALL0.by (hPr ..) rfl ?_; conv => whnf)
        | (refine CALLQ.mk _ _ _ (leL_refl _) (hPr ..) rfl ?_; conv => whnf)
        | (refine CALL0.by (hTo ..) rfl ?_; conv => whnf)
        | (refine CALLQ.mk _ _ _ (leL_refl _) (hTo ..) rfl ?_; conv => whnf)
        | (refine CALL0.by (hSB ..) rfl ?_; conv => whnf)
        | (refine CALLQ.mk _ _ _ (leL_refl _) (hSB ..) rfl ?_; conv => whnf)
      split
      rotate_left
      · rename_i h
        exact Bool.noConfusion ((qI).symm.trans h)
      rename_i hN
      clear hN
      conv => whnf
      exact ⟨congrArg IV.bool qE, rfl⟩
    · refine mk h_nacellelaw03_RotorTexts rfl rfl ?_
      conv => whnf
      repeat first
        | (refine DRAW.seek ?_; repeat (first | refine TRYD.take ?_ | refine TRYD.next ?_); conv => whnf)
        | (refine HOLD.mk (by first | exact trivial | exact ⟨⟨rfl, rfl⟩, trivial⟩ | exact ⟨⟨rfl, rfl⟩, ⟨rfl, rfl⟩, trivial⟩) ?_; (conv => whnf))
        | (refine CALL0.by (hA ..) rfl ?_; conv => whnf)
        | (refine CALLQ.mk _ _ _ (leL_refl _) (hA ..) rfl ?_; conv => whnf)
      split
      rotate_left
      · rename_i h
        exact Bool.noConfusion ((h1).symm.trans h)
      rename_i hN
      clear hN
      conv => whnf
      split
      · rename_i h
        exact Bool.noConfusion ((h2).symm.trans h)
      rename_i hN
      clear hN
      conv => whnf
      repeat first
        | (refine DRAW.seek ?_; repeat (first | refine TRYD.take ?_ | refine TRYD.next ?_); conv => whnf)
        | (refine HOLD.mk (by first | exact trivial | exact ⟨⟨rfl, rfl⟩, trivial⟩ | exact ⟨⟨rfl, rfl⟩, ⟨rfl, rfl⟩, trivial⟩) ?_; (conv => whnf))
        | (refine CALL0.by (hPa ..) rfl ?_; conv => whnf)
        | (refine CALLQ.mk _ _ _ (leL_refl _) (hPa ..) rfl ?_; conv => whnf)
        | (refine CALL0.by (hPr ..) rfl ?_; conv => whnf)
        | (refine CALLQ.mk _ _ _ (leL_refl _) (hPr ..) rfl ?_; conv => whnf)
        | (refine CALL0.by (hTo ..) rfl ?_; conv => whnf)
        | (refine CALLQ.mk _ _ _ (leL_refl _) (hTo ..) rfl ?_; conv => whnf)
        | (refine CALL0.by (hSB ..) rfl ?_; conv => whnf)
        | (refine CALLQ.mk _ _ _ (leL_refl _) (hSB ..) rfl ?_; conv => whnf)
      split
      rotate_left
      · rename_i h
        exact Bool.noConfusion ((qI).symm.trans h)
      rename_i hN
      clear hN
      conv => whnf
      exact ⟨congrArg IV.bool qE, rfl⟩
theorem c_RotorTexts (up : List Ces) (hr : gl g_rotor_roots = rootsI) (hp : gl g_internal_strconv_uint64pow10 = powI) (h2 : gl g_strconv_ErrSyntax = errI) (h3 : gl g_strconv_ErrRange = errI) (s : ByteArray) :
    Cs gl n_nacellelaw03_RotorTexts up [.str s] (.bool true) up := by
  have hsz := Go.Lib.size_eq s
  cases h1 : decide ((s.size : Int) > 300) with
  | false =>
    have := of_decide_eq_false h1
    have hl : s.data.toList.length ≤ 4096 := by omega
    have hPa := fun up => c_pParseA (gl := gl) up hp h2 h3 s.data.toList hl
    have hPr := fun up => c_rPBlade (gl := gl) up s.data.toList hl
    rw [bytesS_mk] at hPa hPr
    rcases parse_same s.data.toList with ⟨a, e, g1, g2⟩ | ⟨B, B', g1, g2, g3, g4⟩
    · rw [g1] at hPa
      rw [g2] at hPr
      exact texts_go up hr hp s (.inl h1) _ _ .nilS a e hPa hPr (.inl ⟨rfl, rfl⟩)
    · rw [g1] at hPa
      rw [g2] at hPr
      exact texts_go up hr hp s (.inl h1) _ _ .nilS 0 0 hPa hPr (.inr ⟨B, B', rfl, rfl, g3, g4⟩)
  | true =>
    cases h5 : ((s.size : Int) != 4097) with
    | true => exact texts_no up hr hp s h1 h5
    | false =>
      have h6 : (s.size : Int) = 4097 := by simpa using h5
      have h7 : decide ((s.size : Int) > 4096) = true := decide_eq_true (by omega)
      exact texts_go up hr hp s (.inr ⟨h1, h5⟩) _ _ .nilS 0 27 (fun up => c_pParseL up s h7) (fun up => c_rPBladeL up s h7) (.inl ⟨rfl, rfl⟩)
end Go.Proofs.YtfoenhiohhmnlaaGreatDoor.Ix
