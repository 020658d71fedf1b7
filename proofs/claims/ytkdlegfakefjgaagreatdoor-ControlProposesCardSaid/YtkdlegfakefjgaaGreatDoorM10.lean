/- YtkdlegfakefjgaaGreatDoorM10 -/
import Derived.Test.YtkdlegfakefjgaaGreatDoorM9
namespace Go.Proofs.YtkdlegfakefjgaaGreatDoor.Ix
open Go.Proofs
set_option maxRecDepth 100000
set_option linter.unusedVariables false
set_option linter.unusedSimpArgs false
variable {gl : Nat → IV}
theorem props_no (up : List Ces) (hk : gl g_control_kinds = kindsI) (hg : gl g_internal_strconv_uint64pow10 = powI) (m : Mc) (n : Nat) (x : Nat → Int) (M : Int) (hs : m.smallB = false ∨ m.err ≠ 0 ∨ decide ((n : Int) > 24) = true) :
    Cs gl n_nacellelaw05_ControlProposes up [m.iv, .lst none 1 n fun i => [.int .u8 (x i)], .int .u8 M] (.bool true) up := by
  refine mk h_nacellelaw05_ControlProposes rfl rfl ?_
  have hS := fun up => c_rSmall (gl := gl) up m
  have hA := fun up => c_awake (gl := gl) up hk hg
  have hM := fun up => c_rMachine (gl := gl) up m
  cases qs : m.smallB with
  | false =>
    rw [qs] at hS
    conv => whnf
    repeat first
      | (refine DRAW.seek ?_; repeat (first | refine TRYD.take ?_ | refine TRYD.next ?_); conv => whnf)
      | (refine HOLD.mk (by first | exact trivial | exact ⟨⟨rfl, rfl⟩, trivial⟩ | exact ⟨⟨rfl, rfl⟩, ⟨rfl, rfl⟩, trivial⟩) ?_; (conv => whnf))
      | (refine CALL0.by (hS ..) rfl ?_; conv => whnf)
      | (refine CALLQ.mk _ _ _ (leL_refl _) (hS ..) rfl ?_; conv => whnf)
      | (refine CALL0.by (hA ..) rfl ?_; conv => whnf)
      | (refine CALLQ.mk _ _ _ (leL_refl _) (hA ..) rfl ?_; conv => whnf)
    exact ⟨rfl, rfl⟩
  | true =>
    rw [qs] at hS
    by_cases he : m.err = 0
    rotate_left
    · have qe : (m.err != 0) = true := by simpa using he
      conv => whnf
      repeat first
        | (refine DRAW.seek ?_; repeat (first | refine TRYD.take ?_ | refine TRYD.next ?_); conv => whnf)
        | (refine HOLD.mk (by first | exact trivial | exact ⟨⟨rfl, rfl⟩, trivial⟩ | exact ⟨⟨rfl, rfl⟩, ⟨rfl, rfl⟩, trivial⟩) ?_; (conv => whnf))
        | (refine CALL0.by (hS ..) rfl ?_; conv => whnf)
        | (refine CALLQ.mk _ _ _ (leL_refl _) (hS ..) rfl ?_; conv => whnf)
        | (refine CALL0.by (hM ..) rfl ?_; conv => whnf)
        | (refine CALLQ.mk _ _ _ (leL_refl _) (hM ..) rfl ?_; conv => whnf)
      split
      rotate_left
      · rename_i h
        exact Bool.noConfusion ((qe).symm.trans h)
      rename_i hN
      clear hN
      conv => whnf
      repeat first
        | (refine DRAW.seek ?_; repeat (first | refine TRYD.take ?_ | refine TRYD.next ?_); conv => whnf)
        | (refine HOLD.mk (by first | exact trivial | exact ⟨⟨rfl, rfl⟩, trivial⟩ | exact ⟨⟨rfl, rfl⟩, ⟨rfl, rfl⟩, trivial⟩) ?_; (conv => whnf))
        | (refine CALL0.by (hA ..) rfl ?_; conv => whnf)
        | (refine CALLQ.mk _ _ _ (leL_refl _) (hA ..) rfl ?_; conv => whnf)
      exact ⟨rfl, rfl⟩
    · rw [he] at hM
      have q := (hs.resolve_left (by rw [qs]; nofun)).resolve_left (fun h => h he)
      conv => whnf
      repeat first
        | (refine DRAW.seek ?_; repeat (first | refine TRYD.take ?_ | refine TRYD.next ?_); conv => whnf)
        | (refine HOLD.mk (by first | exact trivial | exact ⟨⟨rfl, rfl⟩, trivial⟩ | exact ⟨⟨rfl, rfl⟩, ⟨rfl, rfl⟩, trivial⟩) ?_; (conv => whnf))
        | (refine CALL0.by (hS ..) rfl ?_; conv => whnf)
        | (refine CALLQ.mk _ _ _ (leL_refl _) (hS ..) rfl ?_; conv => whnf)
        | (refine CALL0.by (hM ..) rfl ?_; conv => whnf)
        | (refine CALLQ.mk _ _ _ (leL_refl _) (hM ..) rfl ?_; conv => whnf)
      split
      rotate_left
      · rename_i h
        exact Bool.noConfusion ((q).symm.trans h)
      rename_i hN
      clear hN
      conv => whnf
      repeat first
        | (refine DRAW.seek ?_; repeat (first | refine TRYD.take ?_ | refine TRYD.next ?_); conv => whnf)
        | (refine HOLD.mk (by first | exact trivial | exact ⟨⟨rfl, rfl⟩, trivial⟩ | exact ⟨⟨rfl, rfl⟩, ⟨rfl, rfl⟩, trivial⟩) ?_; (conv => whnf))
        | (refine CALL0.by (hA ..) rfl ?_; conv => whnf)
        | (refine CALLQ.mk _ _ _ (leL_refl _) (hA ..) rfl ?_; conv => whnf)
      exact ⟨rfl, rfl⟩
def windW (m : Mc) (x : Nat → Int) (i : Nat) : Int := Int.tmod (IntKind.i64.wrap (x i)) (w64 (m.wind + 1))
theorem windW_rng {m : Mc} (hm : m.ok) {x : Nat → Int} {i : Nat} (hx : 0 ≤ x i ∧ x i < 256) : 0 ≤ windW m x i ∧ windW m x i ≤ m.wind := by
  unfold windW
  have hw := hm.wind
  have e1 : IntKind.i64.wrap (x i) = x i := by rw [wrap_in] <;> omega
  have e2 : w64 (m.wind + 1) = m.wind + 1 := by rw [w64, wrap_in] <;> omega
  rw [e1, e2]
  have h1 := Int.tmod_nonneg (a := x i) (m.wind + 1) hx.1
  have h2 := Int.tmod_lt_of_pos (x i) (b := m.wind + 1) (by omega)
  omega
theorem joinP {ι : Type} {body : (Ex → St → Prop) → St → Prop} {Q : Ex → St → Prop} {G : Prop} (Inv0 : ι → St) (C : ι → Prop) (main : (∀ i S, C i → leS S (Inv0 i) → LOOP body Q S) → G)
    (key : ∀ i, C i → ∃ (α : Type) (Inv : α → St) (rk : α → Nat) (a : α), Inv a = Inv0 i ∧ ∀ a, body (Ex.seq (fun S' => ∃ a', leS S' (Inv a') ∧ rk a' < rk a) Q) (Inv a)) : G := by
  refine main fun i S hc hle => ?_
  obtain ⟨α, Inv, rk, a, e, hr⟩ := key i hc
  exact .mk Inv rk a (by rw [e]; exact hle) hr
def lastL (V : Nat → Int) : Nat → Int
  | 0 => 0
  | k + 1 => V k
theorem ramp_hit {V : Nat → Int} {M : Int} {k : Nat} (h1 : decide ((k : Int) > 0) = true) (h2 : decide (rampL V M k < 0) = true) (h3 : decide (maxW (w64 (V k - lastL V k)) (w64 (lastL V k - V k)) > M) = true) : rampL V M (k + 1) = k := by
  cases k with
  | zero => cases h1
  | succ k =>
    show (bif decide (0 < k + 1) && (decide (rampL V M (k + 1) < 0) && stpV V M (k + 1)) then _ else _) = _
    rw [h2, show stpV V M (k + 1) = true from h3, decide_eq_true (by omega : 0 < k + 1)]; rfl
theorem ramp_miss {V : Nat → Int} {M : Int} {k : Nat} (h : decide ((k : Int) > 0) = false ∨ decide (rampL V M k < 0) = false ∨ decide (maxW (w64 (V k - lastL V k)) (w64 (lastL V k - V k)) > M) = false) : rampL V M (k + 1) = rampL V M k := by
  cases k with
  | zero => rfl
  | succ k =>
    show (bif decide (0 < k + 1) && (decide (rampL V M (k + 1) < 0) && stpV V M (k + 1)) then _ else _) = _
    rcases h with h | h | h
    · have := of_decide_eq_false h; omega
    · rw [h, Bool.false_and, Bool.and_false]; rfl
    · rw [show stpV V M (k + 1) = false from h, Bool.and_false, Bool.and_false]; rfl
def lvProp : List (Nat × List Nat) := [(31, [1, 2, 3, 6, 7, 9, 10, 11, 31]), (35, [1, 2, 3, 6, 7, 9, 10, 11, 33, 35]), (43, [1, 2, 3, 6, 7, 9, 10, 11, 43]), (62, [2, 3, 6, 7, 9, 10, 11, 12, 13, 14, 15, 16, 17, 18, 19, 20, 21, 22, 23, 24, 25, 26, 27, 28, 44, 45, 46, 62]), (66, [2, 3, 6, 7, 9, 10, 11, 12, 13, 14, 15, 16, 17, 18, 19, 20, 21, 22, 23, 24, 25, 26, 27, 28, 44, 45, 46, 66]), (71, [2, 3, 6, 7, 9, 10, 11, 12, 13, 14, 15, 16, 17, 18, 19, 20, 21, 22, 23, 24, 25, 26, 27, 28, 44, 45, 46, 71]), (75, [2, 3, 6, 7, 9, 10, 11, 12, 13, 14, 15, 16, 17, 18, 19, 20, 21, 22, 23, 24, 25, 26, 27, 28, 44, 45, 46, 75]), (80, [2, 3, 6, 7, 9, 10, 11, 12, 13, 14, 15, 16, 17, 18, 19, 20, 21, 22, 23, 24, 25, 26, 27, 28, 44, 45, 46, 80]), (84, [2, 3, 6, 7, 9, 10, 11, 12, 13, 14, 15, 16, 17, 18, 19, 20, 21, 22, 23, 24, 25, 26, 27, 28, 44, 45, 46, 84]), (91, [2, 3, 6, 7, 9, 10, 11, 12, 13, 14, 15, 16, 17, 18, 19, 20, 21, 22, 23, 24, 25, 26, 27, 28, 44, 45, 46, 91]), (130, [2, 3, 6, 7, 9, 10, 11, 12, 13, 14, 15, 16, 17, 18, 19, 20, 21, 22, 23, 24, 25, 26, 27, 28, 44, 45, 46, 130]), (136, [2, 3, 6, 7, 9, 10, 11, 12, 13, 14, 15, 16, 17, 18, 19, 20, 21, 22, 23, 24, 25, 26, 27, 28, 44, 45, 46, 136]), (142, [2, 3, 6, 7, 9, 10, 11, 12, 13, 14, 15, 16, 17, 18, 19, 20, 21, 22, 23, 24, 25, 26, 27, 28, 44, 45, 46, 142]), (151, [2, 3, 6, 7, 9, 10, 11, 12, 13, 14, 15, 16, 17, 18, 19, 20, 21, 22, 23, 24, 25, 26, 27, 28, 44, 45, 46, 151]), (166, [2, 3, 6, 7, 9, 10, 11, 12, 13, 14, 15, 16, 17, 18, 19, 20, 21, 22, 23, 24, 25, 26, 27, 28, 44, 45, 46, 164, 166]), (168, [2, 3, 6, 7, 9, 10, 11, 12, 13, 14, 15, 16, 17, 18, 19, 20, 21, 22, 23, 24, 25, 26, 27, 28, 44, 45, 46, 164, 166, 168]), (169, [2, 3, 6, 7, 9, 10, 11, 12, 13, 14, 15, 16, 17, 18, 19, 20, 21, 22, 23, 24, 25, 26, 27, 28, 44, 45, 46, 164, 169]), (174, [2, 3, 6, 7, 9, 10, 11, 12, 13, 14, 15, 16, 17, 18, 19, 20, 21, 22, 23, 24, 25, 26, 27, 28, 44, 45, 46, 172, 174]), (180, [2, 3, 6, 7, 9, 10, 11, 12, 13, 14, 15, 16, 17, 18, 19, 20, 21, 22, 23, 24, 25, 26, 27, 28, 44, 45, 46, 172, 174, 180]), (181, [2, 3, 6, 7, 9, 10, 11, 12, 13, 14, 15, 16, 17, 18, 19, 20, 21, 22, 23, 24, 25, 26, 27, 28, 44, 45, 46, 172, 181]), (256, [6, 255, 256])]
set_option maxHeartbeats 16000000 in
theorem props_go (up : List Ces) (hk : gl g_control_kinds = kindsI) (hg : gl g_internal_strconv_uint64pow10 = powI) (m : Mc) (hm : m.ok) (hs : m.smallB = true) (n : Nat) (q24 : decide ((n : Int) > 24) = false) (x : Nat → Int) (hx : ∀ i, i < n → 0 ≤ x i ∧ x i < 256) (M : Int) (hM0 : 0 ≤ M ∧ M < 256)
    (A F : Nat → Ac) (V : Nat → Int) (T : ByteArray) (X R : Int)
    (hRun : ∀ up, Cs gl n_control_Run up [m.iv, .lst none 1 n fun i => [.int .i64 (windW m x i)]] (.tup [.lst (some (tgR n)) 5 n fun i => (A i).cs, .int .i64 0]) up)
    (hHalf : ∀ up, Cs gl n_control_Run up [m.iv, .lst none 1 (n / 2) fun i => [.int .i64 (windW m x i)]] (.tup [.lst (some (tgR (n / 2))) 5 (n / 2) fun i => (A i).cs, .int .i64 0]) up)
    (hSp : ∀ up, Cs gl n_control_Speeds up [m.iv, .lst none 5 n fun i => (A i).cs] (.tup [.lst (some 20) 1 n fun i => [.int .i64 (V i)], .int .i64 0]) up)
    (hEn : ∀ up, Cs gl n_control_Energy up [m.iv, .lst none 5 n fun i => (A i).cs] (.tup [.int .i64 X, .int .i64 0]) up)
    (hPr : ∀ up, Cs gl n_control_Print up [.lst none 5 n fun i => (A i).cs] (.tup [.str T, .int .i64 0]) up)
    (hPa : ∀ up, Cs gl n_control_Parse up [.str T] (.tup [.lst (some 39) 5 n fun i => (F i).cs, .int .i64 0, .int .i64 0]) up)
    (hRa : ∀ up, Cs gl n_control_Ramps up [.lst none 1 n fun i => [.int .i64 (V i)], .int .i64 (IntKind.i64.wrap M)] (.tup [.int .i64 R, .int .i64 0]) up)
    (hFirst : 0 < n → A 0 = plainA sStart) (hFA : ∀ j, j < n → F j = A j) (hV : ∀ j, j < n → 0 ≤ V j ∧ V j ≤ m.lim) (hX : X = sumL A V n) (hR : R = rampL V (IntKind.i64.wrap M) n) :
    Cs gl n_nacellelaw05_ControlProposes up [m.iv, .lst none 1 n fun i => [.int .u8 (x i)], .int .u8 M] (.bool true) up := by
  have hS := fun up => c_rSmall (gl := gl) up m
  rw [hs] at hS
  have hA := fun up => c_awake (gl := gl) up hk hg
  have hM := fun up => c_rMachine (gl := gl) up m
  rw [Mc.err_of hm] at hM
  have hn : n ≤ 24 := by have := of_decide_eq_false q24; omega
  have hmw := hm.wind
  refine mk h_nacellelaw05_ControlProposes rfl rfl ?_
  conv => whnf
  repeat first
    | (refine DRAW.seek ?_; repeat (first | refine TRYD.take ?_ | refine TRYD.next ?_); conv => whnf)
    | (refine HOLD.mk (by first | exact trivial | exact ⟨⟨rfl, rfl⟩, trivial⟩ | exact ⟨⟨rfl, rfl⟩, ⟨rfl, rfl⟩, trivial⟩) ?_; (conv => whnf))
    | (refine CALL0.cutBy lvProp _ _ _ _ _ (leL_refl _) (hS ..) rfl ?_; conv => whnf)
    | (refine CALL0.by (hS ..) rfl ?_; conv => whnf)
    | (refine CALLQ.mk _ _ _ (leL_refl _) (hS ..) rfl ?_; conv => whnf)
    | (refine CALL0.cutBy lvProp _ _ _ _ _ (leL_refl _) (hM ..) rfl ?_; conv => whnf)
    | (refine CALL0.by (hM ..) rfl ?_; conv => whnf)
    | (refine CALLQ.mk _ _ _ (leL_refl _) (hM ..) rfl ?_; conv => whnf)
  split
  · rename_i h
    exact Bool.noConfusion ((q24).symm.trans h)
  rename_i hN
  clear hN
  conv => whnf
  let F7 : Nat → List IV := fun i => [.int .i64 (windW m x i)]
  refine .mk (α := {i : Nat // i ≤ n}) (fun i => ⟨[(46, .int .i64 i.1), (45, .int .i64 n), (44, .lst none 1 n fun i => [.int .u8 (x i)]), (7, .lst (some 58) 1 i.1 F7), (2, .int .u8 M), (3, .ptr 0 3 0)], [(3, m.cs)], up⟩) (fun i => n - i.1) ⟨0, Nat.zero_le _⟩ ⟨⟨leV_refl _, leV_refl _, leV_refl _, rfl, leV_refl _, leV_refl _, trivial⟩, ⟨leL_refl _, trivial⟩, rfl, rfl⟩ ?_
  rintro ⟨i, hi⟩
  have hw : w64 ((i : Int) + 1) = ((i + 1 : Nat) : Int) := by rw [w64, wrap_in] <;> omega
  by_cases hlt : i < n
  · have q : decide ((i : Int) < n) = true := decide_eq_true (by omega)
    have qz : (w64 (m.wind + 1) != 0) = true := by
      have : w64 (m.wind + 1) = m.wind + 1 := by rw [w64, wrap_in] <;> omega
      rw [this]; simp; omega
    conv => whnf
    split
    rotate_left
    · rename_i h
      exact Bool.noConfusion ((q).symm.trans h)
    rename_i hN
    clear hN
    conv => whnf
    split
    rotate_left
    · rename_i h
      exact Bool.noConfusion ((q).symm.trans h)
    rename_i hN
    clear hN
    conv => whnf
    split
    rotate_left
    · rename_i h
      exact Bool.noConfusion ((qz).symm.trans h)
    rename_i hN
    clear hN
    conv => whnf
    split
    rotate_left
    · rename_i h
      have h' : decide (i + 1 ≤ 1073741824) = false := h
      simp at h' <;> omega
    conv => whnf
    refine ⟨⟨i + 1, hlt⟩, ⟨⟨leV_int hw, leV_refl _, leV_refl _, ⟨.inr rfl, rfl, rfl, fun j hj => ?_⟩, leV_refl _, leV_refl _, trivial⟩, ⟨leL_refl _, trivial⟩, rfl, rfl⟩, (by show n - (i + 1) < n - i; omega)⟩
    show (if j < i then F7 j else litF 1 (F7 i) (j - i)) = F7 j
    split
    · rfl
    · have : j = i := by have : j < i + 1 := hj; omega
      subst this; rw [Nat.sub_self]; rfl
  have q : decide ((i : Int) < n) = false := decide_eq_false (by omega)
  have : i = n := by omega
  subst this
  have n1 : ((i : Int) != i) = false := by simp
  conv => whnf
  split
  · rename_i h
    exact Bool.noConfusion ((q).symm.trans h)
  rename_i hN
  clear hN
  conv => whnf
  repeat first
    | (refine DRAW.seek ?_; repeat (first | refine TRYD.take ?_ | refine TRYD.next ?_); conv => whnf)
    | (refine HOLD.mk (by first | exact trivial | exact ⟨⟨rfl, rfl⟩, trivial⟩ | exact ⟨⟨rfl, rfl⟩, ⟨rfl, rfl⟩, trivial⟩) ?_; (conv => whnf))
    | (refine CALL0.cutBy lvProp _ _ _ _ _ (leL_refl _) (c_machine ..) rfl ?_; conv => whnf)
    | (refine CALL0.by (c_machine ..) rfl ?_; conv => whnf)
    | (refine CALLQ.mk _ _ _ (leL_refl _) (c_machine ..) rfl ?_; conv => whnf)
  split
  rotate_left
  · rename_i h
    have h' : decide (i ≤ 1073741824) = false := h
    simp at h' <;> omega
  conv => whnf
  repeat first
    | (refine DRAW.seek ?_; repeat (first | refine TRYD.take ?_ | refine TRYD.next ?_); conv => whnf)
    | (refine HOLD.mk (by first | exact trivial | exact ⟨⟨rfl, rfl⟩, trivial⟩ | exact ⟨⟨rfl, rfl⟩, ⟨rfl, rfl⟩, trivial⟩) ?_; (conv => whnf))
    | (refine CALL0.cutBy lvProp _ _ _ _ _ (leL_refl _) (hRun ..) rfl ?_; conv => whnf)
    | (refine CALL0.by (hRun ..) rfl ?_; conv => whnf)
    | (refine CALLQ.mk _ _ _ (leL_refl _) (hRun ..) rfl ?_; conv => whnf)
  repeat first
    | (refine DRAW.seek ?_; repeat (first | refine TRYD.take ?_ | refine TRYD.next ?_); conv => whnf)
    | (refine HOLD.mk (by first | exact trivial | exact ⟨⟨rfl, rfl⟩, trivial⟩ | exact ⟨⟨rfl, rfl⟩, ⟨rfl, rfl⟩, trivial⟩) ?_; (conv => whnf))
    | (refine CALL0.cutBy lvProp _ _ _ _ _ (leL_refl _) (c_machine ..) rfl ?_; conv => whnf)
    | (refine CALL0.by (c_machine ..) rfl ?_; conv => whnf)
    | (refine CALLQ.mk _ _ _ (leL_refl _) (c_machine ..) rfl ?_; conv => whnf)
  split
  rotate_left
  · rename_i h
    have h' : decide (i ≤ 1073741824) = false := h
    simp at h' <;> omega
  conv => whnf
  repeat first
    | (refine DRAW.seek ?_; repeat (first | refine TRYD.take ?_ | refine TRYD.next ?_); conv => whnf)
    | (refine HOLD.mk (by first | exact trivial | exact ⟨⟨rfl, rfl⟩, trivial⟩ | exact ⟨⟨rfl, rfl⟩, ⟨rfl, rfl⟩, trivial⟩) ?_; (conv => whnf))
    | (refine CALL0.cutBy lvProp _ _ _ _ _ (leL_refl _) (hSp ..) rfl ?_; conv => whnf)
    | (refine CALL0.by (hSp ..) rfl ?_; conv => whnf)
    | (refine CALLQ.mk _ _ _ (leL_refl _) (hSp ..) rfl ?_; conv => whnf)
  repeat first
    | (refine DRAW.seek ?_; repeat (first | refine TRYD.take ?_ | refine TRYD.next ?_); conv => whnf)
    | (refine HOLD.mk (by first | exact trivial | exact ⟨⟨rfl, rfl⟩, trivial⟩ | exact ⟨⟨rfl, rfl⟩, ⟨rfl, rfl⟩, trivial⟩) ?_; (conv => whnf))
    | (refine CALL0.cutBy lvProp _ _ _ _ _ (leL_refl _) (c_machine ..) rfl ?_; conv => whnf)
    | (refine CALL0.by (c_machine ..) rfl ?_; conv => whnf)
    | (refine CALLQ.mk _ _ _ (leL_refl _) (c_machine ..) rfl ?_; conv => whnf)
  split
  rotate_left
  · rename_i h
    have h' : decide (i ≤ 1073741824) = false := h
    simp at h' <;> omega
  conv => whnf
  repeat first
    | (refine DRAW.seek ?_; repeat (first | refine TRYD.take ?_ | refine TRYD.next ?_); conv => whnf)
    | (refine HOLD.mk (by first | exact trivial | exact ⟨⟨rfl, rfl⟩, trivial⟩ | exact ⟨⟨rfl, rfl⟩, ⟨rfl, rfl⟩, trivial⟩) ?_; (conv => whnf))
    | (refine CALL0.cutBy lvProp _ _ _ _ _ (leL_refl _) (hEn ..) rfl ?_; conv => whnf)
    | (refine CALL0.by (hEn ..) rfl ?_; conv => whnf)
    | (refine CALLQ.mk _ _ _ (leL_refl _) (hEn ..) rfl ?_; conv => whnf)
  split
  rotate_left
  · rename_i h
    have h' : decide (i ≤ 1073741824) = false := h
    simp at h' <;> omega
  conv => whnf
  repeat first
    | (refine DRAW.seek ?_; repeat (first | refine TRYD.take ?_ | refine TRYD.next ?_); conv => whnf)
    | (refine HOLD.mk (by first | exact trivial | exact ⟨⟨rfl, rfl⟩, trivial⟩ | exact ⟨⟨rfl, rfl⟩, ⟨rfl, rfl⟩, trivial⟩) ?_; (conv => whnf))
    | (refine CALL0.cutBy lvProp _ _ _ _ _ (leL_refl _) (hPr ..) rfl ?_; conv => whnf)
    | (refine CALL0.by (hPr ..) rfl ?_; conv => whnf)
    | (refine CALLQ.mk _ _ _ (leL_refl _) (hPr ..) rfl ?_; conv => whnf)
  split
  · rename_i h
    exact Bool.noConfusion ((n1).symm.trans h)
  rename_i hN
  clear hN
  conv => whnf
  split
  · rename_i h
    exact Bool.noConfusion ((n1).symm.trans h)
  rename_i hN
  clear hN
  conv => whnf
  have eh : IntKind.i64.wrap (Int.tdiv (i : Int) 2) = ((i / 2 : Nat) : Int) := by
    have : Int.tdiv (i : Int) 2 = ((i / 2 : Nat) : Int) := rfl
    rw [this, wrap_in] <;> omega
  have qh : decide (((i / 2 : Nat) : Int) ≤ (i : Int)) = true := decide_eq_true (by omega)
  have hOF := fun up => c_own (gl := gl) up i (by omega) F
  have hOA := fun up => c_own (gl := gl) up i (by omega) A
  have hOh := fun up => c_own (gl := gl) up (i / 2) (by omega) A
  have hSF : ∀ up, Cs gl n_nacelleref05_SameActs up [.lst none 5 i fun k => (F k).cs, .lst none 5 i fun k => (A k).cs] (.bool true) up := fun up =>
    Comp.le (args' := [.lst none 5 i fun k => (F k).cs, .lst none 5 i fun k => (F k).cs]) ⟨leV_refl _, ⟨.inl rfl, rfl, rfl, fun j hj => by show (A j).cs = (F j).cs; rw [hFA j hj]⟩, trivial⟩ (c_rSameActs up i (by omega) F)
  have hHalf2 : ∀ up, Cs gl n_control_Run up [m.iv, .lst none 1 (i / 2) fun k => F7 (0 + k)] (.tup [.lst (some (tgR (i / 2))) 5 (i / 2) fun i => (A i).cs, .int .i64 0]) up := fun up =>
    Comp.le (args' := [m.iv, .lst none 1 (i / 2) F7]) ⟨leV_refl _, ⟨.inl rfl, rfl, rfl, fun j hj => by show F7 (0 + j) = F7 j; rw [Nat.zero_add]⟩, trivial⟩ (hHalf up)
  have hOs : ∀ up, Cs gl n_nacellelaw05_own up [.lst none 5 (i / 2) fun k => (A (0 + k)).cs] (.lst (some 15) 5 (i / 2) fun i => (A i).cs) up := fun up =>
    Comp.le (args' := [.lst none 5 (i / 2) fun k => (A k).cs]) ⟨⟨.inl rfl, rfl, rfl, fun j hj => by show (A (0 + j)).cs = (A j).cs; rw [Nat.zero_add]⟩, trivial⟩ (hOh up)
  have hSA := fun up => c_rSameActs (gl := gl) up (i / 2) (by omega) A
  apply joinP (ι := Unit) (Inv0 := fun _ => ⟨[(186, .int .i64 ((0 : Nat) : Int)), (185, .int .i64 i), (184, .lst none 5 i fun j => (A j).cs), (12, .lst none 1 i fun j => [.int .i64 (V j)]), (14, .int .i64 X), (23, .int .i64 R), (25, .int .i64 (sumL A V 0)), (26, .int .i64 (rampL V (IntKind.i64.wrap M) 0)), (27, .int .i64 (lastL V 0)), (2, .int .u8 M), (3, .ptr 0 3 0)], [(3, m.cs)], up⟩) (C := fun _ => True)
  case main =>
    intro key
    cases q0 : decide ((i : Int) > 0) with
    | false =>
      conv => whnf
      repeat first
        | (refine DRAW.seek ?_; repeat (first | refine TRYD.take ?_ | refine TRYD.next ?_); conv => whnf)
        | (refine HOLD.mk (by first | exact trivial | exact ⟨⟨rfl, rfl⟩, trivial⟩ | exact ⟨⟨rfl, rfl⟩, ⟨rfl, rfl⟩, trivial⟩) ?_; (conv => whnf))
        | (refine CALL0.cutBy lvProp _ _ _ _ _ (leL_refl _) (hPa ..) rfl ?_; conv => whnf)
        | (refine CALL0.by (hPa ..) rfl ?_; conv => whnf)
        | (refine CALLQ.mk _ _ _ (leL_refl _) (hPa ..) rfl ?_; conv => whnf)
        | (refine CALL0.cutBy lvProp _ _ _ _ _ (leL_refl _) (c_machine ..) rfl ?_; conv => whnf)
        | (refine CALL0.by (c_machine ..) rfl ?_; conv => whnf)
        | (refine CALLQ.mk _ _ _ (leL_refl _) (c_machine ..) rfl ?_; conv => whnf)
      rw [eh]
      conv => whnf
      split
      rotate_left
      · rename_i h
        exact Bool.noConfusion ((qh).symm.trans h)
      rename_i hN
      clear hN
      conv => whnf
      repeat first
        | (refine DRAW.seek ?_; repeat (first | refine TRYD.take ?_ | refine TRYD.next ?_); conv => whnf)
        | (refine HOLD.mk (by first | exact trivial | exact ⟨⟨rfl, rfl⟩, trivial⟩ | exact ⟨⟨rfl, rfl⟩, ⟨rfl, rfl⟩, trivial⟩) ?_; (conv => whnf))
        | (refine CALL0.cutBy lvProp _ _ _ _ _ (leL_refl _) (hHalf2 ..) rfl ?_; conv => whnf)
        | (refine CALL0.by (hHalf2 ..) rfl ?_; conv => whnf)
        | (refine CALLQ.mk _ _ _ (leL_refl _) (hHalf2 ..) rfl ?_; conv => whnf)
      split
      rotate_left
      · rename_i h
        have h' : decide (i ≤ 1073741824) = false := h
        simp at h' <;> omega
      conv => whnf
      repeat first
        | (refine DRAW.seek ?_; repeat (first | refine TRYD.take ?_ | refine TRYD.next ?_); conv => whnf)
        | (refine HOLD.mk (by first | exact trivial | exact ⟨⟨rfl, rfl⟩, trivial⟩ | exact ⟨⟨rfl, rfl⟩, ⟨rfl, rfl⟩, trivial⟩) ?_; (conv => whnf))
        | (refine CALL0.cutBy lvProp _ _ _ _ _ (leL_refl _) (hRa ..) rfl ?_; conv => whnf)
        | (refine CALL0.by (hRa ..) rfl ?_; conv => whnf)
        | (refine CALLQ.mk _ _ _ (leL_refl _) (hRa ..) rfl ?_; conv => whnf)
      repeat first
        | (refine DRAW.seek ?_; repeat (first | refine TRYD.take ?_ | refine TRYD.next ?_); conv => whnf)
        | (refine HOLD.mk (by first | exact trivial | exact ⟨⟨rfl, rfl⟩, trivial⟩ | exact ⟨⟨rfl, rfl⟩, ⟨rfl, rfl⟩, trivial⟩) ?_; (conv => whnf))
        | (refine CALL0.cutBy lvProp _ _ _ _ _ (leL_refl _) (hOF ..) rfl ?_; conv => whnf)
        | (refine CALL0.by (hOF ..) rfl ?_; conv => whnf)
        | (refine CALLQ.mk _ _ _ (leL_refl _) (hOF ..) rfl ?_; conv => whnf)
        | (refine CALL0.cutBy lvProp _ _ _ _ _ (leL_refl _) (hOA ..) rfl ?_; conv => whnf)
        | (refine CALL0.by (hOA ..) rfl ?_; conv => whnf)
        | (refine CALLQ.mk _ _ _ (leL_refl _) (hOA ..) rfl ?_; conv => whnf)
        | (refine CALL0.cutBy lvProp _ _ _ _ _ (leL_refl _) (hSF ..) rfl ?_; conv => whnf)
        | (refine CALL0.by (hSF ..) rfl ?_; conv => whnf)
        | (refine CALLQ.mk _ _ _ (leL_refl _) (hSF ..) rfl ?_; conv => whnf)
        | (refine CALL0.cutBy lvProp _ _ _ _ _ (leL_refl _) (hOh ..) rfl ?_; conv => whnf)
        | (refine CALL0.by (hOh ..) rfl ?_; conv => whnf)
        | (refine CALLQ.mk _ _ _ (leL_refl _) (hOh ..) rfl ?_; conv => whnf)
      rw [eh]
      conv => whnf
      split
      rotate_left
      · rename_i h
        exact Bool.noConfusion ((qh).symm.trans h)
      rename_i hN
      clear hN
      conv => whnf
      repeat first
        | (refine DRAW.seek ?_; repeat (first | refine TRYD.take ?_ | refine TRYD.next ?_); conv => whnf)
        | (refine HOLD.mk (by first | exact trivial | exact ⟨⟨rfl, rfl⟩, trivial⟩ | exact ⟨⟨rfl, rfl⟩, ⟨rfl, rfl⟩, trivial⟩) ?_; (conv => whnf))
        | (refine CALL0.cutBy lvProp _ _ _ _ _ (leL_refl _) (hOs ..) rfl ?_; conv => whnf)
        | (refine CALL0.by (hOs ..) rfl ?_; conv => whnf)
        | (refine CALLQ.mk _ _ _ (leL_refl _) (hOs ..) rfl ?_; conv => whnf)
        | (refine CALL0.cutBy lvProp _ _ _ _ _ (leL_refl _) (hSA ..) rfl ?_; conv => whnf)
        | (refine CALL0.by (hSA ..) rfl ?_; conv => whnf)
        | (refine CALLQ.mk _ _ _ (leL_refl _) (hSA ..) rfl ?_; conv => whnf)
      exact key () _ trivial ⟨⟨leV_refl _, leV_refl _, ⟨.inl rfl, rfl, rfl, fun _ _ => rfl⟩, ⟨.inl rfl, rfl, rfl, fun _ _ => rfl⟩, leV_refl _, leV_refl _, leV_refl _, leV_refl _, leV_refl _, leV_refl _, leV_refl _, trivial⟩, ⟨leL_refl _, trivial⟩, rfl, rfl⟩
    | true =>
      have hi0 : 0 < i := by have := of_decide_eq_true q0; omega
      have q0' : decide ((0 : Int) < (i : Int)) = true := decide_eq_true (by omega)
      have qf : (!(eqS (A 0).kind sStart && ((A 0).wind == 0 && ((A 0).pitch == 0 && ((A 0).tor == 0 && ((A 0).stuck == -1 && true)))))) = false := by
        rw [hFirst hi0, show eqS (plainA sStart).kind sStart = true from eq_self _]; rfl
      conv => whnf
      split
      rotate_left
      · rename_i h
        exact Bool.noConfusion ((q0').symm.trans h)
      rename_i hN
      clear hN
      conv => whnf
      split
      · rename_i h
        exact Bool.noConfusion ((qf).symm.trans h)
      rename_i hN
      clear hN
      conv => whnf
      repeat first
        | (refine DRAW.seek ?_; repeat (first | refine TRYD.take ?_ | refine TRYD.next ?_); conv => whnf)
        | (refine HOLD.mk (by first | exact trivial | exact ⟨⟨rfl, rfl⟩, trivial⟩ | exact ⟨⟨rfl, rfl⟩, ⟨rfl, rfl⟩, trivial⟩) ?_; (conv => whnf))
        | (refine CALL0.cutBy lvProp _ _ _ _ _ (leL_refl _) (hPa ..) rfl ?_; conv => whnf)
        | (refine CALL0.by (hPa ..) rfl ?_; conv => whnf)
        | (refine CALLQ.mk _ _ _ (leL_refl _) (hPa ..) rfl ?_; conv => whnf)
        | (refine CALL0.cutBy lvProp _ _ _ _ _ (leL_refl _) (c_machine ..) rfl ?_; conv => whnf)
        | (refine CALL0.by (c_machine ..) rfl ?_; conv => whnf)
        | (refine CALLQ.mk _ _ _ (leL_refl _) (c_machine ..) rfl ?_; conv => whnf)
      rw [eh]
      conv => whnf
      split
      rotate_left
      · rename_i h
        exact Bool.noConfusion ((qh).symm.trans h)
      rename_i hN
      clear hN
      conv => whnf
      repeat first
        | (refine DRAW.seek ?_; repeat (first | refine TRYD.take ?_ | refine TRYD.next ?_); conv => whnf)
        | (refine HOLD.mk (by first | exact trivial | exact ⟨⟨rfl, rfl⟩, trivial⟩ | exact ⟨⟨rfl, rfl⟩, ⟨rfl, rfl⟩, trivial⟩) ?_; (conv => whnf))
        | (refine CALL0.cutBy lvProp _ _ _ _ _ (leL_refl _) (hHalf2 ..) rfl ?_; conv => whnf)
        | (refine CALL0.by (hHalf2 ..) rfl ?_; conv => whnf)
        | (refine CALLQ.mk _ _ _ (leL_refl _) (hHalf2 ..) rfl ?_; conv => whnf)
      split
      rotate_left
      · rename_i h
        have h' : decide (i ≤ 1073741824) = false := h
        simp at h' <;> omega
      conv => whnf
      repeat first
        | (refine DRAW.seek ?_; repeat (first | refine TRYD.take ?_ | refine TRYD.next ?_); conv => whnf)
        | (refine HOLD.mk (by first | exact trivial | exact ⟨⟨rfl, rfl⟩, trivial⟩ | exact ⟨⟨rfl, rfl⟩, ⟨rfl, rfl⟩, trivial⟩) ?_; (conv => whnf))
        | (refine CALL0.cutBy lvProp _ _ _ _ _ (leL_refl _) (hRa ..) rfl ?_; conv => whnf)
        | (refine CALL0.by (hRa ..) rfl ?_; conv => whnf)
        | (refine CALLQ.mk _ _ _ (leL_refl _) (hRa ..) rfl ?_; conv => whnf)
      repeat first
        | (refine DRAW.seek ?_; repeat (first | refine TRYD.take ?_ | refine TRYD.next ?_); conv => whnf)
        | (refine HOLD.mk (by first | exact trivial | exact ⟨⟨rfl, rfl⟩, trivial⟩ | exact ⟨⟨rfl, rfl⟩, ⟨rfl, rfl⟩, trivial⟩) ?_; (conv => whnf))
        | (refine CALL0.cutBy lvProp _ _ _ _ _ (leL_refl _) (hOF ..) rfl ?_; conv => whnf)
        | (refine CALL0.by (hOF ..) rfl ?_; conv => whnf)
        | (refine CALLQ.mk _ _ _ (leL_refl _) (hOF ..) rfl ?_; conv => whnf)
        | (refine CALL0.cutBy lvProp _ _ _ _ _ (leL_refl _) (hOA ..) rfl ?_; conv => whnf)
        | (refine CALL0.by (hOA ..) rfl ?_; conv => whnf)
        | (refine CALLQ.mk _ _ _ (leL_refl _) (hOA ..) rfl ?_; conv => whnf)
        | (refine CALL0.cutBy lvProp _ _ _ _ _ (leL_refl _) (hSF ..) rfl ?_; conv => whnf)
        | (refine CALL0.by (hSF ..) rfl ?_; conv => whnf)
        | (refine CALLQ.mk _ _ _ (leL_refl _) (hSF ..) rfl ?_; conv => whnf)
        | (refine CALL0.cutBy lvProp _ _ _ _ _ (leL_refl _) (hOh ..) rfl ?_; conv => whnf)
        | (refine CALL0.by (hOh ..) rfl ?_; conv => whnf)
        | (refine CALLQ.mk _ _ _ (leL_refl _) (hOh ..) rfl ?_; conv => whnf)
      rw [eh]
      conv => whnf
      split
      rotate_left
      · rename_i h
        exact Bool.noConfusion ((qh).symm.trans h)
      rename_i hN
      clear hN
      conv => whnf
      repeat first
        | (refine DRAW.seek ?_; repeat (first | refine TRYD.take ?_ | refine TRYD.next ?_); conv => whnf)
        | (refine HOLD.mk (by first | exact trivial | exact ⟨⟨rfl, rfl⟩, trivial⟩ | exact ⟨⟨rfl, rfl⟩, ⟨rfl, rfl⟩, trivial⟩) ?_; (conv => whnf))
        | (refine CALL0.cutBy lvProp _ _ _ _ _ (leL_refl _) (hOs ..) rfl ?_; conv => whnf)
        | (refine CALL0.by (hOs ..) rfl ?_; conv => whnf)
        | (refine CALLQ.mk _ _ _ (leL_refl _) (hOs ..) rfl ?_; conv => whnf)
        | (refine CALL0.cutBy lvProp _ _ _ _ _ (leL_refl _) (hSA ..) rfl ?_; conv => whnf)
        | (refine CALL0.by (hSA ..) rfl ?_; conv => whnf)
        | (refine CALLQ.mk _ _ _ (leL_refl _) (hSA ..) rfl ?_; conv => whnf)
      exact key () _ trivial ⟨⟨leV_refl _, leV_refl _, ⟨.inl rfl, rfl, rfl, fun _ _ => rfl⟩, ⟨.inl rfl, rfl, rfl, fun _ _ => rfl⟩, leV_refl _, leV_refl _, leV_refl _, leV_refl _, leV_refl _, leV_refl _, leV_refl _, trivial⟩, ⟨leL_refl _, trivial⟩, rfl, rfl⟩
  case key =>
    intro _ _
    refine ⟨{k : Nat // k ≤ i}, fun k => ⟨[(186, .int .i64 k.1), (185, .int .i64 i), (184, .lst none 5 i fun j => (A j).cs), (12, .lst none 1 i fun j => [.int .i64 (V j)]), (14, .int .i64 X), (23, .int .i64 R), (25, .int .i64 (sumL A V k.1)), (26, .int .i64 (rampL V (IntKind.i64.wrap M) k.1)), (27, .int .i64 (lastL V k.1)), (2, .int .u8 M), (3, .ptr 0 3 0)], [(3, m.cs)], up⟩, fun k => i - k.1, ⟨0, Nat.zero_le _⟩, rfl, ?_⟩
    rintro ⟨k, hk⟩
    have hw : w64 ((k : Int) + 1) = ((k + 1 : Nat) : Int) := by rw [w64, wrap_in] <;> omega
    by_cases hlt : k < i
    · have q : decide ((k : Int) < i) = true := decide_eq_true (by omega)
      have qa : decide (V k < 0) = false := decide_eq_false (by have := hV k hlt; omega)
      have qb : decide (V k > m.lim) = false := decide_eq_false (by have := hV k hlt; omega)
      conv => whnf
      split
      rotate_left
      · rename_i h
        exact Bool.noConfusion ((q).symm.trans h)
      rename_i hN
      clear hN
      conv => whnf
      split
      rotate_left
      · rename_i h
        exact Bool.noConfusion ((q).symm.trans h)
      rename_i hN
      clear hN
      conv => whnf
      repeat first
        | (refine DRAW.seek ?_; repeat (first | refine TRYD.take ?_ | refine TRYD.next ?_); conv => whnf)
        | (refine HOLD.mk (by first | exact trivial | exact ⟨⟨rfl, rfl⟩, trivial⟩ | exact ⟨⟨rfl, rfl⟩, ⟨rfl, rfl⟩, trivial⟩) ?_; (conv => whnf))
        | (refine CALL0.cutBy lvProp _ _ _ _ _ (leL_refl _) (q ..) rfl ?_; conv => whnf)
        | (refine CALL0.by (q ..) rfl ?_; conv => whnf)
        | (refine CALLQ.mk _ _ _ (leL_refl _) (q ..) rfl ?_; conv => whnf)
      split
      rotate_left
      · rename_i h
        exact Bool.noConfusion ((q).symm.trans h)
      rename_i hN
      clear hN
      conv => whnf
      split
      · rename_i h
        exact Bool.noConfusion ((qa).symm.trans h)
      rename_i hN
      clear hN
      conv => whnf
      split
      rotate_left
      · rename_i h
        exact Bool.noConfusion ((q).symm.trans h)
      rename_i hN
      clear hN
      conv => whnf
      split
      · rename_i h
        exact Bool.noConfusion ((qb).symm.trans h)
      rename_i hN
      clear hN
      conv => whnf
      rcases Bool.eq_false_or_eq_true (eqS (A k).kind sTick) with qt | qt
      · have hsum : w64 (sumL A V k + w64 ((A k).tor * V k)) = sumL A V (k + 1) := by
          show _ = bif eqS (A k).kind sTick then _ else _
          rw [qt]; rfl
        split
        rotate_left
        · rename_i h
          exact Bool.noConfusion ((qt).symm.trans h)
        rename_i hN
        clear hN
        conv => whnf
        repeat first
          | (refine DRAW.seek ?_; repeat (first | refine TRYD.take ?_ | refine TRYD.next ?_); conv => whnf)
          | (refine HOLD.mk (by first | exact trivial | exact ⟨⟨rfl, rfl⟩, trivial⟩ | exact ⟨⟨rfl, rfl⟩, ⟨rfl, rfl⟩, trivial⟩) ?_; (conv => whnf))
          | (refine CALL0.cutBy lvProp _ _ _ _ _ (leL_refl _) (q ..) rfl ?_; conv => whnf)
          | (refine CALL0.by (q ..) rfl ?_; conv => whnf)
          | (refine CALLQ.mk _ _ _ (leL_refl _) (q ..) rfl ?_; conv => whnf)
        split
        rotate_left
        · rename_i h
          exact Bool.noConfusion ((q).symm.trans h)
        rename_i hN
        clear hN
        conv => whnf
        repeat first
          | (refine DRAW.seek ?_; repeat (first | refine TRYD.take ?_ | refine TRYD.next ?_); conv => whnf)
          | (refine HOLD.mk (by first | exact trivial | exact ⟨⟨rfl, rfl⟩, trivial⟩ | exact ⟨⟨rfl, rfl⟩, ⟨rfl, rfl⟩, trivial⟩) ?_; (conv => whnf))
          | (refine CALL0.cutBy lvProp _ _ _ _ _ (leL_refl _) (q ..) rfl ?_; conv => whnf)
          | (refine CALL0.by (q ..) rfl ?_; conv => whnf)
          | (refine CALLQ.mk _ _ _ (leL_refl _) (q ..) rfl ?_; conv => whnf)
        rcases Bool.eq_false_or_eq_true (decide ((k : Int) > 0)) with qk | qk
        · rcases Bool.eq_false_or_eq_true (decide (rampL V (IntKind.i64.wrap M) k < 0)) with qr | qr
          · rcases Bool.eq_false_or_eq_true (decide (maxW (w64 (V k - lastL V k)) (w64 (lastL V k - V k)) > IntKind.i64.wrap M)) with qs | qs
            · have hramp : (k : Int) = rampL V (IntKind.i64.wrap M) (k + 1) := (ramp_hit qk qr qs).symm
              split
              rotate_left
              · rename_i h
                exact Bool.noConfusion ((qk).symm.trans h)
              rename_i hN
              clear hN
              conv => whnf
              split
              rotate_left
              · rename_i h
                exact Bool.noConfusion ((qr).symm.trans h)
              rename_i hN
              clear hN
              conv => whnf
              split
              rotate_left
              · rename_i h
                exact Bool.noConfusion ((q).symm.trans h)
              rename_i hN
              clear hN
              conv => whnf
              split
              rotate_left
              · rename_i h
                exact Bool.noConfusion ((q).symm.trans h)
              rename_i hN
              clear hN
              conv => whnf
              split
              rotate_left
              · rename_i h
                exact Bool.noConfusion ((qs).symm.trans h)
              rename_i hN
              clear hN
              conv => whnf
              split
              rotate_left
              · rename_i h
                exact Bool.noConfusion ((q).symm.trans h)
              rename_i hN
              clear hN
              conv => whnf
              refine ⟨⟨k + 1, hlt⟩, ⟨⟨leV_int hw, leV_refl _, leV_refl _, leV_refl _, leV_refl _, leV_refl _, leV_int hsum, leV_int hramp, leV_refl _, leV_refl _, leV_refl _, trivial⟩, ⟨leL_refl _, trivial⟩, rfl, rfl⟩, (by show i - (k + 1) < i - k; omega)⟩
            · have hramp : rampL V (IntKind.i64.wrap M) k = rampL V (IntKind.i64.wrap M) (k + 1) := (ramp_miss (.inr (.inr qs))).symm
              split
              rotate_left
              · rename_i h
                exact Bool.noConfusion ((qk).symm.trans h)
              rename_i hN
              clear hN
              conv => whnf
              split
              rotate_left
              · rename_i h
                exact Bool.noConfusion ((qr).symm.trans h)
              rename_i hN
              clear hN
              conv => whnf
              split
              rotate_left
              · rename_i h
                exact Bool.noConfusion ((q).symm.trans h)
              rename_i hN
              clear hN
              conv => whnf
              split
              rotate_left
              · rename_i h
                exact Bool.noConfusion ((q).symm.trans h)
              rename_i hN
              clear hN
              conv => whnf
              split
              · rename_i h
                exact Bool.noConfusion ((qs).symm.trans h)
              rename_i hN
              clear hN
              conv => whnf
              split
              rotate_left
              · rename_i h
                exact Bool.noConfusion ((q).symm.trans h)
              rename_i hN
              clear hN
              conv => whnf
              refine ⟨⟨k + 1, hlt⟩, ⟨⟨leV_int hw, leV_refl _, leV_refl _, leV_refl _, leV_refl _, leV_refl _, leV_int hsum, leV_int hramp, leV_refl _, leV_refl _, leV_refl _, trivial⟩, ⟨leL_refl _, trivial⟩, rfl, rfl⟩, (by show i - (k + 1) < i - k; omega)⟩
          · have hramp : rampL V (IntKind.i64.wrap M) k = rampL V (IntKind.i64.wrap M) (k + 1) := (ramp_miss (.inr (.inl qr))).symm
            split
            rotate_left
            · rename_i h
              exact Bool.noConfusion ((qk).symm.trans h)
            rename_i hN
            clear hN
            conv => whnf
            split
            · rename_i h
              exact Bool.noConfusion ((qr).symm.trans h)
            rename_i hN
            clear hN
            conv => whnf
            split
            rotate_left
            · rename_i h
              exact Bool.noConfusion ((q).symm.trans h)
            rename_i hN
            clear hN
            conv => whnf
            refine ⟨⟨k + 1, hlt⟩, ⟨⟨leV_int hw, leV_refl _, leV_refl _, leV_refl _, leV_refl _, leV_refl _, leV_int hsum, leV_int hramp, leV_refl _, leV_refl _, leV_refl _, trivial⟩, ⟨leL_refl _, trivial⟩, rfl, rfl⟩, (by show i - (k + 1) < i - k; omega)⟩
        · have hramp : rampL V (IntKind.i64.wrap M) k = rampL V (IntKind.i64.wrap M) (k + 1) := (ramp_miss (.inl qk)).symm
          split
          · rename_i h
            exact Bool.noConfusion ((qk).symm.trans h)
          rename_i hN
          clear hN
          conv => whnf
          split
          rotate_left
          · rename_i h
            exact Bool.noConfusion ((q).symm.trans h)
          rename_i hN
          clear hN
          conv => whnf
          refine ⟨⟨k + 1, hlt⟩, ⟨⟨leV_int hw, leV_refl _, leV_refl _, leV_refl _, leV_refl _, leV_refl _, leV_int hsum, leV_int hramp, leV_refl _, leV_refl _, leV_refl _, trivial⟩, ⟨leL_refl _, trivial⟩, rfl, rfl⟩, (by show i - (k + 1) < i - k; omega)⟩
      · have hsum : sumL A V k = sumL A V (k + 1) := by
          show _ = bif eqS (A k).kind sTick then _ else _
          rw [qt]; rfl
        split
        · rename_i h
          exact Bool.noConfusion ((qt).symm.trans h)
        rename_i hN
        clear hN
        conv => whnf
        repeat first
          | (refine DRAW.seek ?_; repeat (first | refine TRYD.take ?_ | refine TRYD.next ?_); conv => whnf)
          | (refine HOLD.mk (by first | exact trivial | exact ⟨⟨rfl, rfl⟩, trivial⟩ | exact ⟨⟨rfl, rfl⟩, ⟨rfl, rfl⟩, trivial⟩) ?_; (conv => whnf))
          | (refine CALL0.cutBy lvProp _ _ _ _ _ (leL_refl _) (q ..) rfl ?_; conv => whnf)
          | (refine CALL0.by (q ..) rfl ?_; conv => whnf)
          | (refine CALLQ.mk _ _ _ (leL_refl _) (q ..) rfl ?_; conv => whnf)
        rcases Bool.eq_false_or_eq_true (decide ((k : Int) > 0)) with qk | qk
        · rcases Bool.eq_false_or_eq_true (decide (rampL V (IntKind.i64.wrap M) k < 0)) with qr | qr
          · rcases Bool.eq_false_or_eq_true (decide (maxW (w64 (V k - lastL V k)) (w64 (lastL V k - V k)) > IntKind.i64.wrap M)) with qs | qs
            · have hramp : (k : Int) = rampL V (IntKind.i64.wrap M) (k + 1) := (ramp_hit qk qr qs).symm
              split
              rotate_left
              · rename_i h
                exact Bool.noConfusion ((qk).symm.trans h)
              rename_i hN
              clear hN
              conv => whnf
              split
              rotate_left
              · rename_i h
                exact Bool.noConfusion ((qr).symm.trans h)
              rename_i hN
              clear hN
              conv => whnf
              split
              rotate_left
              · rename_i h
                exact Bool.noConfusion ((q).symm.trans h)
              rename_i hN
              clear hN
              conv => whnf
              split
              rotate_left
              · rename_i h
                exact Bool.noConfusion ((q).symm.trans h)
              rename_i hN
              clear hN
              conv => whnf
              split
              rotate_left
              · rename_i h
                exact Bool.noConfusion ((qs).symm.trans h)
              rename_i hN
              clear hN
              conv => whnf
              split
              rotate_left
              · rename_i h
                exact Bool.noConfusion ((q).symm.trans h)
              rename_i hN
              clear hN
              conv => whnf
              refine ⟨⟨k + 1, hlt⟩, ⟨⟨leV_int hw, leV_refl _, leV_refl _, leV_refl _, leV_refl _, leV_refl _, leV_int hsum, leV_int hramp, leV_refl _, leV_refl _, leV_refl _, trivial⟩, ⟨leL_refl _, trivial⟩, rfl, rfl⟩, (by show i - (k + 1) < i - k; omega)⟩
            · have hramp : rampL V (IntKind.i64.wrap M) k = rampL V (IntKind.i64.wrap M) (k + 1) := (ramp_miss (.inr (.inr qs))).symm
              split
              rotate_left
              · rename_i h
                exact Bool.noConfusion ((qk).symm.trans h)
              rename_i hN
              clear hN
              conv => whnf
              split
              rotate_left
              · rename_i h
                exact Bool.noConfusion ((qr).symm.trans h)
              rename_i hN
              clear hN
              conv => whnf
              split
              rotate_left
              · rename_i h
                exact Bool.noConfusion ((q).symm.trans h)
              rename_i hN
              clear hN
              conv => whnf
              split
              rotate_left
              · rename_i h
                exact Bool.noConfusion ((q).symm.trans h)
              rename_i hN
              clear hN
              conv => whnf
              split
              · rename_i h
                exact Bool.noConfusion ((qs).symm.trans h)
              rename_i hN
              clear hN
              conv => whnf
              split
              rotate_left
              · rename_i h
                exact Bool.noConfusion ((q).symm.trans h)
              rename_i hN
              clear hN
              conv => whnf
              refine ⟨⟨k + 1, hlt⟩, ⟨⟨leV_int hw, leV_refl _, leV_refl _, leV_refl _, leV_refl _, leV_refl _, leV_int hsum, leV_int hramp, leV_refl _, leV_refl _, leV_refl _, trivial⟩, ⟨leL_refl _, trivial⟩, rfl, rfl⟩, (by show i - (k + 1) < i - k; omega)⟩
          · have hramp : rampL V (IntKind.i64.wrap M) k = rampL V (IntKind.i64.wrap M) (k + 1) := (ramp_miss (.inr (.inl qr))).symm
            split
            rotate_left
            · rename_i h
              exact Bool.noConfusion ((qk).symm.trans h)
            rename_i hN
            clear hN
            conv => whnf
            split
            · rename_i h
              exact Bool.noConfusion ((qr).symm.trans h)
            rename_i hN
            clear hN
            conv => whnf
            split
            rotate_left
            · rename_i h
              exact Bool.noConfusion ((q).symm.trans h)
            rename_i hN
            clear hN
            conv => whnf
            refine ⟨⟨k + 1, hlt⟩, ⟨⟨leV_int hw, leV_refl _, leV_refl _, leV_refl _, leV_refl _, leV_refl _, leV_int hsum, leV_int hramp, leV_refl _, leV_refl _, leV_refl _, trivial⟩, ⟨leL_refl _, trivial⟩, rfl, rfl⟩, (by show i - (k + 1) < i - k; omega)⟩
        · have hramp : rampL V (IntKind.i64.wrap M) k = rampL V (IntKind.i64.wrap M) (k + 1) := (ramp_miss (.inl qk)).symm
          split
          · rename_i h
            exact Bool.noConfusion ((qk).symm.trans h)
          rename_i hN
          clear hN
          conv => whnf
          split
          rotate_left
          · rename_i h
            exact Bool.noConfusion ((q).symm.trans h)
          rename_i hN
          clear hN
          conv => whnf
          refine ⟨⟨k + 1, hlt⟩, ⟨⟨leV_int hw, leV_refl _, leV_refl _, leV_refl _, leV_refl _, leV_refl _, leV_int hsum, leV_int hramp, leV_refl _, leV_refl _, leV_refl _, trivial⟩, ⟨leL_refl _, trivial⟩, rfl, rfl⟩, (by show i - (k + 1) < i - k; omega)⟩
    · have q : decide ((k : Int) < i) = false := decide_eq_false (by omega)
      have : k = i := by omega
      subst this
      have qX : (sumL A V k == X) = true := by rw [hX]; exact beq_self_eq_true _
      have qR : (R == rampL V (IntKind.i64.wrap M) k) = true := by rw [hR]; exact beq_self_eq_true _
      conv => whnf
      split
      · rename_i h
        exact Bool.noConfusion ((q).symm.trans h)
      rename_i hN
      clear hN
      conv => whnf
      split
      rotate_left
      · rename_i h
        exact Bool.noConfusion ((qX).symm.trans h)
      rename_i hN
      clear hN
      conv => whnf
      split
      rotate_left
      · rename_i h
        exact Bool.noConfusion ((qR).symm.trans h)
      rename_i hN
      clear hN
      conv => whnf
      repeat first
        | (refine DRAW.seek ?_; repeat (first | refine TRYD.take ?_ | refine TRYD.next ?_); conv => whnf)
        | (refine HOLD.mk (by first | exact trivial | exact ⟨⟨rfl, rfl⟩, trivial⟩ | exact ⟨⟨rfl, rfl⟩, ⟨rfl, rfl⟩, trivial⟩) ?_; (conv => whnf))
        | (refine CALL0.cutBy lvProp _ _ _ _ _ (leL_refl _) (hA ..) rfl ?_; conv => whnf)
        | (refine CALL0.by (hA ..) rfl ?_; conv => whnf)
        | (refine CALLQ.mk _ _ _ (leL_refl _) (hA ..) rfl ?_; conv => whnf)
      exact ⟨rfl, rfl⟩
theorem run_R {m : Mc} (hm : m.ok) {n : Nat} (hn : n ≤ 1024) {w : Nat → Int} (hw : ∀ i, i < n → 0 ≤ w i ∧ w i ≤ m.wind) : runR m n w = .tup [.lst (some (tgR n)) 5 n fun i => (actW m w i).cs, .int .i64 0] := by
  unfold runR
  have e0 : repE0 m n = 0 := by unfold repE0; rw [Mc.err_of hm, decide_eq_false (by omega)]; rfl
  have e1 : winds0 m n w = 0 := by
    unfold winds0
    rw [firstS_zero]
    intro j _ hj
    exact withinS_zero.2 (hw j (by omega))
  rw [e0, e1]; rfl
theorem c_ControlProposes (up : List Ces) (hk : gl g_control_kinds = kindsI) (hg : gl g_internal_strconv_uint64pow10 = powI) (m : Mc) (n : Nat) (x : Nat → Int) (hx : ∀ i, i < n → 0 ≤ x i ∧ x i < 256) (M : Int) (hM : 0 ≤ M ∧ M < 256) :
    Cs gl n_nacellelaw05_ControlProposes up [m.iv, .lst none 1 n fun i => [.int .u8 (x i)], .int .u8 M] (.bool true) up := by
  cases hs : m.smallB with
  | false => exact props_no up hk hg m n x M (.inl hs)
  | true =>
  by_cases he : m.err = 0
  rotate_left
  · exact props_no up hk hg m n x M (.inr (.inl he))
  cases q24 : decide ((n : Int) > 24) with
  | true => exact props_no up hk hg m n x M (.inr (.inr q24))
  | false =>
  have hm := Mc.err_ok he
  have hn : n ≤ 24 := by have := of_decide_eq_false q24; omega
  have hw : ∀ i, i < n → 0 ≤ windW m x i ∧ windW m x i ≤ m.wind := fun i hi => windW_rng hm (hx i hi)
  have e0 : repE0 m n = 0 := by unfold repE0; rw [he, decide_eq_false (by omega)]; rfl
  have hE := run_repE hm hw
  have hA := run_actsE hm (by omega : n ≤ 1024) hw
  have hV : ∀ j, j < n → 0 ≤ (repS m (actW m (windW m x)) (j + 1)).speed ∧ (repS m (actW m (windW m x)) (j + 1)).speed ≤ m.lim := fun j hj => run_speed hm hw (i := j + 1) (by omega)
  have hlim := hm.lim
  have hV2 : ∀ j, j < n → 0 ≤ (repS m (actW m (windW m x)) (j + 1)).speed ∧ (repS m (actW m (windW m x)) (j + 1)).speed ≤ 1000000 := fun j hj => by have := hV j hj; omega
  have eM : IntKind.i64.wrap M = M := by rw [wrap_in] <;> omega
  have hP := parse_print hA
  have hlen : (actsS (actW m (windW m x)) n).length ≤ 1000000 := by have := actsS_len n (actsE_ok hA).2; omega
  refine props_go up hk hg m hm hs n q24 x hx M hM (actW m (windW m x)) (fun k => (lineA (splitL 10 (actsS (actW m (windW m x)) n)) k).1) (fun i => (repS m (actW m (windW m x)) (i + 1)).speed) (bytesS (actsS (actW m (windW m x)) n)) (engS m (actW m (windW m x)) n) (rampN (fun i => (repS m (actW m (windW m x)) (i + 1)).speed) (IntKind.i64.wrap M) (n - 1) 1)
    (fun up => ?_) (fun up => ?_) (fun up => ?_) (fun up => ?_) (fun up => ?_) (fun up => ?_) (fun up => ?_) (fun _ => run_first m _) hP.2 hV (eng_sum m _ n) (ramp_eq n hV2)
  · have h := c_Run (gl := gl) up m n (by omega) (windW m x)
    rw [run_R hm (by omega) hw] at h; exact h
  · have h := c_Run (gl := gl) up m (n / 2) (by omega) (windW m x)
    rw [run_R hm (by omega) (fun i hi => hw i (by omega))] at h; exact h
  · have h := c_Speeds (gl := gl) up hk m n (by omega) (actW m (windW m x))
    rw [e0, hE] at h; exact h
  · have h := c_Energy (gl := gl) up hk m n (by omega) (actW m (windW m x))
    rw [e0, hE] at h; exact h
  · have h := c_Print (gl := gl) up hk hg n (by omega) (actW m (windW m x))
    rw [hA] at h; exact h
  · have h := c_Parse (gl := gl) up hk (actsS (actW m (windW m x)) n) hlen
    rw [hP.1] at h; exact h
  · have h := c_Ramps (gl := gl) up n (by omega) (fun i => (repS m (actW m (windW m x)) (i + 1)).speed) (IntKind.i64.wrap M)
    rw [ramp_fine (by omega) hV2 (by rw [eM]; omega)] at h; exact h
end Go.Proofs.YtkdlegfakefjgaaGreatDoor.Ix

namespace Go.Proofs.YtkdlegfakefjgaaGreatDoor.Ix
open Go.Proofs
set_option linter.unusedVariables false
set_option linter.unusedSimpArgs false
theorem wf_u8 (z : Int) (hw : (Lit.int .u8 z).wf = true) : 0 ≤ z ∧ z < 256 := by
  simp [Lit.wf, IntKind.min, IntKind.max, IntKind.signed, IntKind.bits] at hw
  omega
theorem fit_u8 {v : IV} (h : FitV (.int .u8) v) : ∃ b, v = .int .u8 b ∧ (0 ≤ b ∧ b < 256) := by
  obtain ⟨b, hb, hw⟩ := h
  exact ⟨b, (List.cons.inj hb).1, wf_u8 b hw⟩
theorem fit_bytes1 {v : IV} (h : FitV (.slice 1 (.int .u8)) v) : ∃ (n : Nat) (f : Nat → Int), (∀ i, i < n → 0 ≤ f i ∧ f i < 256) ∧ leV v (.lst none 1 n fun i => [.int .u8 (f i)]) := by
  obtain ⟨n, f, h, hn, hf⟩ := h
  obtain rfl := (List.cons.inj h).1
  refine ⟨n, fun i => intAt (f i) 0, fun i hi => ?_, .inl rfl, rfl, rfl, fun i hi => ?_⟩
  · obtain ⟨_, z, hz, hw⟩ := hf i hi
    show 0 ≤ intAt (f i) 0 ∧ intAt (f i) 0 < 256
    rw [hz]; exact wf_u8 z hw
  · obtain ⟨_, z, hz, _⟩ := hf i hi
    show f i = [.int .u8 (intAt (f i) 0)]
    rw [hz]; rfl
end Go.Proofs.YtkdlegfakefjgaaGreatDoor.Ix
