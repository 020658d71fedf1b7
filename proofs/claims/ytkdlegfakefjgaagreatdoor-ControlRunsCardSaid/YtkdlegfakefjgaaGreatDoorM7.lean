/-
  Ca13: contracts of replay, Replay, Speeds.
-/
import Derived.Test.YtkdlegfakefjgaaGreatDoorM6
import Derived.Lib.ItoaLen
import Derived.Lib.Join
import Derived.ChangeArms
import Derived.OpenShut
import Derived.ChangeShapes
import Derived.SizedLaws
import Derived.Carry
import Derived.Lib.LaidTab
import Derived.Shelf.LaysM
import Derived.Shelf.Strings.OnBuilder
import Derived.Shelf.Strconv.Itoa3
import Derived.Test.YtkdlegfakefjgaaGreatDoorProg
import Derived.Lib.Builder
namespace Go.Proofs.YtkdlegfakefjgaaGreatDoor.Ix
open Go.Proofs
set_option maxRecDepth 100000
set_option linter.unusedVariables false
set_option linter.unusedSimpArgs false
variable {gl : Nat → IV}

structure Sta.inv (s : Sta) (m : Mc) : Prop where
  rng : s.rng m
  lim : s.speed ≤ m.lim
  stuck : -1 ≤ s.stuck ∧ s.stuck ≤ 2

theorem firstT_zero {f : Nat → Bool} : ∀ {n i : Nat}, firstT f n i = 0 → ∀ j, j < n → f (i + j) = false
  | 0, i, _, j, hj => by omega
  | n + 1, i, h, j, hj => by
    simp only [firstT] at h
    cases hb : f i with
    | true => rw [hb, cond_true] at h; omega
    | false =>
      rw [hb, cond_false] at h
      cases j with
      | zero => exact hb
      | succ j =>
        have := firstT_zero h j (by omega)
        rw [show i + (j + 1) = i + 1 + j by omega]; exact this

theorem inK_eq (x k l : ByteArray) : inK x k l = (eqS x k || eqS x l) := by
  unfold inK idxS idxS idxS
  cases eqS x k <;> cases eqS x l <;> rfl

theorem allowed_zero {s : Sta} {m : Mc} {a : Ac} (h : s.allowedN m a = 0) (i : Nat) (hi : i < 7) : s.ruleB m a (fun k => (s.behindW m a).num m k) i = false := by
  have := firstT_zero h i hi
  rwa [Nat.zero_add] at this

theorem allowed_speed {s : Sta} {m : Mc} {a : Ac} (h : s.allowedN m a = 0) (hk : eqS a.kind sTick = true ∨ eqS a.kind sBrake = true) : (s.behindW m a).speed ≤ m.lim := by
  have h7 := allowed_zero h 6 (by decide)
  have h7 : (inK a.kind sTick sBrake && s.rule7 m a (fun k => (s.behindW m a).num m k)) = false := h7
  rw [inK_eq, show (eqS a.kind sTick || eqS a.kind sBrake) = true by rcases hk with h | h <;> simp [h], Bool.true_and] at h7
  unfold Sta.rule7 at h7
  rw [Bool.or_eq_false_iff] at h7
  have := of_decide_eq_false h7.1
  omega

theorem kinds_ne {x k l : ByteArray} (h : eqS x k = true) (hne : k ≠ l) : eqS x l = false := by
  cases q : eqS x l with
  | false => rfl
  | true => exact absurd ((eqS_iff.1 h).symm.trans (eqS_iff.1 q)) hne

theorem behind_inv {m : Mc} (hm : m.ok) {s : Sta} (hs : s.inv m) {a : Ac} (ha : a.ok m) (h : s.allowedN m a = 0) : (s.behindW m a).inv m := by
  have hsp := fun hk => allowed_speed h hk
  obtain ⟨hr, hl, hst⟩ := hs
  have hlim := hm.lim
  cases q1 : eqS a.kind sStart with
  | true =>
    have e : s.behindW m a = { s with mode := sRun } := by unfold Sta.behindW; rw [q1]; rfl
    rw [e]; exact ⟨⟨hr.1, hr.2, hr.3, hr.4⟩, hl, hst⟩
  | false =>
  cases q2 : eqS a.kind sTick with
  | true =>
    have h1 := hsp (.inl q2)
    refine ⟨tick_rng hm hr ha q2 h1, h1, ?_⟩
    have e : s.behindW m a = Sta.laterW { s.movedW m a.pitch a.stuck with tor := a.tor } a.wind := by unfold Sta.behindW; rw [q1, q2]; rfl
    rw [e]
    show -1 ≤ (bif a.stuck != -1 then a.stuck else s.stuck) ∧ (bif a.stuck != -1 then a.stuck else s.stuck) ≤ 2
    cases (a.stuck != -1)
    · exact hst
    · exact ha.stuck
  | false =>
  cases q3 : eqS a.kind sStop with
  | true =>
    have e : s.behindW m a = { s with mode := sStop, tor := 0 } := by unfold Sta.behindW; rw [q1, q2, q3]; rfl
    rw [e]; exact ⟨⟨hr.1, hr.2, hr.3, hr.4⟩, hl, hst⟩
  | false =>
  cases q4 : eqS a.kind sBrake with
  | true =>
    have h1 := hsp (.inr q4)
    have e : s.behindW m a = s.brakedW m a.wind a.stuck := by unfold Sta.behindW; rw [q1, q2, q3, q4]; rfl
    have hw := hm.wind
    have haw := ha.wind
    rw [e] at h1 ⊢
    have hsr := hr.speed
    refine ⟨step_rng hm hr (by omega) a.wind a.stuck (by omega), h1, ?_⟩
    show -1 ≤ (bif a.stuck != -1 then a.stuck else s.stuck) ∧ (bif a.stuck != -1 then a.stuck else s.stuck) ≤ 2
    cases (a.stuck != -1)
    · exact hst
    · exact ha.stuck
  | false =>
  cases q5 : eqS a.kind sRest with
  | true =>
    have e : s.behindW m a = { s with mode := sIdle } := by unfold Sta.behindW; rw [q1, q2, q3, q4, q5]; rfl
    rw [e]; exact ⟨⟨hr.1, hr.2, hr.3, hr.4⟩, hl, hst⟩
  | false =>
  cases q6 : eqS a.kind sRepair with
  | true =>
    have e : s.behindW m a = { s with p0 := m.fea, p1 := m.fea, p2 := m.fea, stuck := -1 } := by unfold Sta.behindW; rw [q1, q2, q3, q4, q5, q6]; rfl
    have hf := hm.fea
    rw [e]
    exact ⟨⟨hr.1, by show 0 ≤ m.fea ∧ m.fea ≤ m.fea; omega, by show 0 ≤ m.fea ∧ m.fea ≤ m.fea; omega, by show 0 ≤ m.fea ∧ m.fea ≤ m.fea; omega⟩, hl, by show (-1 : Int) ≤ -1 ∧ (-1 : Int) ≤ 2; decide⟩
  | false =>
    have e : s.behindW m a = s := by unfold Sta.behindW; rw [q1, q2, q3, q4, q5, q6]; rfl
    rw [e]; exact ⟨hr, hl, hst⟩

def beginS (m : Mc) : Sta := ⟨sIdle, 0, m.fea, m.fea, m.fea, 0, -1⟩
theorem begin_inv {m : Mc} (hm : m.ok) : (beginS m).inv m := by
  obtain ⟨h1, h2, h3, h4, h5, h6, h7, h8⟩ := hm
  exact ⟨⟨by show (0 : Int) ≤ 0 ∧ (0 : Int) ≤ 1000000; decide, by show 0 ≤ m.fea ∧ m.fea ≤ m.fea; omega, by show 0 ≤ m.fea ∧ m.fea ≤ m.fea; omega, by show 0 ≤ m.fea ∧ m.fea ≤ m.fea; omega⟩, by show (0 : Int) ≤ m.lim; omega, by show (-1 : Int) ≤ -1 ∧ (-1 : Int) ≤ 2; decide⟩

def Ac.cs (a : Ac) : List IV := [.str a.kind, .int .i64 a.wind, .int .i64 a.pitch, .int .i64 a.tor, .int .i64 a.stuck]
/-- The state behind 'k' acts. -/
def repS (m : Mc) (l : Nat → Ac) : Nat → Sta
  | 0 => beginS m
  | k + 1 => (repS m l k).behindW m (l k)
noncomputable def stepE (m : Mc) (l : Nat → Ac) (k : Nat) : Int := bif (l k).err m == 0 then (bif (repS m l k).allowedN m (l k) != 0 then 19 else 0) else (l k).err m
/-- The number of the first act with an error, and the error. -/
noncomputable def repE (m : Mc) (l : Nat → Ac) : Nat → Nat → Int × Int
  | 0, _ => (0, 0)
  | n + 1, i => bif stepE m l i != 0 then (((i + 1 : Nat) : Int), stepE m l i) else repE m l n (i + 1)
def repE0 (m : Mc) (n : Nat) : Int := orL [m.err, bif decide ((n : Int) > 1024) then 5 else 0]
noncomputable def repR (m : Mc) (n : Nat) (l : Nat → Ac) : IV :=
  bif repE0 m n != 0 then .tup [.nilS, .int .i64 0, .int .i64 (repE0 m n)] else
  bif (repE m l n 0).2 != 0 then .tup [.nilS, .int .i64 (repE m l n 0).1, .int .i64 (repE m l n 0).2] else
  .tup [.lst (some 56) 7 n fun i => (repS m l (i + 1)).cs, .int .i64 0, .int .i64 0]

set_option maxHeartbeats 16000000 in
theorem c_replay (up : List Ces) (hk : gl g_control_kinds = kindsI) (m : Mc) (n : Nat) (hn : n ≤ 10000000) (l : Nat → Ac) :
    Cs gl n_control_replay up [m.iv, .lst none 5 n fun i => (l i).cs] (repR m n l) up := by
  refine mk h_control_replay rfl rfl ?_
  unfold repR
  have hA := fun up k => c_CheckAct (gl := gl) up hk m (l k)
  by_cases h0 : repE0 m n = 0
  rotate_left
  · have q : (repE0 m n != 0) = true := by simpa using h0
    rw [q]
    conv => whnf
    repeat first
      | (refine DRAW.seek ?_; repeat (first | refine TRYD.take ?_ | refine TRYD.next ?_); conv => whnf)
      | (refine HOLD.mk (by first | exact trivial | exact ⟨⟨rfl, rfl⟩, trivial⟩ | exact ⟨⟨rfl, rfl⟩, ⟨rfl, rfl⟩, trivial⟩) ?_; (conv => whnf))
      | (refine CALL0.by (c_CheckMachine ..) rfl ?_; conv => whnf)
      | (refine CALLQ.mk _ _ _ (leL_refl _) (c_CheckMachine ..) rfl ?_; conv => whnf)
      | (refine CALL0.by (c_when ..) rfl ?_; conv => whnf)
      | (refine CALLQ.mk _ _ _ (leL_refl _) (c_when ..) rfl ?_; conv => whnf)
    refine .mk _ _ _ _ _ (leL_refl _) (c_f2 _ _ _ _ rfl rfl) rfl ?_
    conv => whnf
    split
    rotate_left
    · rename_i h
      exact Bool.noConfusion ((q).symm.trans h)
    rename_i hN
    clear hN
    conv => whnf
    exact ⟨rfl, rfl⟩
  have q : (repE0 m n != 0) = false := by simpa using h0
  rw [q]
  have hm : m.ok := by
    unfold repE0 at h0
    rw [orL_zero] at h0
    exact Mc.err_ok (h0 _ (by simp))
  generalize hR : repE m l n 0 = R
  conv => whnf
  repeat first
    | (refine DRAW.seek ?_; repeat (first | refine TRYD.take ?_ | refine TRYD.next ?_); conv => whnf)
    | (refine HOLD.mk (by first | exact trivial | exact ⟨⟨rfl, rfl⟩, trivial⟩ | exact ⟨⟨rfl, rfl⟩, ⟨rfl, rfl⟩, trivial⟩) ?_; (conv => whnf))
    | (refine CALL0.by (c_CheckMachine ..) rfl ?_; conv => whnf)
    | (refine CALLQ.mk _ _ _ (leL_refl _) (c_CheckMachine ..) rfl ?_; conv => whnf)
    | (refine CALL0.by (c_when ..) rfl ?_; conv => whnf)
    | (refine CALLQ.mk _ _ _ (leL_refl _) (c_when ..) rfl ?_; conv => whnf)
  refine .mk _ _ _ _ _ (leL_refl _) (c_f2 _ _ _ _ rfl rfl) rfl ?_
  conv => whnf
  split
  · rename_i h
    exact Bool.noConfusion ((q).symm.trans h)
  rename_i hN
  clear hN
  conv => whnf
  repeat first
    | (refine DRAW.seek ?_; repeat (first | refine TRYD.take ?_ | refine TRYD.next ?_); conv => whnf)
    | (refine HOLD.mk (by first | exact trivial | exact ⟨⟨rfl, rfl⟩, trivial⟩ | exact ⟨⟨rfl, rfl⟩, ⟨rfl, rfl⟩, trivial⟩) ?_; (conv => whnf))
    | (refine CALL0.by (c_begin ..) rfl ?_; conv => whnf)
    | (refine CALLQ.mk _ _ _ (leL_refl _) (c_begin ..) rfl ?_; conv => whnf)
  let F : Nat → List IV := fun i => (repS m l (i + 1)).cs
  refine .mk (α := {i : Nat // i ≤ n ∧ repE m l (n - i) i = R ∧ (repS m l i).inv m}) (fun i => ⟨[(28, .int .i64 i.1), (27, .int .i64 n), (26, .lst none 5 n fun i => (l i).cs), (8, .lst (some 56) 7 i.1 F), (2, .ptr 0 2 0), (9, .ptr 0 9 0)],
    [(9, (repS m l i.1).cs), (2, m.cs)], up⟩) (fun i => n - i.1) ⟨0, Nat.zero_le _, hR, begin_inv hm⟩ ⟨?_, ?_, rfl, rfl⟩ ?_
  · exact ⟨leV_refl _, leV_refl _, leV_refl _, rfl, leV_refl _, leV_refl _, trivial⟩
  · exact ⟨leL_refl _, leL_refl _, trivial⟩
  rintro ⟨i, hi, he, hs⟩
  have hw : w64 ((i : Int) + 1) = ((i + 1 : Nat) : Int) := by rw [w64, wrap_in] <;> omega
  by_cases hlt : i < n
  · have q : decide ((i : Int) < n) = true := decide_eq_true (by omega)
    have hA := fun up => hA up i
    have hstep : repE m l (n - i) i = bif stepE m l i != 0 then (((i + 1 : Nat) : Int), stepE m l i) else repE m l (n - (i + 1)) (i + 1) := by
      rw [show n - i = (n - (i + 1)) + 1 by omega]; rfl
    by_cases h1 : (l i).err m = 0
    rotate_left
    · have q1 : ((l i).err m == 0) = false := by simpa using h1
      have q2 : ((l i).err m != 0) = true := by simpa using h1
      have hse : stepE m l i = (l i).err m := by unfold stepE; rw [q1]; rfl
      rw [hse, q2, cond_true] at hstep
      have hR1 := hstep.symm.trans he
      have hRa : R.1 = ((i + 1 : Nat) : Int) := by rw [← hR1]
      have hRb : R.2 = (l i).err m := by rw [← hR1]
      have q3 : (R.2 != 0) = true := by rw [hRb]; exact q2
      rw [q3]
      conv => whnf
      split
      rotate_left
      · rename_i h
        exact Bool.noConfusion ((q).symm.trans h)
      rename_i hN
      clear hN
      conv => whnf
      split
      rotate_left
      · rename_i h
        exact Bool.noConfusion ((q).symm.trans h)
      rename_i hN
      clear hN
      conv => whnf
      repeat first
        | (refine DRAW.seek ?_; repeat (first | refine TRYD.take ?_ | refine TRYD.next ?_); conv => whnf)
        | (refine HOLD.mk (by first | exact trivial | exact ⟨⟨rfl, rfl⟩, trivial⟩ | exact ⟨⟨rfl, rfl⟩, ⟨rfl, rfl⟩, trivial⟩) ?_; (conv => whnf))
        | (refine CALL0.by (hA ..) rfl ?_; conv => whnf)
        | (refine CALLQ.mk _ _ _ (leL_refl _) (hA ..) rfl ?_; conv => whnf)
      split
      · rename_i h
        exact Bool.noConfusion ((q1).symm.trans h)
      rename_i hN
      clear hN
      conv => whnf
      split
      rotate_left
      · rename_i h
        exact Bool.noConfusion ((q2).symm.trans h)
      rename_i hN
      clear hN
      conv => whnf
      refine ⟨?_, rfl⟩
      rw [hRa, hRb]
      exact congrArg (fun x => IV.tup [.nilS, .int .i64 x, .int .i64 _]) hw
    · obtain ⟨_, ha, _, _⟩ := Ac.err_ok h1
      rw [h1] at hA
      have hw2 := fun up => c_allowedN (gl := gl) up m (repS m l i) (l i) hm hs.rng ha
      cases q2 : ((repS m l i).allowedN m (l i) != 0) with
      | true =>
        have qt : ((bif ((repS m l i).allowedN m (l i) != 0) then (19 : Int) else 0) != 0) = true := by rw [q2]; rfl
        have hse : stepE m l i = 19 := by unfold stepE; rw [h1, q2]; rfl
        rw [hse] at hstep
        have hR1 := hstep.symm.trans he
        have hRa : R.1 = ((i + 1 : Nat) : Int) := by rw [← hR1]; rfl
        have hRb : R.2 = 19 := by rw [← hR1]; rfl
        have q3 : (R.2 != 0) = true := by rw [hRb]; rfl
        rw [q3]
        conv => whnf
        split
        rotate_left
        · rename_i h
          exact Bool.noConfusion ((q).symm.trans h)
        rename_i hN
        clear hN
        conv => whnf
        split
        rotate_left
        · rename_i h
          exact Bool.noConfusion ((q).symm.trans h)
        rename_i hN
        clear hN
        conv => whnf
        repeat first
          | (refine DRAW.seek ?_; repeat (first | refine TRYD.take ?_ | refine TRYD.next ?_); conv => whnf)
          | (refine HOLD.mk (by first | exact trivial | exact ⟨⟨rfl, rfl⟩, trivial⟩ | exact ⟨⟨rfl, rfl⟩, ⟨rfl, rfl⟩, trivial⟩) ?_; (conv => whnf))
          | (refine CALL0.by (hA ..) rfl ?_; conv => whnf)
          | (refine CALLQ.mk _ _ _ (leL_refl _) (hA ..) rfl ?_; conv => whnf)
          | (refine CALL0.by (hw2 ..) rfl ?_; conv => whnf)
          | (refine CALLQ.mk _ _ _ (leL_refl _) (hw2 ..) rfl ?_; conv => whnf)
          | (refine CALL0.by (c_when ..) rfl ?_; conv => whnf)
          | (refine CALLQ.mk _ _ _ (leL_refl _) (c_when ..) rfl ?_; conv => whnf)
        split
        rotate_left
        · rename_i h
          exact Bool.noConfusion ((qt).symm.trans h)
        rename_i hN
        clear hN
        conv => whnf
        refine ⟨?_, rfl⟩
        rw [hRa, hRb]
        show IV.tup [.nilS, .int .i64 (w64 ((i : Int) + 1)), .int .i64 (bif ((repS m l i).allowedN m (l i) != 0) then (19 : Int) else 0)] = .tup [.nilS, .int .i64 ((i + 1 : Nat) : Int), .int .i64 19]
        rw [hw, q2]; rfl
      | false =>
        have qt : ((bif ((repS m l i).allowedN m (l i) != 0) then (19 : Int) else 0) != 0) = false := by rw [q2]; rfl
        have hse : stepE m l i = 0 := by unfold stepE; rw [h1, q2]; rfl
        rw [hse] at hstep
        have hR1 : repE m l (n - (i + 1)) (i + 1) = R := hstep.symm.trans he
        have hz : (repS m l i).allowedN m (l i) = 0 := by simpa using q2
        have hnx : (repS m l (i + 1)).inv m := behind_inv hm hs ha hz
        conv => whnf
        split
        rotate_left
        · rename_i h
          exact Bool.noConfusion ((q).symm.trans h)
        rename_i hN
        clear hN
        conv => whnf
        split
        rotate_left
        · rename_i h
          exact Bool.noConfusion ((q).symm.trans h)
        rename_i hN
        clear hN
        conv => whnf
        repeat first
          | (refine DRAW.seek ?_; repeat (first | refine TRYD.take ?_ | refine TRYD.next ?_); conv => whnf)
          | (refine HOLD.mk (by first | exact trivial | exact ⟨⟨rfl, rfl⟩, trivial⟩ | exact ⟨⟨rfl, rfl⟩, ⟨rfl, rfl⟩, trivial⟩) ?_; (conv => whnf))
          | (refine CALL0.by (hA ..) rfl ?_; conv => whnf)
          | (refine CALLQ.mk _ _ _ (leL_refl _) (hA ..) rfl ?_; conv => whnf)
          | (refine CALL0.by (hw2 ..) rfl ?_; conv => whnf)
          | (refine CALLQ.mk _ _ _ (leL_refl _) (hw2 ..) rfl ?_; conv => whnf)
          | (refine CALL0.by (c_when ..) rfl ?_; conv => whnf)
          | (refine CALLQ.mk _ _ _ (leL_refl _) (c_when ..) rfl ?_; conv => whnf)
        split
        · rename_i h
          exact Bool.noConfusion ((qt).symm.trans h)
        rename_i hN
        clear hN
        conv => whnf
        repeat first
          | (refine DRAW.seek ?_; repeat (first | refine TRYD.take ?_ | refine TRYD.next ?_); conv => whnf)
          | (refine HOLD.mk (by first | exact trivial | exact ⟨⟨rfl, rfl⟩, trivial⟩ | exact ⟨⟨rfl, rfl⟩, ⟨rfl, rfl⟩, trivial⟩) ?_; (conv => whnf))
          | (refine CALL0.by (c_behind ..) rfl ?_; conv => whnf)
          | (refine CALLQ.mk _ _ _ (leL_refl _) (c_behind ..) rfl ?_; conv => whnf)
        split
        rotate_left
        · rename_i h
          have h' : decide (i + 1 ≤ 1073741824) = false := h
          simp at h' <;> omega
        conv => whnf
        refine ⟨⟨i + 1, hlt, hR1, hnx⟩, ⟨⟨leV_int hw, leV_refl _, leV_refl _, ⟨.inr rfl, rfl, rfl, fun j hj => ?_⟩, leV_refl _, leV_refl _, trivial⟩, ⟨leL_refl _, leL_refl _, trivial⟩, rfl, rfl⟩, ?_⟩
        · show (if j < i then F j else litF 7 (F i) (j - i)) = F j
          split
          · rfl
          · have : j = i := by have : j < i + 1 := hj; omega
            subst this
            rw [Nat.sub_self]
            rfl
        · show n - (i + 1) < n - i
          omega
  · have q : decide ((i : Int) < n) = false := decide_eq_false (by omega)
    have e : i = n := by omega
    subst e
    rw [Nat.sub_self] at he
    have q3 : (R.2 != 0) = false := by rw [← he]; rfl
    rw [q3]
    conv => whnf
    split
    · rename_i h
      exact Bool.noConfusion ((q).symm.trans h)
    rename_i hN
    clear hN
    conv => whnf
    exact ⟨rfl, rfl⟩

def sta0 : Sta := ⟨ByteArray.empty, 0, 0, 0, 0, 0, 0⟩
/-- The state behind a history. -/
theorem c_Replay (up : List Ces) (hk : gl g_control_kinds = kindsI) (m : Mc) (n : Nat) (hn : n ≤ 10000000) (l : Nat → Ac) :
    Cs gl n_control_Replay up [m.iv, .lst none 5 n fun i => (l i).cs] (bif repE0 m n != 0 then .tup [sta0.iv, .int .i64 0, .int .i64 (repE0 m n)] else bif (repE m l n 0).2 != 0 then .tup [sta0.iv, .int .i64 (repE m l n 0).1, .int .i64 (repE m l n 0).2] else .tup [(repS m l n).iv, .int .i64 0, .int .i64 0]) up := by
  refine mk h_control_Replay rfl rfl ?_
  have h := fun up => c_replay (gl := gl) up hk m n hn l
  unfold repR at h
  by_cases h0 : repE0 m n = 0
  rotate_left
  · have q : (repE0 m n != 0) = true := by simpa using h0
    rw [q, cond_true] at h
    rw [q, cond_true]
    conv => whnf
    repeat first
      | (refine DRAW.seek ?_; repeat (first | refine TRYD.take ?_ | refine TRYD.next ?_); conv => whnf)
      | (refine HOLD.mk (by first | exact trivial | exact ⟨⟨rfl, rfl⟩, trivial⟩ | exact ⟨⟨rfl, rfl⟩, ⟨rfl, rfl⟩, trivial⟩) ?_; (conv => whnf))
      | (refine CALL0.by (h ..) rfl ?_; conv => whnf)
      | (refine CALLQ.mk _ _ _ (leL_refl _) (h ..) rfl ?_; conv => whnf)
    split
    rotate_left
    · rename_i h
      exact Bool.noConfusion ((q).symm.trans h)
    rename_i hN
    clear hN
    conv => whnf
    exact ⟨rfl, rfl⟩
  have q : (repE0 m n != 0) = false := by simpa using h0
  rw [q, cond_false] at h
  rw [q, cond_false]
  cases q1 : ((repE m l n 0).2 != 0) with
  | true =>
    rw [q1, cond_true] at h
    conv => whnf
    repeat first
      | (refine DRAW.seek ?_; repeat (first | refine TRYD.take ?_ | refine TRYD.next ?_); conv => whnf)
      | (refine HOLD.mk (by first | exact trivial | exact ⟨⟨rfl, rfl⟩, trivial⟩ | exact ⟨⟨rfl, rfl⟩, ⟨rfl, rfl⟩, trivial⟩) ?_; (conv => whnf))
      | (refine CALL0.by (h ..) rfl ?_; conv => whnf)
      | (refine CALLQ.mk _ _ _ (leL_refl _) (h ..) rfl ?_; conv => whnf)
    split
    rotate_left
    · rename_i h
      exact Bool.noConfusion ((q1).symm.trans h)
    rename_i hN
    clear hN
    conv => whnf
    exact ⟨rfl, rfl⟩
  | false =>
    rw [q1, cond_false] at h
    conv => whnf
    repeat first
      | (refine DRAW.seek ?_; repeat (first | refine TRYD.take ?_ | refine TRYD.next ?_); conv => whnf)
      | (refine HOLD.mk (by first | exact trivial | exact ⟨⟨rfl, rfl⟩, trivial⟩ | exact ⟨⟨rfl, rfl⟩, ⟨rfl, rfl⟩, trivial⟩) ?_; (conv => whnf))
      | (refine CALL0.by (h ..) rfl ?_; conv => whnf)
      | (refine CALLQ.mk _ _ _ (leL_refl _) (h ..) rfl ?_; conv => whnf)
    by_cases hz : n = 0
    · subst hz
      conv => whnf
      repeat first
        | (refine DRAW.seek ?_; repeat (first | refine TRYD.take ?_ | refine TRYD.next ?_); conv => whnf)
        | (refine HOLD.mk (by first | exact trivial | exact ⟨⟨rfl, rfl⟩, trivial⟩ | exact ⟨⟨rfl, rfl⟩, ⟨rfl, rfl⟩, trivial⟩) ?_; (conv => whnf))
        | (refine CALL0.by (c_begin ..) rfl ?_; conv => whnf)
        | (refine CALLQ.mk _ _ _ (leL_refl _) (c_begin ..) rfl ?_; conv => whnf)
      exact ⟨rfl, rfl⟩
    · obtain ⟨k, rfl⟩ : ∃ k, n = k + 1 := ⟨n - 1, by omega⟩
      have qz : (((k + 1 : Nat) : Int) == 0) = false := by rw [beq_eq_false_iff_ne]; omega
      have hw : w64 (((k + 1 : Nat) : Int) - 1) = (k : Int) := by rw [w64, wrap_in] <;> omega
      have qa : decide (0 ≤ w64 (((k + 1 : Nat) : Int) - 1)) = true := by rw [hw]; exact decide_eq_true (by omega)
      have qb : decide (w64 (((k + 1 : Nat) : Int) - 1) < ((k + 1 : Nat) : Int)) = true := by rw [hw]; exact decide_eq_true (by omega)
      split
      · rename_i h
        exact Bool.noConfusion ((qz).symm.trans h)
      rename_i hN
      clear hN
      conv => whnf
      split
      rotate_left
      · rename_i h
        exact Bool.noConfusion ((qa).symm.trans h)
      rename_i hN
      clear hN
      conv => whnf
      split
      rotate_left
      · rename_i h
        exact Bool.noConfusion ((qb).symm.trans h)
      rename_i hN
      clear hN
      conv => whnf
      refine ⟨?_, rfl⟩
      show IV.tup [(repS m l ((w64 (((k + 1 : Nat) : Int) - 1)).toNat + 1)).iv, .int .i64 0, .int .i64 0] = _
      rw [hw]
      rfl

/-! The speeds. -/
theorem c_f93 (up : List Ces) (s : Sta) : Cs gl n_control_Speeds_1 up [s.iv] (.int .i64 s.speed) up := by
  refine mk h_control_Speeds_1 rfl rfl ?_
  conv => whnf
  exact ⟨rfl, rfl⟩

theorem c_mapped (up : List Ces) (n : Nat) (hn : n ≤ 10000000) (f : Nat → Sta) :
    Cs gl n_control_mapped_control_State_int up [.lst none 7 n fun i => (f i).cs, .fn n_control_Speeds_1 [] []] (.lst (some 19) 1 n fun i => [.int .i64 (f i).speed]) up := by
  refine mk h_control_mapped_control_State_int rfl rfl ?_
  conv => whnf
  let F : Nat → List IV := fun i => [.int .i64 (f i).speed]
  refine .mk (α := {i : Nat // i ≤ n}) (fun i => ⟨[(10, .int .i64 i.1), (9, .int .i64 n), (8, .lst none 7 n fun i => (f i).cs), (5, .lst (some 19) 1 i.1 F), (1, .fn n_control_Speeds_1 [] [])], [], up⟩) (fun i => n - i.1) ⟨0, Nat.zero_le _⟩ ⟨?_, ?_, rfl, rfl⟩ ?_
  · exact ⟨leV_refl _, leV_refl _, leV_refl _, rfl, leV_refl _, trivial⟩
  · trivial
  rintro ⟨i, hi⟩
  have hw : w64 ((i : Int) + 1) = ((i + 1 : Nat) : Int) := by rw [w64, wrap_in] <;> omega
  by_cases hlt : i < n
  · have q : decide ((i : Int) < n) = true := decide_eq_true (by omega)
    conv => whnf
    split
    rotate_left
    · rename_i h
      exact Bool.noConfusion ((q).symm.trans h)
    rename_i hN
    clear hN
    conv => whnf
    split
    rotate_left
    · rename_i h
      exact Bool.noConfusion ((q).symm.trans h)
    rename_i hN
    clear hN
    conv => whnf
    repeat first
      | (refine DRAW.seek ?_; repeat (first | refine TRYD.take ?_ | refine TRYD.next ?_); conv => whnf)
      | (refine HOLD.mk (by first | exact trivial | exact ⟨⟨rfl, rfl⟩, trivial⟩ | exact ⟨⟨rfl, rfl⟩, ⟨rfl, rfl⟩, trivial⟩) ?_; (conv => whnf))
      | (refine CALL0.by (c_f93 ..) rfl ?_; conv => whnf)
      | (refine CALLQ.mk _ _ _ (leL_refl _) (c_f93 ..) rfl ?_; conv => whnf)
    split
    rotate_left
    · rename_i h
      have h' : decide (i + 1 ≤ 1073741824) = false := h
      simp at h' <;> omega
    conv => whnf
    refine ⟨⟨i + 1, hlt⟩, ⟨⟨leV_int hw, leV_refl _, leV_refl _, ⟨.inr rfl, rfl, rfl, fun j hj => ?_⟩, leV_refl _, trivial⟩, trivial, rfl, rfl⟩, (by show n - (i + 1) < n - i; omega)⟩
    show (if j < i then F j else litF 1 (F i) (j - i)) = F j
    split
    · rfl
    · have : j = i := by have : j < i + 1 := hj; omega
      subst this; rw [Nat.sub_self]; rfl
  · have q : decide ((i : Int) < n) = false := decide_eq_false (by omega)
    have e : i = n := by omega
    subst e
    conv => whnf
    split
    · rename_i h
      exact Bool.noConfusion ((q).symm.trans h)
    rename_i hN
    clear hN
    conv => whnf
    exact ⟨rfl, rfl⟩

theorem c_Speeds (up : List Ces) (hk : gl g_control_kinds = kindsI) (m : Mc) (n : Nat) (hn : n ≤ 10000000) (l : Nat → Ac) :
    Cs gl n_control_Speeds up [m.iv, .lst none 5 n fun i => (l i).cs] (bif repE0 m n != 0 then .tup [.nilS, .int .i64 (repE0 m n)] else bif (repE m l n 0).2 != 0 then .tup [.nilS, .int .i64 (repE m l n 0).2] else .tup [.lst (some 20) 1 n fun i => [.int .i64 (repS m l (i + 1)).speed], .int .i64 0]) up := by
  refine mk h_control_Speeds rfl rfl ?_
  have h := fun up => c_replay (gl := gl) up hk m n hn l
  unfold repR at h
  by_cases h0 : repE0 m n = 0
  rotate_left
  · have q : (repE0 m n != 0) = true := by simpa using h0
    rw [q, cond_true] at h
    rw [q, cond_true]
    conv => whnf
    repeat first
      | (refine DRAW.seek ?_; repeat (first | refine TRYD.take ?_ | refine TRYD.next ?_); conv => whnf)
      | (refine HOLD.mk (by first | exact trivial | exact ⟨⟨rfl, rfl⟩, trivial⟩ | exact ⟨⟨rfl, rfl⟩, ⟨rfl, rfl⟩, trivial⟩) ?_; (conv => whnf))
      | (refine CALL0.by (h ..) rfl ?_; conv => whnf)
      | (refine CALLQ.mk _ _ _ (leL_refl _) (h ..) rfl ?_; conv => whnf)
    split
    rotate_left
    · rename_i h
      exact Bool.noConfusion ((q).symm.trans h)
    rename_i hN
    clear hN
    conv => whnf
    exact ⟨rfl, rfl⟩
  have q : (repE0 m n != 0) = false := by simpa using h0
  rw [q, cond_false] at h
  rw [q, cond_false]
  cases q1 : ((repE m l n 0).2 != 0) with
  | true =>
    rw [q1, cond_true] at h
    conv => whnf
    repeat first
      | (refine DRAW.seek ?_; repeat (first | refine TRYD.take ?_ | refine TRYD.next ?_); conv => whnf)
      | (refine HOLD.mk (by first | exact trivial | exact ⟨⟨rfl, rfl⟩, trivial⟩ | exact ⟨⟨rfl, rfl⟩, ⟨rfl, rfl⟩, trivial⟩) ?_; (conv => whnf))
      | (refine CALL0.by (h ..) rfl ?_; conv => whnf)
      | (refine CALLQ.mk _ _ _ (leL_refl _) (h ..) rfl ?_; conv => whnf)
    split
    rotate_left
    · rename_i h
      exact Bool.noConfusion ((q1).symm.trans h)
    rename_i hN
    clear hN
    conv => whnf
    exact ⟨rfl, rfl⟩
  | false =>
    rw [q1, cond_false] at h
    conv => whnf
    repeat first
      | (refine DRAW.seek ?_; repeat (first | refine TRYD.take ?_ | refine TRYD.next ?_); conv => whnf)
      | (refine HOLD.mk (by first | exact trivial | exact ⟨⟨rfl, rfl⟩, trivial⟩ | exact ⟨⟨rfl, rfl⟩, ⟨rfl, rfl⟩, trivial⟩) ?_; (conv => whnf))
      | (refine CALL0.by (h ..) rfl ?_; conv => whnf)
      | (refine CALLQ.mk _ _ _ (leL_refl _) (h ..) rfl ?_; conv => whnf)
    refine .mk _ _ _ _ _ ?_ (c_mapped _ n hn (fun i => repS m l (i + 1))) rfl ?_
    · exact ⟨⟨.inl rfl, rfl, rfl, fun _ _ => rfl⟩, leV_refl _, trivial⟩
    conv => whnf
    exact ⟨rfl, rfl⟩

end Go.Proofs.YtkdlegfakefjgaaGreatDoor.Ix

/-
  Ca14: contracts of sort.Search, Table.
-/
namespace Go.Proofs.YtkdlegfakefjgaaGreatDoor.Ix
open Go.Proofs
set_option maxRecDepth 100000
set_option linter.unusedVariables false
set_option linter.unusedSimpArgs false
variable {gl : Nat → IV}

/-- The search between 'i' and 'j'. -/
def srch (P : Nat → Bool) : Nat → Nat → Nat → Nat
  | 0, i, _ => i
  | f + 1, i, j => bif decide (i < j) then (bif P ((i + j) / 2) then srch P f i ((i + j) / 2) else srch P f ((i + j) / 2 + 1) j) else i

theorem half_eq {i j n : Nat} (hn : n ≤ 1000000) (hi : i ≤ n) (hj : j ≤ n) :
    IntKind.i64.wrap ((IntKind.u64.wrap (IntKind.i64.wrap ((i : Int) + (j : Int)))).fdiv (2 ^ min (Int.toNat 1) IntKind.u64.bits)) = (((i + j) / 2 : Nat) : Int) := by
  rw [wrap_in (n := (i : Int) + (j : Int)) (by omega) (by omega)]
  have e : IntKind.u64.wrap ((i : Int) + (j : Int)) = (i : Int) + (j : Int) := by
    unfold IntKind.wrap
    simp [IntKind.bits, IntKind.signed]
    omega
  rw [e, show (2 : Int) ^ min (Int.toNat 1) IntKind.u64.bits = 2 from rfl, Int.fdiv_eq_ediv_of_nonneg _ (by decide), wrap_in (by omega) (by omega)]
  omega

set_option maxHeartbeats 8000000 in
theorem c_Search (B : Ces) (up : List Ces) (n : Nat) (hn : n ≤ 1000000) (P : Nat → Bool) (k d1 d2 : Nat)
    (hk : ∀ i : Nat, i < n → Cs gl k ([] :: B :: up) [.int .i64 i, .ptr 2 d1 0, .ptr 2 d2 0] (.bool (P i)) ([] :: B :: up)) :
    Cs gl n_sort_Search (B :: up) [.int .i64 n, .fn k [] [.ptr 1 d1 0, .ptr 1 d2 0]] (.int .i64 (srch P n 0 n)) (B :: up) := by
  refine mk h_sort_Search rfl rfl ?_
  generalize hR : srch P n 0 n = R
  conv => whnf
  refine .mk (α := {x : Nat × Nat × Nat // x.1 ≤ x.2.1 ∧ x.2.1 ≤ n ∧ x.2.1 - x.1 ≤ x.2.2 ∧ srch P x.2.2 x.1 x.2.1 = R}) (fun x => ⟨[(6, .int .i64 x.1.2.1), (5, .int .i64 x.1.1), (1, .fn k [] [.ptr 1 d1 0, .ptr 1 d2 0])], [], B :: up⟩) (fun x => x.1.2.1 - x.1.1) ⟨(0, n, n), Nat.zero_le _, Nat.le_refl _, Nat.le_refl _, hR⟩ ⟨?_, trivial, rfl, rfl⟩ ?_
  · exact ⟨leV_refl _, leV_refl _, leV_refl _, trivial⟩
  rintro ⟨⟨i, j, f⟩, h1, h2, h3, h4⟩
  replace h1 : i ≤ j := h1
  replace h2 : j ≤ n := h2
  replace h3 : j - i ≤ f := h3
  replace h4 : srch P f i j = R := h4
  by_cases hlt : i < j
  · have q : decide ((i : Int) < (j : Int)) = true := decide_eq_true (by omega)
    obtain ⟨g, rfl⟩ : ∃ g, f = g + 1 := ⟨f - 1, by omega⟩
    unfold srch at h4
    rw [decide_eq_true hlt, cond_true] at h4
    have hv := half_eq (i := i) (j := j) hn (by omega) h2
    generalize hh : (i + j) / 2 = h at h4 hv
    have hw : w64 ((h : Int) + 1) = ((h + 1 : Nat) : Int) := by rw [w64, wrap_in] <;> omega
    have hc := hk h (by omega)
    cases qP : P h with
    | true =>
      rw [qP] at hc
      rw [qP, cond_true] at h4
      conv => whnf
      split
      rotate_left
      · rename_i h
        exact Bool.noConfusion ((q).symm.trans h)
      rename_i hN
      clear hN
      conv => whnf
      refine .mk _ _ _ _ _ ?_ hc rfl ?_
      · exact ⟨leV_int hv, leV_refl _, leV_refl _, trivial⟩
      conv => whnf
      refine ⟨⟨(i, h, g), by show i ≤ h; omega, by show h ≤ n; omega, by show h - i ≤ g; omega, h4⟩, ⟨⟨leV_int hv, leV_refl _, leV_refl _, trivial⟩, trivial, rfl, rfl⟩, ?_⟩
      show h - i < j - i
      omega
    | false =>
      rw [qP] at hc
      rw [qP, cond_false] at h4
      conv => whnf
      split
      rotate_left
      · rename_i h
        exact Bool.noConfusion ((q).symm.trans h)
      rename_i hN
      clear hN
      conv => whnf
      refine .mk _ _ _ _ _ ?_ hc rfl ?_
      · exact ⟨leV_int hv, leV_refl _, leV_refl _, trivial⟩
      conv => whnf
      refine ⟨⟨(h + 1, j, g), by show h + 1 ≤ j; omega, h2, by show j - (h + 1) ≤ g; omega, h4⟩, ⟨⟨leV_refl _, leV_int ?_, leV_refl _, trivial⟩, trivial, rfl, rfl⟩, ?_⟩
      · show w64 (IntKind.i64.wrap ((IntKind.u64.wrap (IntKind.i64.wrap ((i : Int) + (j : Int)))).fdiv (2 ^ min (Int.toNat 1) IntKind.u64.bits)) + 1) = _
        rw [hv, hw]
      · show j - (h + 1) < j - i
        omega
  · have q : decide ((i : Int) < (j : Int)) = false := decide_eq_false (by omega)
    have e : srch P f i j = i := by
      cases f with
      | zero => rfl
      | succ g => unfold srch; rw [decide_eq_false hlt]; rfl
    rw [e] at h4
    subst h4
    conv => whnf
    split
    · rename_i h
      exact Bool.noConfusion ((q).symm.trans h)
    rename_i hN
    clear hN
    conv => whnf
    exact ⟨rfl, rfl⟩

/-- The state that the table asks about. -/
def atS (angle speed : Int) : Sta := ⟨sRun, speed, angle, angle, angle, 0, -1⟩

theorem c_f119 (X Y B : Ces) (up : List Ces) (x a : Int) (d : Nat) (hc : lookC B d = some [.int .i64 a]) : Cs gl n_control_Table_1 (X :: Y :: B :: up) [.int .i64 x, .ptr 3 d 0] (atS a x).iv (X :: Y :: B :: up) := by
  refine mk h_control_Table_1 rfl rfl ?_
  conv => whnf
  split
  rotate_left
  · rename_i h; exact absurd (hc.symm.trans h) nofun
  rename_i c0 h
  obtain rfl := Option.some.inj (hc.symm.trans h)
  clear h
  conv => whnf
  split
  rotate_left
  · rename_i h; exact absurd (hc.symm.trans h) nofun
  rename_i c0 h
  obtain rfl := Option.some.inj (hc.symm.trans h)
  clear h
  conv => whnf
  split
  rotate_left
  · rename_i h; exact absurd (hc.symm.trans h) nofun
  rename_i c0 h
  obtain rfl := Option.some.inj (hc.symm.trans h)
  clear h
  conv => whnf
  exact ⟨rfl, rfl⟩

theorem c_f121 (Y B : Ces) (up : List Ces) (m : Mc) (N : Nat → Nat) (x a : Int) (d1 d2 d : Nat) (h1 : lookC B d1 = some [.fn n_control_Table_1 [] [.ptr 0 d 0]]) (h2 : lookC B d2 = some m.cs) (hc : lookC B d = some [.int .i64 a])
    (hn : ∀ k, k < 3 → (atS a x).takes m (k : Nat) (N k) ∧ N k ≤ 1000000) :
    Cs gl n_control_Table_2 (Y :: B :: up) [.int .i64 x, .ptr 2 d1 0, .ptr 2 d2 0] (.bool (!(atS a x).safeB m N)) (Y :: B :: up) := by
  refine mk h_control_Table_2 rfl rfl ?_
  have hs := fun up => c_safe (gl := gl) up (atS a x) m N hn
  have hf := fun X => c_f119 (gl := gl) X Y B up x a d hc
  conv => whnf
  refine DRAW.seek ?_
  repeat (first | refine TRYD.take ?_ | refine TRYD.next ?_)
  conv => whnf
  split
  rotate_left
  · rename_i h; exact absurd (h1.symm.trans h) nofun
  rename_i c0 h
  obtain rfl := Option.some.inj (h1.symm.trans h)
  clear h
  conv => whnf
  first | refine CALLQ.mk _ _ _ (leL_refl _) (hf _) rfl ?_ | refine CALL0.mk _ _ _ _ _ (leL_refl _) (hf _) rfl ?_
  conv => whnf
  split
  rotate_left
  · rename_i h; exact absurd (h2.symm.trans h) nofun
  rename_i c0 h
  obtain rfl := Option.some.inj (h2.symm.trans h)
  clear h
  conv => whnf
  first | refine CALLQ.mk _ _ _ (leL_refl _) (hs _) rfl ?_ | refine CALL0.mk _ _ _ _ _ (leL_refl _) (hs _) rfl ?_
  conv => whnf
  exact ⟨rfl, rfl⟩

/-! The rows. -/
structure Rw where
  pitch : Int
  speed : Int
def Rw.cs (r : Rw) : List IV := [.int .i64 r.pitch, .int .i64 r.speed]
/-- The first speed that is not safe. -/
def firstS0 (m : Mc) (N : Int → Int → Nat → Nat) (a : Int) : Nat := srch (fun v => !(atS a v).safeB m (N a v)) (m.lim + 1).toNat 0 (m.lim + 1).toNat
def rowsOf (m : Mc) (N : Int → Int → Nat → Nat) : Nat → List Rw
  | 0 => []
  | k + 1 => bif decide (0 < firstS0 m N k) then rowsOf m N k ++ [⟨k, (firstS0 m N k : Int) - 1⟩] else rowsOf m N k
theorem rowsOf_len (m : Mc) (N : Int → Int → Nat → Nat) : ∀ k, (rowsOf m N k).length ≤ k
  | 0 => Nat.le_refl _
  | k + 1 => by
    have := rowsOf_len m N k
    unfold rowsOf
    cases decide (0 < firstS0 m N k) <;> simp <;> omega
def row0 : Rw := ⟨0, 0⟩
def tableR (m : Mc) (N : Int → Int → Nat → Nat) : IV :=
  bif m.err != 0 then .tup [.nilS, .int .i64 m.err] else .tup [.lst (some 34) 2 (rowsOf m N (m.fea + 1).toNat).length fun i => ((rowsOf m N (m.fea + 1).toNat).getD i row0).cs, .int .i64 0]

theorem srch_le (P : Nat → Bool) : ∀ f i j, i ≤ j → srch P f i j ≤ j
  | 0, i, j, h => h
  | f + 1, i, j, h => by
    unfold srch
    cases q : decide (i < j) with
    | false => exact h
    | true =>
      have := of_decide_eq_true q
      cases P ((i + j) / 2) with
      | true => have := srch_le P f i ((i + j) / 2) (by omega); simp only [cond_true]; omega
      | false => have := srch_le P f ((i + j) / 2 + 1) j (by omega); simp only [cond_true, cond_false]; omega

set_option maxHeartbeats 8000000 in
theorem c_Table (up : List Ces) (m : Mc) (N : Int → Int → Nat → Nat)
    (hn : m.ok → ∀ (a v : Int), 0 ≤ a → a ≤ m.fea → 0 ≤ v → v ≤ m.lim → ∀ k : Nat, k < 3 → (atS a v).takes m k (N a v k) ∧ N a v k ≤ 1000000) :
    Cs gl n_control_Table up [m.iv] (tableR m N) up := by
  refine mk h_control_Table rfl rfl ?_
  unfold tableR
  by_cases h0 : m.err = 0
  rotate_left
  · have q : (m.err != 0) = true := by simpa using h0
    rw [q, cond_true]
    conv => whnf
    repeat first
      | (refine DRAW.seek ?_; repeat (first | refine TRYD.take ?_ | refine TRYD.next ?_); conv => whnf)
      | (refine HOLD.mk (by first | exact trivial | exact ⟨⟨rfl, rfl⟩, trivial⟩ | exact ⟨⟨rfl, rfl⟩, ⟨rfl, rfl⟩, trivial⟩) ?_; (conv => whnf))
      | (refine CALL0.by (c_CheckMachine ..) rfl ?_; conv => whnf)
      | (refine CALLQ.mk _ _ _ (leL_refl _) (c_CheckMachine ..) rfl ?_; conv => whnf)
    split
    rotate_left
    · rename_i h
      exact Bool.noConfusion ((q).symm.trans h)
    rename_i hN
    clear hN
    conv => whnf
    exact ⟨rfl, rfl⟩
  have q : (m.err != 0) = false := by simpa using h0
  have hm : m.ok := Mc.err_ok h0
  rw [q, cond_false]
  replace hn := hn hm
  have hf := hm.fea
  have hl := hm.lim
  conv => whnf
  repeat first
    | (refine DRAW.seek ?_; repeat (first | refine TRYD.take ?_ | refine TRYD.next ?_); conv => whnf)
    | (refine HOLD.mk (by first | exact trivial | exact ⟨⟨rfl, rfl⟩, trivial⟩ | exact ⟨⟨rfl, rfl⟩, ⟨rfl, rfl⟩, trivial⟩) ?_; (conv => whnf))
    | (refine CALL0.by (c_CheckMachine ..) rfl ?_; conv => whnf)
    | (refine CALLQ.mk _ _ _ (leL_refl _) (c_CheckMachine ..) rfl ?_; conv => whnf)
  split
  · rename_i h
    exact Bool.noConfusion ((q).symm.trans h)
  rename_i hN
  clear hN
  conv => whnf
  generalize hF : (m.fea + 1).toNat = F
  generalize hL : (m.lim + 1).toNat = L
  let G : Nat → Nat → List IV := fun k i => ((rowsOf m N k).getD i row0).cs
  have hwF : w64 (m.fea + 1) = (F : Int) := by rw [w64, wrap_in] <;> omega
  have hwL : w64 (m.lim + 1) = (L : Int) := by rw [w64, wrap_in] <;> omega
  refine .mk (α := {k : Nat // k ≤ F}) (fun k => ⟨[(17, .int .i64 k.1), (16, .int .i64 F), (5, .lst (some 34) 2 (rowsOf m N k.1).length (G k.1)), (1, .ptr 0 1 0)], [(1, m.cs)], up⟩) (fun k => F - k.1) ⟨0, Nat.zero_le _⟩ ⟨?_, ⟨leL_refl _, trivial⟩, rfl, rfl⟩ ?_
  · exact ⟨leV_refl _, leV_int hwF, rfl, leV_refl _, trivial⟩
  rintro ⟨k, hk⟩
  have hw : w64 ((k : Int) + 1) = ((k + 1 : Nat) : Int) := by rw [w64, wrap_in] <;> omega
  by_cases hlt : k < F
  · have q : decide ((k : Int) < F) = true := decide_eq_true (by omega)
    have hr : firstS0 m N k ≤ L := by
      unfold firstS0; rw [hL]; exact srch_le _ _ _ _ (Nat.zero_le _)
    have hS := c_Search (gl := gl) [(7, [.fn n_control_Table_1 [] [.ptr 0 6 0]]), (6, [.int .i64 k]), (1, m.cs)] up L (by omega) (fun v => !(atS k v).safeB m (N k v)) n_control_Table_2 7 1
      (fun v hv => c_f121 [] _ up m (N k v) v k 7 1 6 rfl rfl rfl (hn k v (by omega) (by omega) (by omega) (by omega)))
    have e0 : srch (fun v => !(atS k v).safeB m (N k v)) L 0 L = firstS0 m N k := by unfold firstS0; rw [hL]
    rw [e0] at hS
    cases qz : decide (0 < firstS0 m N k) with
    | true =>
      have hz := of_decide_eq_true qz
      have qz' : decide (((firstS0 m N k : Nat) : Int) > 0) = true := decide_eq_true (by omega)
      have e1 : rowsOf m N (k + 1) = rowsOf m N k ++ [⟨k, (firstS0 m N k : Int) - 1⟩] := by
        conv => lhs; unfold rowsOf
        rw [qz]; rfl
      have hlen := rowsOf_len m N k
      have hv : w64 (((firstS0 m N k : Nat) : Int) - 1) = (firstS0 m N k : Int) - 1 := by rw [w64, wrap_in] <;> omega
      conv => whnf
      split
      rotate_left
      · rename_i h
        exact Bool.noConfusion ((q).symm.trans h)
      rename_i hN
      clear hN
      conv => whnf
      refine .mk _ _ _ _ _ ?_ hS rfl ?_
      · exact ⟨leV_int hwL, leV_refl _, trivial⟩
      conv => whnf
      split
      rotate_left
      · rename_i h
        exact Bool.noConfusion ((qz').symm.trans h)
      rename_i hN
      clear hN
      conv => whnf
      split
      rotate_left
      · rename_i h
        have h' : decide ((rowsOf m N k).length + 1 ≤ 1073741824) = false := h
        simp at h' <;> omega
      conv => whnf
      refine ⟨⟨k + 1, hlt⟩, ⟨⟨leV_int hw, leV_refl _, ⟨.inr rfl, rfl, ?_, fun j hj => ?_⟩, leV_refl _, trivial⟩, ⟨leL_refl _, trivial⟩, rfl, rfl⟩, ?_⟩
      · show (rowsOf m N k).length + 1 = (rowsOf m N (k + 1)).length
        rw [e1]; simp
      · show (if j < (rowsOf m N k).length then G k j else litF 2 _ (j - (rowsOf m N k).length)) = ((rowsOf m N (k + 1)).getD j row0).cs
        rw [e1]
        split
        · rename_i hj2
          show ((rowsOf m N k).getD j row0).cs = _
          rw [List.getD_eq_getElem?_getD, List.getD_eq_getElem?_getD, List.getElem?_append_left hj2]
        · have hj' : j < (rowsOf m N k).length + 1 := hj
          have : j = (rowsOf m N k).length := by omega
          subst this
          rw [Nat.sub_self, List.getD_eq_getElem?_getD, List.getElem?_append_right (Nat.le_refl _), Nat.sub_self]
          show [IV.int .i64 k, IV.int .i64 (w64 (((firstS0 m N k : Nat) : Int) - 1))] = [IV.int .i64 k, IV.int .i64 ((firstS0 m N k : Int) - 1)]
          rw [hv]
      · show F - (k + 1) < F - k
        omega
    | false =>
      have hz := of_decide_eq_false qz
      have qz' : decide (((firstS0 m N k : Nat) : Int) > 0) = false := decide_eq_false (by omega)
      have e1 : rowsOf m N (k + 1) = rowsOf m N k := by
        conv => lhs; unfold rowsOf
        rw [qz]; rfl
      conv => whnf
      split
      rotate_left
      · rename_i h
        exact Bool.noConfusion ((q).symm.trans h)
      rename_i hN
      clear hN
      conv => whnf
      refine .mk _ _ _ _ _ ?_ hS rfl ?_
      · exact ⟨leV_int hwL, leV_refl _, trivial⟩
      conv => whnf
      split
      · rename_i h
        exact Bool.noConfusion ((qz').symm.trans h)
      rename_i hN
      clear hN
      conv => whnf
      refine ⟨⟨k + 1, hlt⟩, ⟨⟨leV_int hw, leV_refl _, ⟨.inr rfl, rfl, ?_, fun j hj => ?_⟩, leV_refl _, trivial⟩, ⟨leL_refl _, trivial⟩, rfl, rfl⟩, ?_⟩
      · show (rowsOf m N k).length = (rowsOf m N (k + 1)).length
        rw [e1]
      · show ((rowsOf m N k).getD j row0).cs = ((rowsOf m N (k + 1)).getD j row0).cs
        rw [e1]
      · show F - (k + 1) < F - k
        omega
  · have q : decide ((k : Int) < F) = false := decide_eq_false (by omega)
    have : k = F := by omega
    subst this
    conv => whnf
    split
    · rename_i h
      exact Bool.noConfusion ((q).symm.trans h)
    rename_i hN
    clear hN
    conv => whnf
    exact ⟨rfl, rfl⟩
end Go.Proofs.YtkdlegfakefjgaaGreatDoor.Ix

/-
  Cp2: a stop in natural numbers, to be run.
-/
namespace Go.Proofs.YtkdlegfakefjgaaGreatDoor.Ix
open Go.Proofs
set_option linter.unusedVariables false
set_option linter.unusedSimpArgs false

theorem most_ge (s : Sta) (m : Mc) (stuck : Int) : ∀ n, s.speed ≤ s.most m stuck n
  | 0 => Int.le_refl _
  | n + 1 => by
    have := most_ge s m stuck n
    unfold Sta.most
    rw [maxW_eq]; omega

theorem most_shift (s : Sta) (m : Mc) (stuck : Int) : ∀ n, s.most m stuck (n + 1) = max s.speed ((s.brakedW m m.wind stuck).most m stuck n)
  | 0 => by
    show maxW s.speed (s.stepW m stuck 1).speed = _
    rw [maxW_eq]; rfl
  | n + 1 => by
    have h := most_shift s m stuck n
    rw [Sta.most, h, maxW_eq, stepW_succ]
    show _ = max s.speed (maxW _ _)
    rw [maxW_eq]
    omega

theorem takes_succ {s : Sta} {m : Mc} {stuck : Int} {n : Nat} (h : s.takes m stuck (n + 1)) : s.restB m stuck = false ∧ (s.brakedW m m.wind stuck).takes m stuck n := by
  refine ⟨h.1 0 (by omega), fun k hk => ?_, ?_⟩
  · rw [← stepW_succ]; exact h.1 (k + 1) (by omega)
  · rw [← stepW_succ]; exact h.2

theorem nbeq_ne {a b : Nat} (h : ¬ a = b) : Nat.beq a b = false := by
  cases q : Nat.beq a b with
  | false => rfl
  | true => exact absurd ((beq_iff _ _).1 q) h

def stepQ (k r f i p : Nat) : Nat := bif Nat.beq i k then p else min (p + r) f
def restX (f k v p0 p1 p2 : Nat) : Bool := Nat.beq v 0 && (Nat.beq k 0 || Nat.beq p0 f) && (Nat.beq k 1 || Nat.beq p1 f) && (Nat.beq k 2 || Nat.beq p2 f)
/-- The peak and the number of steps of a stop with the blade 'k' stuck. -/
def runX (w f r k : Nat) : Nat → Nat → Nat → Nat → Nat → Nat → Nat × Nat
  | 0, _, _, _, _, b => (b, 0)
  | g + 1, v, p0, p1, p2, b => bif restX f k v p0 p1 p2 then (b, 0) else
    match runX w f r k g (v + w - (stepQ k r f 0 p0 + stepQ k r f 1 p1 + stepQ k r f 2 p2)) (stepQ k r f 0 p0) (stepQ k r f 1 p1) (stepQ k r f 2 p2) (max b (v + w - (stepQ k r f 0 p0 + stepQ k r f 1 p1 + stepQ k r f 2 p2))) with
    | (b, n) => (b, n + 1)

theorem stepQ_eq {m : Mc} {k i p : Nat} {w f r : Nat} (hf : m.fea = f) (hr : m.rate = r) : stepP m (k : Nat) (i : Nat) (p : Nat) = (stepQ k r f i p : Nat) := by
  unfold stepP stepQ
  rw [hf, hr]
  by_cases h : i = k
  · rw [if_pos (by omega), (beq_iff _ _).2 h]; rfl
  · rw [if_neg (by omega), nbeq_ne h, cond_false]
    omega

theorem runX_eq {m : Mc} (hm : m.ok) {w f r k : Nat} (hw : m.wind = w) (hf : m.fea = f) (hr : m.rate = r) (hk : k < 3) : ∀ (n g : Nat) (s : Sta) (v p0 p1 p2 b : Nat), s.rng m → s.speed ≤ 100000 + 100 * (5000 - n) → n ≤ 5000 → s.speed = v → s.p0 = p0 → s.p1 = p1 → s.p2 = p2 → v ≤ b → s.takes m (k : Nat) n → n < g →
    runX w f r k g v p0 p1 p2 b = (max b (s.most m (k : Nat) n).toNat, n) := by
  have rest : ∀ (s : Sta) (v p0 p1 p2 : Nat), s.speed = v → s.p0 = p0 → s.p1 = p1 → s.p2 = p2 → restX f k v p0 p1 p2 = s.restB m (k : Nat) := by
    intro s v p0 p1 p2 h1 h2 h3 h4
    have hb : ∀ a b : Nat, Nat.beq a b = decide (a = b) := fun a b => by
      by_cases h : a = b
      · rw [(beq_iff _ _).2 h, decide_eq_true h]
      · rw [nbeq_ne h, decide_eq_false h]
    unfold restX Sta.restB
    rw [h1, h2, h3, h4, hf]
    simp only [hb]
    rw [Bool.eq_iff_iff]
    obtain rfl | rfl | rfl : k = 0 ∨ k = 1 ∨ k = 2 := by omega
    all_goals
      cases hv : ((v : Int) == 0) <;> simp at hv <;> simp [hv]
    all_goals omega
  intro n
  induction n with
  | zero =>
    intro g s v p0 p1 p2 b hs hsp hn h1 h2 h3 h4 hb ht hg
    obtain ⟨g, rfl⟩ : ∃ x, g = x + 1 := ⟨g - 1, by omega⟩
    have hr0 : s.restB m (k : Nat) = true := ht.2
    unfold runX
    rw [rest s v p0 p1 p2 h1 h2 h3 h4, hr0]
    show (b, 0) = (max b s.speed.toNat, 0)
    congr 1
    omega
  | succ n ih =>
    intro g s v p0 p1 p2 b hs hsp hn h1 h2 h3 h4 hb ht hg
    obtain ⟨g, rfl⟩ : ∃ x, g = x + 1 := ⟨g - 1, by omega⟩
    obtain ⟨hr0, ht'⟩ := takes_succ ht
    have hwb := hm.wind
    have hs' := step_rng hm hs (by omega) m.wind (k : Nat) (by omega)
    have e := braked_eq hm hs m.wind (k : Nat) (by omega)
    have q0 := stepQ_eq (m := m) (k := k) (i := 0) (p := p0) (w := w) hf hr
    have q1 := stepQ_eq (m := m) (k := k) (i := 1) (p := p1) (w := w) hf hr
    have q2 := stepQ_eq (m := m) (k := k) (i := 2) (p := p2) (w := w) hf hr
    rw [← h2] at q0; rw [← h3] at q1; rw [← h4] at q2
    have q0 : stepP m (k : Nat) 0 s.p0 = _ := q0
    have q1 : stepP m (k : Nat) 1 s.p1 = _ := q1
    have q2 : stepP m (k : Nat) 2 s.p2 = _ := q2
    rw [q0, q1, q2] at e
    unfold runX
    rw [rest s v p0 p1 p2 h1 h2 h3 h4, hr0]
    have hih := ih g (s.brakedW m m.wind (k : Nat)) (v + w - (stepQ k r f 0 p0 + stepQ k r f 1 p1 + stepQ k r f 2 p2)) (stepQ k r f 0 p0) (stepQ k r f 1 p1) (stepQ k r f 2 p2) (max b (v + w - (stepQ k r f 0 p0 + stepQ k r f 1 p1 + stepQ k r f 2 p2))) hs'
    generalize stepQ k r f 0 p0 = y0 at e hih ⊢
    generalize stepQ k r f 1 p1 = y1 at e hih ⊢
    generalize stepQ k r f 2 p2 = y2 at e hih ⊢
    have hsp' : (s.brakedW m m.wind (k : Nat)).speed = ((v + w - (y0 + y1 + y2) : Nat) : Int) := by
      rw [e]
      show max 0 (s.speed + m.wind - y0 - y1 - y2) = _
      rw [h1, hw]
      omega
    have hih := hih (by rw [hsp']; have := h1; omega) (by omega) hsp' (by rw [e]) (by rw [e]) (by rw [e]) (by omega) ht' (by omega)
    rw [cond_false, hih]
    have hm1 := most_shift s m (k : Nat) n
    have hm2 := most_ge (s.brakedW m m.wind (k : Nat)) m (k : Nat) n
    rw [hm1]
    show (_, n + 1) = (_, n + 1)
    congr 1
    rw [hsp'] at hm2
    omega
end Go.Proofs.YtkdlegfakefjgaaGreatDoor.Ix

/-
  Cp3: plain laws of stops: what is at rest stays so; a stop from less speed, with blades nearer to Feather, in less wind has no greater peak.
-/
namespace Go.Proofs.YtkdlegfakefjgaaGreatDoor.Ix
open Go.Proofs
set_option linter.unusedVariables false
set_option linter.unusedSimpArgs false

theorem restB_iff (s : Sta) (m : Mc) (stuck : Int) : s.restB m stuck = true ↔ s.speed = 0 ∧ (stuck = 0 ∨ s.p0 = m.fea) ∧ (stuck = 1 ∨ s.p1 = m.fea) ∧ (stuck = 2 ∨ s.p2 = m.fea) := by
  unfold Sta.restB
  cases q : (s.speed == 0) with
  | false =>
    have : ¬ s.speed = 0 := by simpa using q
    simp [this]
  | true =>
    have e : s.speed = 0 := by simpa using q
    simp only [cond_true, Bool.and_eq_true, beq_iff_eq, and_true, e, true_and]
    by_cases a0 : stuck = 0 <;> by_cases a1 : stuck = 1 <;> by_cases a2 : stuck = 2 <;> simp [a0, a1, a2]

theorem far_nonneg {m : Mc} {s : Sta} (hs : s.rng m) (stuck : Int) : 0 ≤ s.far m stuck := by
  obtain ⟨g1, g2, g3, g4⟩ := hs
  unfold Sta.far
  (repeat' split) <;> omega

theorem speed_mu {m : Mc} {s : Sta} (hs : s.rng m) (stuck : Int) : s.speed ≤ s.mu m stuck := by
  have := far_nonneg hs stuck
  unfold Sta.mu
  omega

theorem mu_start {m : Mc} (hm : m.ok) {s : Sta} (hs : s.rng m) (hsp : s.speed ≤ 10000) (stuck : Int) : s.mu m stuck ≤ 20100 := by
  have := hm.fea
  obtain ⟨g1, g2, g3, g4⟩ := hs
  unfold Sta.mu Sta.far
  (repeat' split) <;> omega

theorem rest_stays {m : Mc} (hm : m.ok) {s : Sta} (hs : s.rng m) {stuck : Int} (h1 : -1 ≤ stuck) (h2 : stuck ≤ 2) (hr : s.restB m stuck = true) : (s.brakedW m m.wind stuck).restB m stuck = true ∧ (s.brakedW m m.wind stuck).mu m stuck = 0 := by
  obtain ⟨e, r0, r1, r2⟩ := (restB_iff ..).1 hr
  obtain ⟨w1, w2⟩ := hm.wind
  have hf := hm.fea
  have hra := hm.rate
  have h2w := hm.two
  have hb := braked_eq hm hs m.wind stuck (by omega)
  obtain ⟨g1, g2, g3, g4⟩ := hs
  rw [hb]
  refine ⟨(restB_iff ..).2 ?_, ?_⟩
  · simp only [stepP]
    (repeat' split) <;> omega
  · unfold Sta.mu Sta.far
    simp only [stepP]
    (repeat' split) <;> omega

theorem step_bnd {m : Mc} (hm : m.ok) {s : Sta} {stuck : Int} (h1 : -1 ≤ stuck) (h2 : stuck ≤ 2) (hs : s.rng m) (hmu : s.mu m stuck ≤ 20100) : (s.brakedW m m.wind stuck).rng m ∧ (s.brakedW m m.wind stuck).mu m stuck ≤ 20100 := by
  have hw := hm.wind
  have := speed_mu hs stuck
  refine ⟨step_rng hm hs (by omega) m.wind stuck (by omega), ?_⟩
  cases hr : s.restB m stuck with
  | true => have := (rest_stays hm hs h1 h2 hr).2; omega
  | false => have := mu_falls hm hs h1 h2 hr; omega

theorem stepW_bnd {m : Mc} (hm : m.ok) {s : Sta} {stuck : Int} (h1 : -1 ≤ stuck) (h2 : stuck ≤ 2) (hs : s.rng m) (hmu : s.mu m stuck ≤ 20100) : ∀ k, (s.stepW m stuck k).rng m ∧ (s.stepW m stuck k).mu m stuck ≤ 20100
  | 0 => ⟨hs, hmu⟩
  | k + 1 => by
    obtain ⟨a, b⟩ := stepW_bnd hm h1 h2 hs hmu k
    exact step_bnd hm h1 h2 a b

theorem rest_speed {s : Sta} {m : Mc} {stuck : Int} (h : s.restB m stuck = true) : s.speed = 0 := ((restB_iff ..).1 h).1

theorem most_stable {m : Mc} (hm : m.ok) {s : Sta} {stuck : Int} (h1 : -1 ≤ stuck) (h2 : stuck ≤ 2) (hs : s.rng m) (hmu : s.mu m stuck ≤ 20100) {n : Nat} (ht : s.takes m stuck n) : ∀ j, s.most m stuck (n + j) = s.most m stuck n ∧ (s.stepW m stuck (n + j)).restB m stuck = true
  | 0 => ⟨rfl, ht.2⟩
  | j + 1 => by
    obtain ⟨a, b⟩ := most_stable hm h1 h2 hs hmu ht j
    have hb := (stepW_bnd hm h1 h2 hs hmu (n + j)).1
    obtain ⟨c, _⟩ := rest_stays hm hb h1 h2 b
    refine ⟨?_, c⟩
    have hsp : (s.stepW m stuck (n + j + 1)).speed = 0 := rest_speed c
    show maxW (s.most m stuck (n + j)) (s.stepW m stuck (n + j + 1)).speed = _
    rw [hsp, a, maxW_eq]
    have := most_ge s m stuck n
    have := hs.speed
    omega

/-- What stops no worse: less speed, blades nearer to Feather. -/
structure Sta.le (s t : Sta) : Prop where
  speed : s.speed ≤ t.speed
  p0 : t.p0 ≤ s.p0
  p1 : t.p1 ≤ s.p1
  p2 : t.p2 ≤ s.p2

theorem Sta.le_refl (s : Sta) : s.le s := ⟨Int.le_refl _, Int.le_refl _, Int.le_refl _, Int.le_refl _⟩

theorem step_le {m m' : Mc} (hm : m.ok) (hm' : m'.ok) (hf : m.fea = m'.fea) (hr : m.rate = m'.rate) {s t : Sta} (hs : s.rng m) (ht : t.rng m') (hle : s.le t) {w w' : Int} (hw : 0 ≤ w ∧ w ≤ w' ∧ w' ≤ 100) {k k' : Int} (hk : k = k' ∨ k = -1) : (s.brakedW m w k).le (t.brakedW m' w' k') := by
  have b1 := braked_eq hm hs w k (by omega)
  have b2 := braked_eq hm' ht w' k' (by omega)
  have f1 := hm.fea
  have r1 := hm.rate
  obtain ⟨g1, g2, g3, g4⟩ := hs
  obtain ⟨i1, i2, i3, i4⟩ := ht
  obtain ⟨l1, l2, l3, l4⟩ := hle
  have hp : ∀ (i p q : Int), 0 ≤ i → q ≤ p → p ≤ m.fea → stepP m' k' i q ≤ stepP m k i p := fun i p q hi hqp hp => by
    unfold stepP
    rw [← hf, ← hr]
    rcases hk with rfl | rfl
    · split <;> omega
    · rw [if_neg (show ¬ i = -1 by omega)]
      split <;> omega
  have q0 := hp 0 _ _ (by decide) l2 g2.2
  have q1 := hp 1 _ _ (by decide) l3 g3.2
  have q2 := hp 2 _ _ (by decide) l4 g4.2
  rw [b1, b2]
  refine ⟨?_, q0, q1, q2⟩
  show max 0 (s.speed + w - stepP m k 0 s.p0 - stepP m k 1 s.p1 - stepP m k 2 s.p2) ≤ max 0 (t.speed + w' - stepP m' k' 0 t.p0 - stepP m' k' 1 t.p1 - stepP m' k' 2 t.p2)
  generalize stepP m k 0 s.p0 = a0 at *
  generalize stepP m k 1 s.p1 = a1 at *
  generalize stepP m k 2 s.p2 = a2 at *
  generalize stepP m' k' 0 t.p0 = c0 at *
  generalize stepP m' k' 1 t.p1 = c1 at *
  generalize stepP m' k' 2 t.p2 = c2 at *
  clear b1 b2 hp
  omega

theorem most_le {m m' : Mc} (hm : m.ok) (hm' : m'.ok) (hf : m.fea = m'.fea) (hr : m.rate = m'.rate) (hw : m.wind ≤ m'.wind) {s t : Sta} {k k' : Int} (h1 : -1 ≤ k) (h2 : k ≤ 2) (h1' : -1 ≤ k') (h2' : k' ≤ 2) (hk : k = k' ∨ k = -1)
    (hs : s.rng m) (ht : t.rng m') (hmu : s.mu m k ≤ 20100) (hmu' : t.mu m' k' ≤ 20100) (hle : s.le t) : ∀ n, (s.stepW m k n).le (t.stepW m' k' n) ∧ s.most m k n ≤ t.most m' k' n
  | 0 => ⟨hle, hle.speed⟩
  | n + 1 => by
    obtain ⟨a, b⟩ := most_le hm hm' hf hr hw h1 h2 h1' h2' hk hs ht hmu hmu' hle n
    have w1 := hm.wind
    have w2 := hm'.wind
    have c := step_le hm hm' hf hr (stepW_bnd hm h1 h2 hs hmu n).1 (stepW_bnd hm' h1' h2' ht hmu' n).1 a (w := m.wind) (w' := m'.wind) (by omega) hk
    refine ⟨c, ?_⟩
    show maxW _ (s.stepW m k (n + 1)).speed ≤ maxW _ (t.stepW m' k' (n + 1)).speed
    have c : (s.stepW m k (n + 1)).speed ≤ (t.stepW m' k' (n + 1)).speed := c.speed
    rw [maxW_eq, maxW_eq]
    omega

/-- The peak of a stop. -/
noncomputable def Sta.pk (s : Sta) (m : Mc) (k : Int) : Int := s.most m k (s.num m k)

theorem pk_at {m : Mc} (hm : m.ok) {s : Sta} (hs : s.rng m) (hsp : s.speed ≤ 10000) {k : Int} (h1 : -1 ≤ k) (h2 : k ≤ 2) {n : Nat} (hn : s.num m k ≤ n) : s.most m k n = s.pk m k := by
  obtain ⟨ht, _⟩ := takes_num hm hs hsp h1 h2
  have := (most_stable hm h1 h2 hs (mu_start hm hs hsp k) ht (n - s.num m k)).1
  rw [show s.num m k + (n - s.num m k) = n by omega] at this
  exact this

theorem pk_le {m m' : Mc} (hm : m.ok) (hm' : m'.ok) (hf : m.fea = m'.fea) (hr : m.rate = m'.rate) (hw : m.wind ≤ m'.wind) {s t : Sta} {k k' : Int} (h1 : -1 ≤ k) (h2 : k ≤ 2) (h1' : -1 ≤ k') (h2' : k' ≤ 2) (hk : k = k' ∨ k = -1)
    (hs : s.rng m) (ht : t.rng m') (hsp : s.speed ≤ 10000) (htp : t.speed ≤ 10000) (hle : s.le t) : s.pk m k ≤ t.pk m' k' := by
  rw [← pk_at hm hs hsp h1 h2 (Nat.le_max_left (s.num m k) (t.num m' k')), ← pk_at hm' ht htp h1' h2' (Nat.le_max_right (s.num m k) (t.num m' k'))]
  exact (most_le hm hm' hf hr hw h1 h2 h1' h2' hk hs ht (mu_start hm hs hsp k) (mu_start hm' ht htp k') hle _).2

/-- A safe state, by the peaks. -/
theorem safeN_iff {m : Mc} {s : Sta} : s.safeN m = true ↔ ∀ k : Nat, k < 3 → (s.stuck ≠ -1 ∧ s.stuck ≠ k) ∨ s.pk m k ≤ m.lim := by
  unfold Sta.safeN Sta.safeB Sta.safeAt
  have key : ∀ k : Nat, ((((s.stuck != -1) && (s.stuck != (k : Int))) || decide (s.most m k (s.num m k) ≤ m.lim)) = true ↔ ((s.stuck ≠ -1 ∧ s.stuck ≠ k) ∨ s.pk m k ≤ m.lim)) := fun k => by
    unfold Sta.pk
    simp
  rw [Bool.and_eq_true, Bool.and_eq_true, key 0, key 1, key 2]
  constructor
  · rintro ⟨⟨a, b⟩, c⟩ k hk
    obtain rfl | rfl | rfl : k = 0 ∨ k = 1 ∨ k = 2 := by omega
    · exact a
    · exact b
    · exact c
  · exact fun h => ⟨⟨h 0 (by omega), h 1 (by omega)⟩, h 2 (by omega)⟩

end Go.Proofs.YtkdlegfakefjgaaGreatDoor.Ix

/-
  Cp4: stops, rules, histories and tables as they are run: in natural numbers, strings compared as lists.
-/
namespace Go.Proofs.YtkdlegfakefjgaaGreatDoor.Ix
open Go.Proofs
set_option linter.unusedVariables false
set_option linter.unusedSimpArgs false

def eqD (a b : ByteArray) : Bool := a.data.toList == b.data.toList
theorem eqS_eq (a b : ByteArray) : eqS a b = eqD a b := by
  unfold eqS eqD
  rw [Lib.toList_data, Lib.toList_data]

def Sta.runW (s : Sta) (m : Mc) (k : Nat) : Nat × Nat := runX m.wind.toNat m.fea.toNat m.rate.toNat k 5001 s.speed.toNat s.p0.toNat s.p1.toNat s.p2.toNat s.speed.toNat

theorem pk_run {m : Mc} (hm : m.ok) {k : Nat} (hk : k < 3) {s : Sta} (hs : s.rng m) (hsp : s.speed ≤ 1000) (hmu : s.mu m (k : Nat) ≤ 5000) : s.pk m (k : Nat) = ((s.runW m k).1 : Int) ∧ s.num m (k : Nat) = (s.runW m k).2 := by
  obtain ⟨n, hn, hb⟩ := takes_exists hm (stuck := (k : Nat)) (by omega) (by omega) 5000 s hs hmu (by omega)
  have e := num_eq hn (by omega)
  have w := hm.wind
  have f := hm.fea
  have r := hm.rate
  have g1 := hs.speed
  have g2 := hs.p0
  have g3 := hs.p1
  have g4 := hs.p2
  have hr := runX_eq hm (w := m.wind.toNat) (f := m.fea.toNat) (r := m.rate.toNat) (by omega) (by omega) (by omega) hk n 5001 s s.speed.toNat s.p0.toNat s.p1.toNat s.p2.toNat s.speed.toNat hs (by omega) hb (by omega) (by omega) (by omega) (by omega) (Nat.le_refl _) hn (by omega)
  unfold Sta.runW Sta.pk
  rw [hr, e]
  have := most_ge s m (k : Nat) n
  exact ⟨by show _ = ((max _ _ : Nat) : Int); omega, rfl⟩

def Sta.okX (s : Sta) (m : Mc) (k : Nat) : Bool := ((s.stuck != -1) && (s.stuck != (k : Int))) || Nat.ble (s.runW m k).1 m.lim.toNat
def Sta.safeX (s : Sta) (m : Mc) : Bool := s.okX m 0 && s.okX m 1 && s.okX m 2

theorem mu_small {m : Mc} (hm : m.ok) (hf : m.fea ≤ 20) {s : Sta} (hs : s.rng m) (hsp : s.speed ≤ 1000) (k : Int) : s.mu m k ≤ 5000 := by
  obtain ⟨g1, g2, g3, g4⟩ := hs
  unfold Sta.mu Sta.far
  (repeat' split) <;> omega

theorem safe_run {m : Mc} (hm : m.ok) (hf : m.fea ≤ 20) {s : Sta} (hs : s.rng m) (hsp : s.speed ≤ m.lim) : s.safeN m = s.safeX m := by
  have hl := hm.lim
  have key : ∀ k : Nat, k < 3 → s.safeAt m (fun k => s.num m k) k = s.okX m k := fun k hk => by
    obtain ⟨h, _⟩ := pk_run hm hk hs (by omega) (mu_small hm hf hs (by omega) _)
    unfold Sta.pk at h
    unfold Sta.safeAt Sta.okX
    congr 1
    rw [Bool.eq_iff_iff, decide_eq_true_iff, Nat.ble_eq, h]
    omega
  unfold Sta.safeN Sta.safeB Sta.safeX
  rw [key 0 (by decide), key 1 (by decide), key 2 (by decide)]

def Sta.behindX (s : Sta) (m : Mc) (a : Ac) : Sta :=
  bif eqD a.kind sStart then { s with mode := sRun } else
  bif eqD a.kind sTick then Sta.laterW { s.movedW m a.pitch a.stuck with tor := a.tor } a.wind else
  bif eqD a.kind sStop then { s with mode := sStop, tor := 0 } else
  bif eqD a.kind sBrake then s.brakedW m a.wind a.stuck else
  bif eqD a.kind sRest then { s with mode := sIdle } else
  bif eqD a.kind sRepair then { s with p0 := m.fea, p1 := m.fea, p2 := m.fea, stuck := -1 } else s
theorem behind_run (s : Sta) (m : Mc) (a : Ac) : s.behindW m a = s.behindX m a := by
  unfold Sta.behindW Sta.behindX
  simp only [eqS_eq]

def Sta.ruleX (s : Sta) (m : Mc) (a : Ac) : Nat → Bool
  | 0 => (eqD a.kind sStart || eqD a.kind sRepair) && (!eqD s.mode sIdle)
  | 1 => (eqD a.kind sTick || eqD a.kind sStop) && (!eqD s.mode sRun)
  | 2 => (eqD a.kind sBrake || eqD a.kind sRest) && (!eqD s.mode sStop)
  | 3 => (eqD a.kind sStart || eqD a.kind ByteArray.empty) && s.rule4 m
  | 4 => (eqD a.kind sRest || eqD a.kind ByteArray.empty) && s.rule5 m
  | 5 => (eqD a.kind sTick || eqD a.kind sBrake) && s.rule6 a
  | 6 => (eqD a.kind sTick || eqD a.kind sBrake) && (decide ((s.behindX m a).speed > m.lim) || (eqD a.kind sTick && !(s.behindX m a).safeX m))
  | _ => false
def Sta.allowedX (s : Sta) (m : Mc) (a : Ac) : Int := firstT (s.ruleX m a) 7 0

theorem allowed_run {m : Mc} (hm : m.ok) (hf : m.fea ≤ 20) {s : Sta} (hs : s.rng m) {a : Ac} (ha : a.ok m) : s.allowedN m a = s.allowedX m a := by
  unfold Sta.allowedN Sta.allowedW Sta.allowedX
  congr 1
  funext i
  match i with
  | 0 => unfold Sta.ruleB Sta.ruleX; simp only [inK_eq, eqS_eq]
  | 1 => unfold Sta.ruleB Sta.ruleX; simp only [inK_eq, eqS_eq]
  | 2 => unfold Sta.ruleB Sta.ruleX; simp only [inK_eq, eqS_eq]
  | 3 => unfold Sta.ruleB Sta.ruleX; simp only [inK_eq, eqS_eq]
  | 4 => unfold Sta.ruleB Sta.ruleX; simp only [inK_eq, eqS_eq]
  | 5 => unfold Sta.ruleB Sta.ruleX; simp only [inK_eq, eqS_eq]
  | 6 =>
    unfold Sta.ruleB Sta.ruleX Sta.rule7
    simp only [inK_eq, eqS_eq]
    congr 1
    cases q : decide ((s.behindW m a).speed > m.lim) with
    | true => rw [← behind_run, q]; rfl
    | false =>
      rw [← behind_run, q, Bool.false_or, Bool.false_or]
      cases qt : eqD a.kind sTick with
      | false => rfl
      | true =>
        have hsp : (s.behindW m a).speed ≤ m.lim := by have := of_decide_eq_false q; omega
        have hr := tick_rng hm hs ha (by rw [eqS_eq]; exact qt) hsp
        have := safe_run hm hf hr hsp
        unfold Sta.safeN at this
        rw [this]
  | _ + 7 => rfl

def Sta.proposeX (s : Sta) (m : Mc) (wind : Int) : Ac :=
  bif eqD s.mode sIdle then (bif s.allowedX m (plainA sStart) == 4 then plainA sRepair else plainA sStart) else
  bif eqD s.mode sStop then (bif s.allowedX m (plainA sRest) == 0 then plainA sRest else ⟨sBrake, wind, 0, 0, s.stuck⟩) else
  bif s.allowedX m (s.tickA wind (s.pitchW m) (s.torW m)) == 0 then s.tickA wind (s.pitchW m) (s.torW m) else
  bif s.allowedX m (s.tickA wind m.fea (s.torW m)) == 0 then s.tickA wind m.fea (s.torW m) else plainA sStop

theorem propose_run {m : Mc} (hm : m.ok) (hf : m.fea ≤ 20) {s : Sta} (hs : s.inv m) {wind : Int} (hw : 0 ≤ wind ∧ wind ≤ m.wind) : s.proposeW m wind = s.proposeX m wind := by
  obtain ⟨hr, hl, hst⟩ := hs
  have hlim := hm.lim
  have hfe := hm.fea
  have hsp := hr.speed
  unfold Sta.proposeW Sta.proposeX
  rw [allowed_run hm hf hr (plain_ok hm _), allowed_run hm hf hr (plain_ok hm _), allowed_run hm hf hr (tick_ok hm ⟨hsp.1, by omega⟩ hst hw (pitch_rng hm s)), allowed_run hm hf hr (tick_ok hm ⟨hsp.1, by omega⟩ hst hw ⟨by omega, Int.le_refl _⟩)]
  simp only [eqS_eq]

def idxD (x : ByteArray) : List ByteArray → Int → Int
  | [], _ => -1
  | k :: r, i => bif eqD x k then i else idxD x r (i + 1)
theorem idx_run (x : ByteArray) : ∀ (l : List ByteArray) (i : Int), idxS x l i = idxD x l i
  | [], _ => rfl
  | k :: r, i => by unfold idxS idxD; rw [eqS_eq, idx_run x r]

def repX (m : Mc) (l : Nat → Ac) : Nat → Sta
  | 0 => beginS m
  | k + 1 => (repX m l k).behindX m (l k)
theorem rep_run (m : Mc) (l : Nat → Ac) : ∀ k, repS m l k = repX m l k
  | 0 => rfl
  | k + 1 => by
    show (repS m l k).behindW m (l k) = (repX m l k).behindX m (l k)
    rw [behind_run, rep_run m l k]

def Ac.formX (a : Ac) : Bool := bif eqD a.kind sTick then true else bif !eqD a.kind sBrake then (a.wind == 0 && (a.pitch == 0 && (a.tor == 0 && a.stuck == -1))) else (a.pitch == 0 && a.tor == 0)
def Ac.checkX (a : Ac) (w p t : Int) : Int := orL [bif !decide (idxD a.kind kindsL 0 ≥ 0) then 13 else 0, withinS a.wind 0 w, withinS a.pitch 0 p, withinS a.tor 0 t, withinS a.stuck (-1) 2, bif !a.formX then 2 else 0]
def Ac.errX (a : Ac) (m : Mc) : Int := orL [m.err, a.checkX m.wind m.fea m.tor]
theorem check_run (a : Ac) (w p t : Int) : a.checkE w p t = a.checkX w p t := by
  unfold Ac.checkE Ac.checkX Ac.formB Ac.formX
  simp only [idx_run, eqS_eq]
theorem acErr_run (a : Ac) (m : Mc) : a.err m = a.errX m := by
  unfold Ac.err Ac.errX
  rw [check_run]

def stepX (m : Mc) (l : Nat → Ac) (k : Nat) : Int := bif (l k).errX m == 0 then (bif (repX m l k).allowedX m (l k) != 0 then 19 else 0) else (l k).errX m
def repEX (m : Mc) (l : Nat → Ac) : Nat → Nat → Int × Int
  | 0, _ => (0, 0)
  | n + 1, i => bif stepX m l i != 0 then (((i + 1 : Nat) : Int), stepX m l i) else repEX m l n (i + 1)

theorem repE_run {m : Mc} (hm : m.ok) (hf : m.fea ≤ 20) (l : Nat → Ac) : ∀ n i, (repS m l i).inv m → repE m l n i = repEX m l n i
  | 0, _, _ => rfl
  | n + 1, i, hi => by
    have e : stepE m l i = stepX m l i := by
      unfold stepE stepX
      rw [← acErr_run]
      cases q : (l i).err m == 0 with
      | false => rfl
      | true =>
        have h0 : (l i).err m = 0 := by simpa using q
        rw [allowed_run hm hf hi.rng (Ac.err_ok h0).2.1, rep_run]
    unfold repE repEX
    rw [e]
    cases q : (stepX m l i != 0) with
    | true => rfl
    | false =>
      rw [cond_false, cond_false]
      refine repE_run hm hf l n (i + 1) ?_
      have h0 : stepE m l i = 0 := by rw [e]; simpa using q
      unfold stepE at h0
      cases q2 : (l i).err m == 0 with
      | false =>
        rw [q2, cond_false] at h0
        rw [h0] at q2; cases q2
      | true =>
        have hz : (l i).err m = 0 := by simpa using q2
        rw [q2, cond_true] at h0
        rw [bif_nz (by decide)] at h0
        have h0 : (repS m l i).allowedN m (l i) = 0 := by simpa using h0
        exact behind_inv hm hi (Ac.err_ok hz).2.1 h0

theorem srch_congr {P Q : Nat → Bool} {n : Nat} (h : ∀ v, v < n → P v = Q v) : ∀ f i j, j ≤ n → srch P f i j = srch Q f i j
  | 0, _, _, _ => rfl
  | f + 1, i, j, hj => by
    unfold srch
    cases q : decide (i < j) with
    | false => rfl
    | true =>
      have := of_decide_eq_true q
      rw [h ((i + j) / 2) (by omega), srch_congr h f i _ (by omega), srch_congr h f _ j hj]

def firstX (m : Mc) (a : Int) : Nat := srch (fun v => !(atS a v).safeX m) (m.lim + 1).toNat 0 (m.lim + 1).toNat
def rowsX (m : Mc) : Nat → List Rw
  | 0 => []
  | k + 1 => bif decide (0 < firstX m k) then rowsX m k ++ [⟨k, (firstX m k : Int) - 1⟩] else rowsX m k

/-- How many steps the stops take. -/
noncomputable abbrev numN (m : Mc) : Int → Int → Nat → Nat := fun a v k => (atS a v).num m k

theorem atS_rng {m : Mc} (hm : m.ok) {a v : Int} (ha : 0 ≤ a ∧ a ≤ m.fea) (hv : 0 ≤ v ∧ v ≤ m.lim) : (atS a v).rng m := by
  have := hm.lim
  exact ⟨by show 0 ≤ v ∧ v ≤ 1000000; omega, ha, ha, ha⟩

theorem first_run {m : Mc} (hm : m.ok) (hf : m.fea ≤ 20) {a : Int} (ha : 0 ≤ a ∧ a ≤ m.fea) : firstS0 m (numN m) a = firstX m a := by
  unfold firstS0 firstX
  refine srch_congr (n := (m.lim + 1).toNat) (fun v hv => ?_) _ _ _ (Nat.le_refl _)
  have hr := atS_rng hm ha (v := v) (by omega)
  have := safe_run hm hf hr (by show (v : Int) ≤ m.lim; omega)
  unfold Sta.safeN at this
  rw [← this]

theorem rows_run {m : Mc} (hm : m.ok) (hf : m.fea ≤ 20) : ∀ k : Nat, k ≤ (m.fea + 1).toNat → rowsOf m (numN m) k = rowsX m k
  | 0, _ => rfl
  | k + 1, hk => by
    unfold rowsOf rowsX
    rw [first_run hm hf (by omega), rows_run hm hf k (by omega)]

theorem tab_takes {m : Mc} (hm : m.ok) (a v : Int) (h1 : 0 ≤ a) (h2 : a ≤ m.fea) (h3 : 0 ≤ v) (h4 : v ≤ m.lim) (k : Nat) (hk : k < 3) : (atS a v).takes m k (numN m a v k) ∧ numN m a v k ≤ 1000000 := by
  have := hm.lim
  exact takes_num hm (atS_rng hm ⟨h1, h2⟩ ⟨h3, h4⟩) (by show v ≤ 10000; omega) (by omega) (by omega)

/-- The error of a state, its mode compared as a list. -/
def Sta.knownX (s : Sta) : Bool := eqD s.mode sIdle || (eqD s.mode sRun || (eqD s.mode sStop || false))
def Sta.fitsX (s : Sta) (m : Mc) : Bool := bif eqD s.mode sIdle then (s.speed == 0 && (s.tor == 0 && decide (atA m.fea [s.p0, s.p1, s.p2] ≥ 2))) else bif eqD s.mode sRun then true else bif eqD s.mode sStop then s.tor == 0 else false
def Sta.errX (s : Sta) (m : Mc) : Int := orE (orL [m.err, bif !s.knownX then 13 else 0, withinS s.speed 0 m.lim]) (orL [withinS s.p0 0 m.fea, withinS s.p1 0 m.fea, withinS s.p2 0 m.fea, withinS s.tor 0 m.tor, withinS s.stuck (-1) 2, bif !s.fitsX m then 20 else 0])
theorem staErr_run (s : Sta) (m : Mc) : s.err m = s.errX m := by
  unfold Sta.err Sta.err1 Sta.err2 Sta.errX Sta.known Sta.knownX Sta.fits Sta.fitsX
  simp only [eqS_beq, eqS_eq]
end Go.Proofs.YtkdlegfakefjgaaGreatDoor.Ix

/-
  Cr2: contracts of the reference's functions: the errors of states and acts, the first state.
-/
namespace Go.Proofs.YtkdlegfakefjgaaGreatDoor.Ix
open Go.Proofs
set_option maxRecDepth 100000
set_option linter.unusedVariables false
set_option linter.unusedSimpArgs false
variable {gl : Nat → IV}

def Sta.e6 (s : Sta) (m : Mc) : Int := orL [withinS s.speed 0 m.lim, withinS s.p0 0 m.fea, withinS s.p1 0 m.fea, withinS s.p2 0 m.fea, withinS s.tor 0 m.tor, withinS s.stuck (-1) 2]
theorem Sta.err_split (s : Sta) (m : Mc) : s.err m = orE m.err (orE (bif !s.known then 13 else 0) (orE (s.e6 m) (bif !s.fits m then 20 else 0))) := by
  unfold Sta.err Sta.err1 Sta.err2 Sta.e6
  simp only [orL, orE_right, orE_assoc]


def Ac.e5 (a : Ac) (m : Mc) : Int := orL [withinS a.wind 0 m.wind, withinS a.pitch 0 m.fea, withinS a.tor 0 m.tor, withinS a.stuck (-1) 2, bif !a.formB then 2 else 0]
theorem Ac.err_split (a : Ac) (m : Mc) : a.err m = orE m.err (orE (bif !hasW a.kind kindsL then 13 else 0) (a.e5 m)) := by
  unfold Ac.err Ac.checkE Ac.e5
  rw [has_idx _ _ 0 (Int.le_refl _)]
  simp only [orL, orE_right, orE_assoc]

theorem c_rBegin (up : List Ces) (m : Mc) : Cs gl n_nacelleref05_Begin up [m.iv] (beginS m).iv up := by
  refine mk h_nacelleref05_Begin rfl rfl ?_
  conv => whnf
  repeat first
    | (refine DRAW.seek ?_; repeat (first | refine TRYD.take ?_ | refine TRYD.next ?_); conv => whnf)
    | (refine HOLD.mk (by first | exact trivial | exact ⟨⟨rfl, rfl⟩, trivial⟩ | exact ⟨⟨rfl, rfl⟩, ⟨rfl, rfl⟩, trivial⟩) ?_; (conv => whnf))
  exact ⟨rfl, rfl⟩

theorem c_machine (up : List Ces) (m : Mc) : Cs gl n_nacellelaw05_machine up [m.iv] m.iv up := by
  refine mk h_nacellelaw05_machine rfl rfl ?_
  conv => whnf
  exact ⟨rfl, rfl⟩
end Go.Proofs.YtkdlegfakefjgaaGreatDoor.Ix

/-
  Cr3: contracts of the reference's functions for stops.
-/
namespace Go.Proofs.YtkdlegfakefjgaaGreatDoor.Ix
open Go.Proofs
set_option maxRecDepth 100000
set_option linter.unusedVariables false
set_option linter.unusedSimpArgs false
variable {gl : Nat → IV}

/-- A result may be told otherwise. -/
theorem Comp.res {P : Program} {gl : Nat → IV} {g : Nat} {up up' : List Ces} {args : List IV} {r r' : IV} (h : Comp P gl g up args r up') (hle : leV r r') : Comp P gl g up args r' up' :=
  ⟨h.1, fun vals w I X β σ hm hl ha => (h.2 vals w I X β σ hm hl ha).mono fun e w' ⟨v, I', s, e1, e2, e3⟩ => ⟨v, I', s, e1, leV_sound _ _ _ hle e2, e3⟩⟩

/-- A move of a blade, as the reference has it. -/
def mvR (m : Mc) (p a : Int) : Int := bif decide (a > p) then minW a (w64 (p + m.rate)) else maxW a (w64 (p - m.rate))

theorem c_rmoved (up : List Ces) (m : Mc) (p a : Int) : Cs gl n_nacelleref05_moved up [m.iv, .int .i64 p, .int .i64 a] (.int .i64 (mvR m p a)) up := by
  refine mk h_nacelleref05_moved rfl rfl ?_
  unfold mvR
  cases q : decide (a > p) with
  | true =>
    conv => whnf
    split
    rotate_left
    · rename_i h
      exact Bool.noConfusion ((q).symm.trans h)
    rename_i hN
    clear hN
    conv => whnf
    exact ⟨rfl, rfl⟩
  | false =>
    conv => whnf
    split
    · rename_i h
      exact Bool.noConfusion ((q).symm.trans h)
    rename_i hN
    clear hN
    conv => whnf
    exact ⟨rfl, rfl⟩

theorem mvR_eq {m : Mc} (hm : m.ok) {p a : Int} (ha : 0 ≤ a ∧ a ≤ m.fea) (h : 0 ≤ p ∧ p ≤ m.fea) : mvR m p a = mvW m a p := by
  rw [(mvW_rng hm ha h).1]
  have hr := hm.rate
  have hf := hm.fea
  have e1 : w64 (p + m.rate) = p + m.rate := by rw [w64, wrap_in] <;> omega
  have e2 : w64 (p - m.rate) = p - m.rate := by rw [w64, wrap_in] <;> omega
  unfold mvR
  rw [e1, e2]
  unfold minW maxW
  by_cases q : a > p
  · rw [decide_eq_true q, cond_true]; split <;> omega
  · rw [decide_eq_false q, cond_false]; split <;> omega

def Sta.pitR (s : Sta) (m : Mc) (a stuck : Int) (i : Nat) : Int := bif (i : Int) != stuck then mvR m ([s.p0, s.p1, s.p2].getD i 0) a else [s.p0, s.p1, s.p2].getD i 0
def Sta.drvR (s : Sta) (m : Mc) (wind a t stuck : Int) : Nat → Int
  | 0 => w64 (wind - t)
  | k + 1 => w64 (s.drvR m wind a t stuck k - s.pitR m a stuck k)
/-- The state behind the blades have moved, the torque was set, and a step of time, as the reference has it. -/
def Sta.stepR (s : Sta) (m : Mc) (wind a t stuck : Int) : Sta :=
  ⟨s.mode, maxW 0 (w64 (s.speed + s.drvR m wind a t stuck 3)), s.pitR m a stuck 0, s.pitR m a stuck 1, s.pitR m a stuck 2, t, bif stuck != -1 then stuck else s.stuck⟩
def Sta.cellR (s : Sta) (m : Mc) (a t stuck : Int) : Nat → List IV
  | 0 => [.str s.mode, .int .i64 s.speed, .int .i64 s.p0, .int .i64 s.p1, .int .i64 s.p2, .int .i64 t, .int .i64 s.stuck]
  | 1 => [.str s.mode, .int .i64 s.speed, .int .i64 (s.pitR m a stuck 0), .int .i64 s.p1, .int .i64 s.p2, .int .i64 t, .int .i64 s.stuck]
  | 2 => [.str s.mode, .int .i64 s.speed, .int .i64 (s.pitR m a stuck 0), .int .i64 (s.pitR m a stuck 1), .int .i64 s.p2, .int .i64 t, .int .i64 s.stuck]
  | _ => [.str s.mode, .int .i64 s.speed, .int .i64 (s.pitR m a stuck 0), .int .i64 (s.pitR m a stuck 1), .int .i64 (s.pitR m a stuck 2), .int .i64 t, .int .i64 s.stuck]


set_option maxHeartbeats 16000000 in
theorem c_rstepped (up : List Ces) (m : Mc) (s : Sta) (wind a t stuck : Int) : Cs gl n_nacelleref05_stepped up [m.iv, s.iv, .int .i64 wind, .int .i64 a, .int .i64 t, .int .i64 stuck] (s.stepR m wind a t stuck).iv up := by
  refine mk h_nacelleref05_stepped rfl rfl ?_
  conv => whnf
  refine .mk (α := {k : Nat // k ≤ 3}) (fun k => ⟨[(15, .int .i64 k.1), (14, .int .i64 (s.drvR m wind a t stuck k.1)), (13, .ptr 0 13 0), (12, .ptr 0 12 0), (7, .ptr 0 7 0), (6, .ptr 0 6 0), (5, .int .i64 stuck), (3, .int .i64 a)],
    [(13, s.cellR m a t stuck k.1), (12, [.str ByteArray.empty, .int .i64 0, .int .i64 0, .int .i64 0, .int .i64 0, .int .i64 0, .int .i64 0]), (7, s.cs), (6, m.cs)], up⟩) (fun k => 3 - k.1) ⟨0, Nat.zero_le _⟩ ⟨?_, ?_, rfl, rfl⟩ ?_
  · exact ⟨leV_refl _, leV_refl _, leV_refl _, leV_refl _, leV_refl _, leV_refl _, leV_refl _, leV_refl _, trivial⟩
  · exact ⟨leL_refl _, leL_refl _, leL_refl _, leL_refl _, trivial⟩
  rintro ⟨k, hk⟩
  obtain rfl | rfl | rfl | rfl : k = 0 ∨ k = 1 ∨ k = 2 ∨ k = 3 := by omega
  · cases q : ((0 : Int) != stuck) with
    | true =>
      have e : mvR m s.p0 a = s.pitR m a stuck 0 := by unfold Sta.pitR; rw [show (((0 : Nat) : Int) != stuck) = true from q]; rfl
      have hm := fun up => c_rmoved (gl := gl) up m s.p0 a
      rw [e] at hm
      conv => whnf
      split
      rotate_left
      · rename_i h
        exact Bool.noConfusion ((q).symm.trans h)
      rename_i hN
      clear hN
      conv => whnf
      repeat first
        | (refine DRAW.seek ?_; repeat (first | refine TRYD.take ?_ | refine TRYD.next ?_); conv => whnf)
        | (refine HOLD.mk (by first | exact trivial | exact ⟨⟨rfl, rfl⟩, trivial⟩ | exact ⟨⟨rfl, rfl⟩, ⟨rfl, rfl⟩, trivial⟩) ?_; (conv => whnf))
        | (refine CALL0.by (hm ..) rfl ?_; conv => whnf)
        | (refine CALLQ.mk _ _ _ (leL_refl _) (hm ..) rfl ?_; conv => whnf)
      refine ⟨⟨1, by omega⟩, ⟨⟨leV_refl _, leV_int rfl, leV_refl _, leV_refl _, leV_refl _, leV_refl _, leV_refl _, leV_refl _, trivial⟩, ⟨?_, leL_refl _, leL_refl _, leL_refl _, trivial⟩, rfl, rfl⟩, by simp⟩
      exact ⟨leV_refl _, leV_refl _, leV_refl _, leV_refl _, leV_refl _, leV_refl _, leV_refl _, trivial⟩
    | false =>
      have e : s.p0 = s.pitR m a stuck 0 := by unfold Sta.pitR; rw [show (((0 : Nat) : Int) != stuck) = false from q]; rfl
      conv => whnf
      split
      · rename_i h
        exact Bool.noConfusion ((q).symm.trans h)
      rename_i hN
      clear hN
      conv => whnf
      refine ⟨⟨1, by omega⟩, ⟨⟨leV_refl _, leV_int ?_, leV_refl _, leV_refl _, leV_refl _, leV_refl _, leV_refl _, leV_refl _, trivial⟩, ⟨?_, leL_refl _, leL_refl _, leL_refl _, trivial⟩, rfl, rfl⟩, by simp⟩
      · show w64 (s.drvR m wind a t stuck 0 - s.p0) = w64 (s.drvR m wind a t stuck 0 - s.pitR m a stuck 0)
        rw [← e]
      · exact ⟨leV_refl _, leV_refl _, leV_int e, leV_refl _, leV_refl _, leV_refl _, leV_refl _, trivial⟩
  · cases q : ((1 : Int) != stuck) with
    | true =>
      have e : mvR m s.p1 a = s.pitR m a stuck 1 := by unfold Sta.pitR; rw [show (((1 : Nat) : Int) != stuck) = true from q]; rfl
      have hm := fun up => c_rmoved (gl := gl) up m s.p1 a
      rw [e] at hm
      conv => whnf
      split
      rotate_left
      · rename_i h
        exact Bool.noConfusion ((q).symm.trans h)
      rename_i hN
      clear hN
      conv => whnf
      repeat first
        | (refine DRAW.seek ?_; repeat (first | refine TRYD.take ?_ | refine TRYD.next ?_); conv => whnf)
        | (refine HOLD.mk (by first | exact trivial | exact ⟨⟨rfl, rfl⟩, trivial⟩ | exact ⟨⟨rfl, rfl⟩, ⟨rfl, rfl⟩, trivial⟩) ?_; (conv => whnf))
        | (refine CALL0.by (hm ..) rfl ?_; conv => whnf)
        | (refine CALLQ.mk _ _ _ (leL_refl _) (hm ..) rfl ?_; conv => whnf)
      refine ⟨⟨2, by omega⟩, ⟨⟨leV_refl _, leV_int rfl, leV_refl _, leV_refl _, leV_refl _, leV_refl _, leV_refl _, leV_refl _, trivial⟩, ⟨?_, leL_refl _, leL_refl _, leL_refl _, trivial⟩, rfl, rfl⟩, by simp⟩
      exact ⟨leV_refl _, leV_refl _, leV_refl _, leV_refl _, leV_refl _, leV_refl _, leV_refl _, trivial⟩
    | false =>
      have e : s.p1 = s.pitR m a stuck 1 := by unfold Sta.pitR; rw [show (((1 : Nat) : Int) != stuck) = false from q]; rfl
      conv => whnf
      split
      · rename_i h
        exact Bool.noConfusion ((q).symm.trans h)
      rename_i hN
      clear hN
      conv => whnf
      refine ⟨⟨2, by omega⟩, ⟨⟨leV_refl _, leV_int ?_, leV_refl _, leV_refl _, leV_refl _, leV_refl _, leV_refl _, leV_refl _, trivial⟩, ⟨?_, leL_refl _, leL_refl _, leL_refl _, trivial⟩, rfl, rfl⟩, by simp⟩
      · show w64 (s.drvR m wind a t stuck 1 - s.p1) = w64 (s.drvR m wind a t stuck 1 - s.pitR m a stuck 1)
        rw [← e]
      · exact ⟨leV_refl _, leV_refl _, leV_refl _, leV_int e, leV_refl _, leV_refl _, leV_refl _, trivial⟩
  · cases q : ((2 : Int) != stuck) with
    | true =>
      have e : mvR m s.p2 a = s.pitR m a stuck 2 := by unfold Sta.pitR; rw [show (((2 : Nat) : Int) != stuck) = true from q]; rfl
      have hm := fun up => c_rmoved (gl := gl) up m s.p2 a
      rw [e] at hm
      conv => whnf
      split
      rotate_left
      · rename_i h
        exact Bool.noConfusion ((q).symm.trans h)
      rename_i hN
      clear hN
      conv => whnf
      repeat first
        | (refine DRAW.seek ?_; repeat (first | refine TRYD.take ?_ | refine TRYD.next ?_); conv => whnf)
        | (refine HOLD.mk (by first | exact trivial | exact ⟨⟨rfl, rfl⟩, trivial⟩ | exact ⟨⟨rfl, rfl⟩, ⟨rfl, rfl⟩, trivial⟩) ?_; (conv => whnf))
        | (refine CALL0.by (hm ..) rfl ?_; conv => whnf)
        | (refine CALLQ.mk _ _ _ (leL_refl _) (hm ..) rfl ?_; conv => whnf)
      refine ⟨⟨3, by omega⟩, ⟨⟨leV_refl _, leV_int rfl, leV_refl _, leV_refl _, leV_refl _, leV_refl _, leV_refl _, leV_refl _, trivial⟩, ⟨?_, leL_refl _, leL_refl _, leL_refl _, trivial⟩, rfl, rfl⟩, by simp⟩
      exact ⟨leV_refl _, leV_refl _, leV_refl _, leV_refl _, leV_refl _, leV_refl _, leV_refl _, trivial⟩
    | false =>
      have e : s.p2 = s.pitR m a stuck 2 := by unfold Sta.pitR; rw [show (((2 : Nat) : Int) != stuck) = false from q]; rfl
      conv => whnf
      split
      · rename_i h
        exact Bool.noConfusion ((q).symm.trans h)
      rename_i hN
      clear hN
      conv => whnf
      refine ⟨⟨3, by omega⟩, ⟨⟨leV_refl _, leV_int ?_, leV_refl _, leV_refl _, leV_refl _, leV_refl _, leV_refl _, leV_refl _, trivial⟩, ⟨?_, leL_refl _, leL_refl _, leL_refl _, trivial⟩, rfl, rfl⟩, by simp⟩
      · show w64 (s.drvR m wind a t stuck 2 - s.p2) = w64 (s.drvR m wind a t stuck 2 - s.pitR m a stuck 2)
        rw [← e]
      · exact ⟨leV_refl _, leV_refl _, leV_refl _, leV_refl _, leV_int e, leV_refl _, leV_refl _, trivial⟩
  · unfold Sta.stepR
    cases q : (stuck != -1) with
    | true =>
      conv => whnf
      split
      rotate_left
      · rename_i h
        exact Bool.noConfusion ((q).symm.trans h)
      rename_i hN
      clear hN
      conv => whnf
      exact ⟨rfl, rfl⟩
    | false =>
      conv => whnf
      split
      · rename_i h
        exact Bool.noConfusion ((q).symm.trans h)
      rename_i hN
      clear hN
      conv => whnf
      exact ⟨rfl, rfl⟩

/-- In range the reference's step is the program's. -/
theorem stepR_eq {m : Mc} (hm : m.ok) {s : Sta} (hs : s.rng m) {wind a t stuck : Int} (hw : 0 ≤ wind ∧ wind ≤ 100) (ha : 0 ≤ a ∧ a ≤ m.fea) (ht : 0 ≤ t ∧ t ≤ 100) : s.stepR m wind a t stuck = Sta.laterW { s.movedW m a stuck with tor := t } wind := by
  have hf := hm.fea
  have hp : ∀ (i : Nat) (p : Int), [s.p0, s.p1, s.p2].getD i 0 = p → (0 ≤ p ∧ p ≤ m.fea) → s.pitR m a stuck i = (bif (i : Int) != stuck then mvW m a p else p) ∧ 0 ≤ s.pitR m a stuck i ∧ s.pitR m a stuck i ≤ m.fea := fun i p e h => by
    unfold Sta.pitR
    rw [e, mvR_eq hm ha h]
    have := (mvW_rng hm ha h).2
    cases ((i : Int) != stuck)
    · exact ⟨rfl, h⟩
    · exact ⟨rfl, this⟩
  obtain ⟨g1, g2, g3, g4⟩ := hs
  obtain ⟨e0, b0⟩ := hp 0 s.p0 rfl g2
  obtain ⟨e1, b1⟩ := hp 1 s.p1 rfl g3
  obtain ⟨e2, b2⟩ := hp 2 s.p2 rfl g4
  unfold Sta.stepR Sta.laterW Sta.movedW
  rw [← show s.pitR m a stuck 0 = (bif (0 : Int) != stuck then mvW m a s.p0 else s.p0) from e0, ← show s.pitR m a stuck 1 = (bif (1 : Int) != stuck then mvW m a s.p1 else s.p1) from e1, ← show s.pitR m a stuck 2 = (bif (2 : Int) != stuck then mvW m a s.p2 else s.p2) from e2]
  have w : ∀ x : Int, -10000000 ≤ x → x ≤ 10000000 → w64 x = x := fun x h1 h2 => by rw [w64, wrap_in] <;> omega
  have d : s.drvR m wind a t stuck 3 = wind - t - s.pitR m a stuck 0 - s.pitR m a stuck 1 - s.pitR m a stuck 2 := by
    show w64 (w64 (w64 (w64 (wind - t) - s.pitR m a stuck 0) - s.pitR m a stuck 1) - s.pitR m a stuck 2) = _
    rw [w (wind - t) (by omega) (by omega), w (wind - t - s.pitR m a stuck 0) (by omega) (by omega), w (wind - t - s.pitR m a stuck 0 - s.pitR m a stuck 1) (by omega) (by omega), w (wind - t - s.pitR m a stuck 0 - s.pitR m a stuck 1 - s.pitR m a stuck 2) (by omega) (by omega)]
  rw [d]
  generalize s.pitR m a stuck 0 = x0 at *
  generalize s.pitR m a stuck 1 = x1 at *
  generalize s.pitR m a stuck 2 = x2 at *
  simp only
  congr 1
  rw [w (wind - t) (by omega) (by omega), w (s.speed + (wind - t)) (by omega) (by omega), w (s.speed + (wind - t) - x0) (by omega) (by omega), w (s.speed + (wind - t) - x0 - x1) (by omega) (by omega), w (s.speed + (wind - t) - x0 - x1 - x2) (by omega) (by omega), w (s.speed + (wind - t - x0 - x1 - x2)) (by omega) (by omega)]
  congr 1
  omega

theorem rng_mode {s : Sta} {m : Mc} (h : s.rng m) (k : ByteArray) : Sta.rng { s with mode := k } m := ⟨h.speed, h.p0, h.p1, h.p2⟩

theorem rbraked_eq {m : Mc} (hm : m.ok) {s : Sta} (hs : s.rng m) {wind stuck : Int} (hw : 0 ≤ wind ∧ wind ≤ 100) : Sta.stepR { s with mode := sStop } m wind m.fea 0 stuck = s.brakedW m wind stuck := by
  have hf := hm.fea
  rw [stepR_eq hm (rng_mode hs sStop) hw ⟨by omega, Int.le_refl _⟩ (by omega)]
  rfl

theorem c_rBraked (up : List Ces) (m : Mc) (s : Sta) (wind stuck : Int) (hm : m.ok) (hs : s.rng m) (hw : 0 ≤ wind ∧ wind ≤ 100) : Cs gl n_nacelleref05_Braked up [m.iv, s.iv, .int .i64 wind, .int .i64 stuck] (s.brakedW m wind stuck).iv up := by
  refine mk h_nacelleref05_Braked rfl rfl ?_
  have h := fun up => c_rstepped (gl := gl) up m { s with mode := sStop } wind m.fea 0 stuck
  rw [rbraked_eq hm hs hw] at h
  conv => whnf
  repeat first
    | (refine DRAW.seek ?_; repeat (first | refine TRYD.take ?_ | refine TRYD.next ?_); conv => whnf)
    | (refine HOLD.mk (by first | exact trivial | exact ⟨⟨rfl, rfl⟩, trivial⟩ | exact ⟨⟨rfl, rfl⟩, ⟨rfl, rfl⟩, trivial⟩) ?_; (conv => whnf))
    | (refine CALL0.by (h ..) rfl ?_; conv => whnf)
    | (refine CALLQ.mk _ _ _ (leL_refl _) (h ..) rfl ?_; conv => whnf)
  exact ⟨rfl, rfl⟩

set_option maxHeartbeats 8000000 in
theorem c_rRests (up : List Ces) (m : Mc) (s : Sta) (stuck : Int) : Cs gl n_nacelleref05_Rests up [m.iv, s.iv, .int .i64 stuck] (.bool (s.restB m stuck)) up := by
  refine mk h_nacelleref05_Rests rfl rfl ?_
  conv => whnf
  refine .mk (α := {k : Nat // k ≤ 3 ∧ ∀ i : Nat, i < k → (i : Int) = stuck ∨ [s.p0, s.p1, s.p2].getD i 0 = m.fea}) (fun k => ⟨[(7, .int .i64 k.1), (4, .ptr 0 4 0), (3, .ptr 0 3 0), (2, .int .i64 stuck)], [(4, s.cs), (3, m.cs)], up⟩) (fun k => 3 - k.1) ⟨0, Nat.zero_le _, fun i hi => by omega⟩ ⟨?_, ?_, rfl, rfl⟩ ?_
  · exact ⟨leV_refl _, leV_refl _, leV_refl _, leV_refl _, trivial⟩
  · exact ⟨leL_refl _, leL_refl _, trivial⟩
  rintro ⟨k, hk, hb⟩
  have next : ∀ k : Nat, (∀ i : Nat, i < k → (i : Int) = stuck ∨ [s.p0, s.p1, s.p2].getD i 0 = m.fea) → ((k : Int) = stuck ∨ [s.p0, s.p1, s.p2].getD k 0 = m.fea) → ∀ i : Nat, i < k + 1 → (i : Int) = stuck ∨ [s.p0, s.p1, s.p2].getD i 0 = m.fea := fun k hb h i hi => by
    by_cases e : i = k
    · subst e; exact h
    · exact hb i (by omega)
  have no : ∀ i : Nat, i < 3 → (i : Int) ≠ stuck → [s.p0, s.p1, s.p2].getD i 0 ≠ m.fea → s.restB m stuck = false := fun i hi h1 h2 => by
    cases hr : s.restB m stuck with
    | false => rfl
    | true =>
      obtain ⟨_, r0, r1, r2⟩ := (restB_iff ..).1 hr
      obtain rfl | rfl | rfl : i = 0 ∨ i = 1 ∨ i = 2 := by omega
      · exact (r0.elim (fun e => h1 e.symm) h2).elim
      · exact (r1.elim (fun e => h1 e.symm) h2).elim
      · exact (r2.elim (fun e => h1 e.symm) h2).elim
  obtain rfl | rfl | rfl | rfl : k = 0 ∨ k = 1 ∨ k = 2 ∨ k = 3 := by omega
  · cases q : ((0 : Int) != stuck) with
    | false =>
      have e : (0 : Int) = stuck := by simpa using q
      conv => whnf
      refine DRAW.seek ?_
      repeat (first | refine TRYD.take ?_ | refine TRYD.next ?_)
      conv => whnf
      split
      · rename_i h
        exact Bool.noConfusion ((q).symm.trans h)
      rename_i hN
      clear hN
      conv => whnf
      exact ⟨⟨1, by omega, next 0 hb (.inl e)⟩, ⟨⟨leV_refl _, leV_refl _, leV_refl _, leV_refl _, trivial⟩, ⟨leL_refl _, leL_refl _, trivial⟩, rfl, rfl⟩, by simp⟩
    | true =>
      have e : (0 : Int) ≠ stuck := by simpa using q
      cases q2 : (s.p0 != m.fea) with
      | false =>
        have e2 : s.p0 = m.fea := by simpa using q2
        conv => whnf
        refine DRAW.seek ?_
        repeat (first | refine TRYD.take ?_ | refine TRYD.next ?_)
        conv => whnf
        split
        rotate_left
        · rename_i h
          exact Bool.noConfusion ((q).symm.trans h)
        rename_i hN
        clear hN
        conv => whnf
        split
        · rename_i h
          exact Bool.noConfusion ((q2).symm.trans h)
        rename_i hN
        clear hN
        conv => whnf
        exact ⟨⟨1, by omega, next 0 hb (.inr e2)⟩, ⟨⟨leV_refl _, leV_refl _, leV_refl _, leV_refl _, trivial⟩, ⟨leL_refl _, leL_refl _, trivial⟩, rfl, rfl⟩, by simp⟩
      | true =>
        rw [no 0 (by decide) e (by simpa using q2)]
        conv => whnf
        refine DRAW.seek ?_
        repeat (first | refine TRYD.take ?_ | refine TRYD.next ?_)
        conv => whnf
        split
        rotate_left
        · rename_i h
          exact Bool.noConfusion ((q).symm.trans h)
        rename_i hN
        clear hN
        conv => whnf
        split
        rotate_left
        · rename_i h
          exact Bool.noConfusion ((q2).symm.trans h)
        rename_i hN
        clear hN
        conv => whnf
        exact ⟨rfl, rfl⟩
  · cases q : ((1 : Int) != stuck) with
    | false =>
      have e : (1 : Int) = stuck := by simpa using q
      conv => whnf
      refine DRAW.seek ?_
      repeat (first | refine TRYD.take ?_ | refine TRYD.next ?_)
      conv => whnf
      split
      · rename_i h
        exact Bool.noConfusion ((q).symm.trans h)
      rename_i hN
      clear hN
      conv => whnf
      exact ⟨⟨2, by omega, next 1 hb (.inl e)⟩, ⟨⟨leV_refl _, leV_refl _, leV_refl _, leV_refl _, trivial⟩, ⟨leL_refl _, leL_refl _, trivial⟩, rfl, rfl⟩, by simp⟩
    | true =>
      have e : (1 : Int) ≠ stuck := by simpa using q
      cases q2 : (s.p1 != m.fea) with
      | false =>
        have e2 : s.p1 = m.fea := by simpa using q2
        conv => whnf
        refine DRAW.seek ?_
        repeat (first | refine TRYD.take ?_ | refine TRYD.next ?_)
        conv => whnf
        split
        rotate_left
        · rename_i h
          exact Bool.noConfusion ((q).symm.trans h)
        rename_i hN
        clear hN
        conv => whnf
        split
        · rename_i h
          exact Bool.noConfusion ((q2).symm.trans h)
        rename_i hN
        clear hN
        conv => whnf
        exact ⟨⟨2, by omega, next 1 hb (.inr e2)⟩, ⟨⟨leV_refl _, leV_refl _, leV_refl _, leV_refl _, trivial⟩, ⟨leL_refl _, leL_refl _, trivial⟩, rfl, rfl⟩, by simp⟩
      | true =>
        rw [no 1 (by decide) e (by simpa using q2)]
        conv => whnf
        refine DRAW.seek ?_
        repeat (first | refine TRYD.take ?_ | refine TRYD.next ?_)
        conv => whnf
        split
        rotate_left
        · rename_i h
          exact Bool.noConfusion ((q).symm.trans h)
        rename_i hN
        clear hN
        conv => whnf
        split
        rotate_left
        · rename_i h
          exact Bool.noConfusion ((q2).symm.trans h)
        rename_i hN
        clear hN
        conv => whnf
        exact ⟨rfl, rfl⟩
  · cases q : ((2 : Int) != stuck) with
    | false =>
      have e : (2 : Int) = stuck := by simpa using q
      conv => whnf
      refine DRAW.seek ?_
      repeat (first | refine TRYD.take ?_ | refine TRYD.next ?_)
      conv => whnf
      split
      · rename_i h
        exact Bool.noConfusion ((q).symm.trans h)
      rename_i hN
      clear hN
      conv => whnf
      exact ⟨⟨3, by omega, next 2 hb (.inl e)⟩, ⟨⟨leV_refl _, leV_refl _, leV_refl _, leV_refl _, trivial⟩, ⟨leL_refl _, leL_refl _, trivial⟩, rfl, rfl⟩, by simp⟩
    | true =>
      have e : (2 : Int) ≠ stuck := by simpa using q
      cases q2 : (s.p2 != m.fea) with
      | false =>
        have e2 : s.p2 = m.fea := by simpa using q2
        conv => whnf
        refine DRAW.seek ?_
        repeat (first | refine TRYD.take ?_ | refine TRYD.next ?_)
        conv => whnf
        split
        rotate_left
        · rename_i h
          exact Bool.noConfusion ((q).symm.trans h)
        rename_i hN
        clear hN
        conv => whnf
        split
        · rename_i h
          exact Bool.noConfusion ((q2).symm.trans h)
        rename_i hN
        clear hN
        conv => whnf
        exact ⟨⟨3, by omega, next 2 hb (.inr e2)⟩, ⟨⟨leV_refl _, leV_refl _, leV_refl _, leV_refl _, trivial⟩, ⟨leL_refl _, leL_refl _, trivial⟩, rfl, rfl⟩, by simp⟩
      | true =>
        rw [no 2 (by decide) e (by simpa using q2)]
        conv => whnf
        refine DRAW.seek ?_
        repeat (first | refine TRYD.take ?_ | refine TRYD.next ?_)
        conv => whnf
        split
        rotate_left
        · rename_i h
          exact Bool.noConfusion ((q).symm.trans h)
        rename_i hN
        clear hN
        conv => whnf
        split
        rotate_left
        · rename_i h
          exact Bool.noConfusion ((q2).symm.trans h)
        rename_i hN
        clear hN
        conv => whnf
        exact ⟨rfl, rfl⟩
  · have e : s.restB m stuck = (s.speed == 0) := by
      rw [Bool.eq_iff_iff, restB_iff, beq_iff_eq]
      have h0 := hb 0 (by decide)
      have h1 := hb 1 (by decide)
      have h2 := hb 2 (by decide)
      constructor
      · exact fun h => h.1
      · exact fun h => ⟨h, h0.imp_left Eq.symm, h1.imp_left Eq.symm, h2.imp_left Eq.symm⟩
    rw [e]
    conv => whnf
    exact ⟨rfl, rfl⟩
end Go.Proofs.YtkdlegfakefjgaaGreatDoor.Ix

/-
  Cr4: contracts of the reference's functions for stops, the second part: Stop, Peak, Safe, CheckStop; lists of states told otherwise.
-/
namespace Go.Proofs.YtkdlegfakefjgaaGreatDoor.Ix
open Go.Proofs
set_option maxRecDepth 100000
set_option linter.unusedVariables false
set_option linter.unusedSimpArgs false
variable {gl : Nat → IV}

theorem stopS_rest (s : Sta) (m : Mc) (stuck : Int) (k : Nat) : (s.stopS m stuck k).restB m stuck = (s.stepW m stuck k).restB m stuck := by
  cases k <;> rfl

theorem stopS_speed (s : Sta) (m : Mc) (stuck : Int) (k : Nat) : (s.stopS m stuck k).speed = (s.stepW m stuck k).speed := by
  cases k <;> rfl

theorem stopS_rng {m : Mc} (hm : m.ok) {s : Sta} {stuck : Int} (h1 : -1 ≤ stuck) (h2 : stuck ≤ 2) (hs : s.rng m) (hmu : s.mu m stuck ≤ 20100) (k : Nat) : (s.stopS m stuck k).rng m := by
  cases k with
  | zero => exact ⟨hs.speed, hs.p0, hs.p1, hs.p2⟩
  | succ k => exact (stepW_bnd hm h1 h2 hs hmu (k + 1)).1

theorem stopS_next {m : Mc} (hm : m.ok) {s : Sta} {stuck : Int} (hs : s.rng m) (k : Nat) : (s.stopS m stuck k).brakedW m m.wind stuck = s.stopS m stuck (k + 1) := by
  have hw := hm.wind
  cases k with
  | succ k => rfl
  | zero =>
    have hh : (s.here stuck).rng m := ⟨hs.speed, hs.p0, hs.p1, hs.p2⟩
    show (s.here stuck).brakedW m m.wind stuck = s.brakedW m m.wind stuck
    rw [braked_eq hm hs m.wind stuck (by omega), braked_eq hm hh m.wind stuck (by omega)]
    unfold Sta.here
    simp only
    congr 1
    by_cases h : stuck = -1
    · simp [h]
    · simp [h]

def tgS : Nat → Nat
  | 0 => 15
  | _ + 1 => 30



set_option maxHeartbeats 8000000 in
theorem c_rStop (up : List Ces) (m : Mc) (s : Sta) (stuck : Int) (hm : m.ok) (hs : s.rng m) (h1 : -1 ≤ stuck) (h2 : stuck ≤ 2) (hmu : s.mu m stuck ≤ 20100) (n : Nat) (hn : s.takes m stuck n) (hn2 : n ≤ 1000000) :
    Cs gl n_nacelleref05_Stop up [m.iv, s.iv, .int .i64 stuck] (.lst (some (tgS n)) 7 (1 + n) fun i => (s.stopS m stuck i).cs) up := by
  have hw := hm.wind
  have hrest : ∀ up k, Cs gl n_nacelleref05_Rests up [m.iv, (s.stopS m stuck k).iv, .int .i64 stuck] (.bool ((s.stepW m stuck k).restB m stuck)) up := fun up k => by
    have h := c_rRests (gl := gl) up m (s.stopS m stuck k) stuck
    rw [stopS_rest] at h
    exact h
  have hbr : ∀ up k, Cs gl n_nacelleref05_Braked up [m.iv, (s.stopS m stuck k).iv, .int .i64 m.wind, .int .i64 stuck] (s.stopS m stuck (k + 1)).iv up := fun up k => by
    have h := c_rBraked (gl := gl) up m (s.stopS m stuck k) m.wind stuck hm (stopS_rng hm h1 h2 hs hmu k) (by omega)
    rw [stopS_next hm hs] at h
    exact h
  refine mk h_nacelleref05_Stop rfl rfl ?_
  cases qs : (stuck != -1) with
  | true =>
    have e0 : (s.stopS m stuck 0).cs = [.str sStop, .int .i64 s.speed, .int .i64 s.p0, .int .i64 s.p1, .int .i64 s.p2, .int .i64 0, .int .i64 stuck] := by
      show (s.here stuck).cs = _
      unfold Sta.here Sta.cs
      rw [qs]; rfl
    conv => whnf
    split
    rotate_left
    · rename_i h
      exact Bool.noConfusion ((qs).symm.trans h)
    rename_i hN
    clear hN
    conv => whnf
    refine .mk (α := {i : Nat // i ≤ n}) (fun i => ⟨[(7, .lst (some (tgS i.1)) 7 (1 + i.1) fun i => (s.stopS m stuck i).cs), (4, .ptr 0 4 0), (3, .ptr 0 3 0), (2, .int .i64 stuck)], [(4, (s.stopS m stuck i.1).cs), (3, m.cs)], up⟩) (fun i => n - i.1) ⟨0, Nat.zero_le _⟩ ⟨?_, ?_, rfl, rfl⟩ ?_
    · refine ⟨⟨.inr rfl, rfl, rfl, fun j hj => ?_⟩, leV_refl _, leV_refl _, leV_refl _, trivial⟩
      obtain rfl : j = 0 := by omega
      exact e0.symm
    · exact ⟨by rw [e0]; exact leL_refl _, leL_refl _, trivial⟩
    rintro ⟨i, hi⟩
    by_cases hlt : i < n
    · have q := hn.1 i hlt
      have hr := fun up => hrest up i
      rw [q] at hr
      have hb := fun up => hbr up i
      cases i with
      | zero =>
        conv => whnf
        repeat first
          | (refine DRAW.seek ?_; repeat (first | refine TRYD.take ?_ | refine TRYD.next ?_); conv => whnf)
          | (refine HOLD.mk (by first | exact trivial | exact ⟨⟨rfl, rfl⟩, trivial⟩ | exact ⟨⟨rfl, rfl⟩, ⟨rfl, rfl⟩, trivial⟩) ?_; (conv => whnf))
          | (refine CALL0.by (hr ..) rfl ?_; conv => whnf)
          | (refine CALLQ.mk _ _ _ (leL_refl _) (hr ..) rfl ?_; conv => whnf)
          | (refine CALL0.by (hb ..) rfl ?_; conv => whnf)
          | (refine CALLQ.mk _ _ _ (leL_refl _) (hb ..) rfl ?_; conv => whnf)
        refine ⟨⟨1, hlt⟩, ⟨⟨⟨.inr rfl, rfl, rfl, fun j hj => ?_⟩, leV_refl _, leV_refl _, leV_refl _, trivial⟩, ⟨leL_refl _, leL_refl _, trivial⟩, rfl, rfl⟩, (by show n - 1 < n - 0; omega)⟩
        obtain rfl | rfl : j = 0 ∨ j = 1 := by have : j < 1 + 1 := hj; omega
        · rfl
        · rfl
      | succ i =>
        conv => whnf
        repeat first
          | (refine DRAW.seek ?_; repeat (first | refine TRYD.take ?_ | refine TRYD.next ?_); conv => whnf)
          | (refine HOLD.mk (by first | exact trivial | exact ⟨⟨rfl, rfl⟩, trivial⟩ | exact ⟨⟨rfl, rfl⟩, ⟨rfl, rfl⟩, trivial⟩) ?_; (conv => whnf))
          | (refine CALL0.by (hr ..) rfl ?_; conv => whnf)
          | (refine CALLQ.mk _ _ _ (leL_refl _) (hr ..) rfl ?_; conv => whnf)
          | (refine CALL0.by (hb ..) rfl ?_; conv => whnf)
          | (refine CALLQ.mk _ _ _ (leL_refl _) (hb ..) rfl ?_; conv => whnf)
        split
        rotate_left
        · rename_i h
          have h' : decide (1 + (i + 1) + 1 ≤ 1073741824) = false := h
          simp at h' <;> omega
        conv => whnf
        refine ⟨⟨i + 2, hlt⟩, ⟨⟨⟨.inr rfl, rfl, rfl, fun j hj => ?_⟩, leV_refl _, leV_refl _, leV_refl _, trivial⟩, ⟨leL_refl _, leL_refl _, trivial⟩, rfl, rfl⟩, (by show n - (i + 2) < n - (i + 1); omega)⟩
        show (if j < 1 + (i + 1) then (s.stopS m stuck j).cs else litF 7 (s.stopS m stuck (i + 2)).cs (j - (1 + (i + 1)))) = (s.stopS m stuck j).cs
        split
        · rfl
        · have : j = i + 2 := by have : j < 1 + (i + 2) := hj; omega
          subst this
          rw [show i + 2 - (1 + (i + 1)) = 0 by omega]
          rfl
    · have : i = n := by omega
      subst this
      have hr := fun up => hrest up i
      rw [hn.2] at hr
      cases i with
      | zero =>
        conv => whnf
        repeat first
          | (refine DRAW.seek ?_; repeat (first | refine TRYD.take ?_ | refine TRYD.next ?_); conv => whnf)
          | (refine HOLD.mk (by first | exact trivial | exact ⟨⟨rfl, rfl⟩, trivial⟩ | exact ⟨⟨rfl, rfl⟩, ⟨rfl, rfl⟩, trivial⟩) ?_; (conv => whnf))
          | (refine CALL0.by (hr ..) rfl ?_; conv => whnf)
          | (refine CALLQ.mk _ _ _ (leL_refl _) (hr ..) rfl ?_; conv => whnf)
        exact ⟨rfl, rfl⟩
      | succ i =>
        conv => whnf
        repeat first
          | (refine DRAW.seek ?_; repeat (first | refine TRYD.take ?_ | refine TRYD.next ?_); conv => whnf)
          | (refine HOLD.mk (by first | exact trivial | exact ⟨⟨rfl, rfl⟩, trivial⟩ | exact ⟨⟨rfl, rfl⟩, ⟨rfl, rfl⟩, trivial⟩) ?_; (conv => whnf))
          | (refine CALL0.by (hr ..) rfl ?_; conv => whnf)
          | (refine CALLQ.mk _ _ _ (leL_refl _) (hr ..) rfl ?_; conv => whnf)
        exact ⟨rfl, rfl⟩
  | false =>
    have e0 : (s.stopS m stuck 0).cs = [.str sStop, .int .i64 s.speed, .int .i64 s.p0, .int .i64 s.p1, .int .i64 s.p2, .int .i64 0, .int .i64 s.stuck] := by
      show (s.here stuck).cs = _
      unfold Sta.here Sta.cs
      rw [qs]; rfl
    conv => whnf
    split
    · rename_i h
      exact Bool.noConfusion ((qs).symm.trans h)
    rename_i hN
    clear hN
    conv => whnf
    refine .mk (α := {i : Nat // i ≤ n}) (fun i => ⟨[(7, .lst (some (tgS i.1)) 7 (1 + i.1) fun i => (s.stopS m stuck i).cs), (4, .ptr 0 4 0), (3, .ptr 0 3 0), (2, .int .i64 stuck)], [(4, (s.stopS m stuck i.1).cs), (3, m.cs)], up⟩) (fun i => n - i.1) ⟨0, Nat.zero_le _⟩ ⟨?_, ?_, rfl, rfl⟩ ?_
    · refine ⟨⟨.inr rfl, rfl, rfl, fun j hj => ?_⟩, leV_refl _, leV_refl _, leV_refl _, trivial⟩
      obtain rfl : j = 0 := by omega
      exact e0.symm
    · exact ⟨by rw [e0]; exact leL_refl _, leL_refl _, trivial⟩
    rintro ⟨i, hi⟩
    by_cases hlt : i < n
    · have q := hn.1 i hlt
      have hr := fun up => hrest up i
      rw [q] at hr
      have hb := fun up => hbr up i
      cases i with
      | zero =>
        conv => whnf
        repeat first
          | (refine DRAW.seek ?_; repeat (first | refine TRYD.take ?_ | refine TRYD.next ?_); conv => whnf)
          | (refine HOLD.mk (by first | exact trivial | exact ⟨⟨rfl, rfl⟩, trivial⟩ | exact ⟨⟨rfl, rfl⟩, ⟨rfl, rfl⟩, trivial⟩) ?_; (conv => whnf))
          | (refine CALL0.by (hr ..) rfl ?_; conv => whnf)
          | (refine CALLQ.mk _ _ _ (leL_refl _) (hr ..) rfl ?_; conv => whnf)
          | (refine CALL0.by (hb ..) rfl ?_; conv => whnf)
          | (refine CALLQ.mk _ _ _ (leL_refl _) (hb ..) rfl ?_; conv => whnf)
        refine ⟨⟨1, hlt⟩, ⟨⟨⟨.inr rfl, rfl, rfl, fun j hj => ?_⟩, leV_refl _, leV_refl _, leV_refl _, trivial⟩, ⟨leL_refl _, leL_refl _, trivial⟩, rfl, rfl⟩, (by show n - 1 < n - 0; omega)⟩
        obtain rfl | rfl : j = 0 ∨ j = 1 := by have : j < 1 + 1 := hj; omega
        · rfl
        · rfl
      | succ i =>
        conv => whnf
        repeat first
          | (refine DRAW.seek ?_; repeat (first | refine TRYD.take ?_ | refine TRYD.next ?_); conv => whnf)
          | (refine HOLD.mk (by first | exact trivial | exact ⟨⟨rfl, rfl⟩, trivial⟩ | exact ⟨⟨rfl, rfl⟩, ⟨rfl, rfl⟩, trivial⟩) ?_; (conv => whnf))
          | (refine CALL0.by (hr ..) rfl ?_; conv => whnf)
          | (refine CALLQ.mk _ _ _ (leL_refl _) (hr ..) rfl ?_; conv => whnf)
          | (refine CALL0.by (hb ..) rfl ?_; conv => whnf)
          | (refine CALLQ.mk _ _ _ (leL_refl _) (hb ..) rfl ?_; conv => whnf)
        split
        rotate_left
        · rename_i h
          have h' : decide (1 + (i + 1) + 1 ≤ 1073741824) = false := h
          simp at h' <;> omega
        conv => whnf
        refine ⟨⟨i + 2, hlt⟩, ⟨⟨⟨.inr rfl, rfl, rfl, fun j hj => ?_⟩, leV_refl _, leV_refl _, leV_refl _, trivial⟩, ⟨leL_refl _, leL_refl _, trivial⟩, rfl, rfl⟩, (by show n - (i + 2) < n - (i + 1); omega)⟩
        show (if j < 1 + (i + 1) then (s.stopS m stuck j).cs else litF 7 (s.stopS m stuck (i + 2)).cs (j - (1 + (i + 1)))) = (s.stopS m stuck j).cs
        split
        · rfl
        · have : j = i + 2 := by have : j < 1 + (i + 2) := hj; omega
          subst this
          rw [show i + 2 - (1 + (i + 1)) = 0 by omega]
          rfl
    · have : i = n := by omega
      subst this
      have hr := fun up => hrest up i
      rw [hn.2] at hr
      cases i with
      | zero =>
        conv => whnf
        repeat first
          | (refine DRAW.seek ?_; repeat (first | refine TRYD.take ?_ | refine TRYD.next ?_); conv => whnf)
          | (refine HOLD.mk (by first | exact trivial | exact ⟨⟨rfl, rfl⟩, trivial⟩ | exact ⟨⟨rfl, rfl⟩, ⟨rfl, rfl⟩, trivial⟩) ?_; (conv => whnf))
          | (refine CALL0.by (hr ..) rfl ?_; conv => whnf)
          | (refine CALLQ.mk _ _ _ (leL_refl _) (hr ..) rfl ?_; conv => whnf)
        exact ⟨rfl, rfl⟩
      | succ i =>
        conv => whnf
        repeat first
          | (refine DRAW.seek ?_; repeat (first | refine TRYD.take ?_ | refine TRYD.next ?_); conv => whnf)
          | (refine HOLD.mk (by first | exact trivial | exact ⟨⟨rfl, rfl⟩, trivial⟩ | exact ⟨⟨rfl, rfl⟩, ⟨rfl, rfl⟩, trivial⟩) ?_; (conv => whnf))
          | (refine CALL0.by (hr ..) rfl ?_; conv => whnf)
          | (refine CALLQ.mk _ _ _ (leL_refl _) (hr ..) rfl ?_; conv => whnf)
        exact ⟨rfl, rfl⟩

theorem tagless (t : Nat) (e n : Nat) (f : Nat → List IV) : leV (.lst (some t) e n f) (.lst none e n f) := ⟨.inl rfl, rfl, rfl, fun _ _ => rfl⟩

/-- The greatest of the first 'k' numbers, or 0. -/
def topS (f : Nat → Int) : Nat → Int
  | 0 => 0
  | k + 1 => maxW (topS f k) (f k)

theorem top_most (s : Sta) (m : Mc) (stuck : Int) (h0 : 0 ≤ s.speed) : ∀ n, topS (fun i => (s.stopS m stuck i).speed) (1 + n) = s.most m stuck n
  | 0 => by
    show maxW 0 s.speed = s.speed
    rw [maxW_eq]; omega
  | n + 1 => by
    show maxW (topS (fun i => (s.stopS m stuck i).speed) (1 + n)) (s.stopS m stuck (1 + n)).speed = maxW (s.most m stuck n) (s.stepW m stuck (n + 1)).speed
    rw [top_most s m stuck h0 n, stopS_speed, Nat.add_comm 1 n]

set_option maxHeartbeats 8000000 in
theorem c_rPeak (up : List Ces) (m : Mc) (s : Sta) (stuck : Int) (hm : m.ok) (hs : s.rng m) (h1 : -1 ≤ stuck) (h2 : stuck ≤ 2) (hmu : s.mu m stuck ≤ 20100) (n : Nat) (hn : s.takes m stuck n) (hn2 : n ≤ 1000000) :
    Cs gl n_nacelleref05_Peak up [m.iv, s.iv, .int .i64 stuck] (.tup [.int .i64 (s.most m stuck n), .int .i64 n]) up := by
  have hS := fun up => (c_rStop (gl := gl) up m s stuck hm hs h1 h2 hmu n hn hn2).res (tagless _ _ _ _)
  rw [← top_most s m stuck hs.speed.1]
  refine mk h_nacelleref05_Peak rfl rfl ?_
  conv => whnf
  repeat first
    | (refine DRAW.seek ?_; repeat (first | refine TRYD.take ?_ | refine TRYD.next ?_); conv => whnf)
    | (refine HOLD.mk (by first | exact trivial | exact ⟨⟨rfl, rfl⟩, trivial⟩ | exact ⟨⟨rfl, rfl⟩, ⟨rfl, rfl⟩, trivial⟩) ?_; (conv => whnf))
    | (refine CALL0.by (hS ..) rfl ?_; conv => whnf)
    | (refine CALLQ.mk _ _ _ (leL_refl _) (hS ..) rfl ?_; conv => whnf)
  let F : Nat → List IV := fun i => (s.stopS m stuck i).cs
  refine .mk (α := {i : Nat // i ≤ 1 + n}) (fun i => ⟨[(10, .int .i64 i.1), (9, .int .i64 (topS (fun i => (s.stopS m stuck i).speed) i.1)), (8, .lst none 7 (1 + n) F)], [], up⟩) (fun i => 1 + n - i.1) ⟨0, Nat.zero_le _⟩ ⟨?_, ?_, rfl, rfl⟩ ?_
  · exact ⟨leV_refl _, leV_refl _, leV_refl _, trivial⟩
  · exact trivial
  rintro ⟨i, hi⟩
  have hw : w64 ((i : Int) + 1) = ((i + 1 : Nat) : Int) := by rw [w64, wrap_in] <;> omega
  by_cases hlt : i < 1 + n
  · have q : decide ((i : Int) < ((1 + n : Nat) : Int)) = true := decide_eq_true (by omega)
    conv => whnf
    split
    rotate_left
    · rename_i h
      exact Bool.noConfusion ((q).symm.trans h)
    rename_i hN
    clear hN
    conv => whnf
    split
    rotate_left
    · rename_i h
      exact Bool.noConfusion ((q).symm.trans h)
    rename_i hN
    clear hN
    conv => whnf
    exact ⟨⟨i + 1, hlt⟩, ⟨⟨leV_int hw, leV_refl _, leV_refl _, trivial⟩, trivial, rfl, rfl⟩, (by show 1 + n - (i + 1) < 1 + n - i; omega)⟩
  · have q : decide ((i : Int) < ((1 + n : Nat) : Int)) = false := decide_eq_false (by omega)
    have : i = 1 + n := by omega
    subst this
    conv => whnf
    split
    · rename_i h
      exact Bool.noConfusion ((q).symm.trans h)
    rename_i hN
    clear hN
    conv => whnf
    refine ⟨congrArg (fun x => IV.tup [.int .i64 (topS (fun i => (s.stopS m stuck i).speed) (1 + n)), .int .i64 x]) ?_, rfl⟩
    show w64 (((1 + n : Nat) : Int) - 1) = n
    rw [w64, wrap_in] <;> omega

/-- The peak of a stop of a state in range. -/
theorem c_rPeakN (up : List Ces) (m : Mc) (s : Sta) (stuck : Int) (hm : m.ok) (hs : s.rng m) (hsp : s.speed ≤ 10000) (h1 : -1 ≤ stuck) (h2 : stuck ≤ 2) :
    Cs gl n_nacelleref05_Peak up [m.iv, s.iv, .int .i64 stuck] (.tup [.int .i64 (s.pk m stuck), .int .i64 (s.num m stuck)]) up := by
  obtain ⟨ht, hb⟩ := takes_num hm hs hsp h1 h2
  exact c_rPeak up m s stuck hm hs h1 h2 (mu_start hm hs hsp stuck) _ ht hb
set_option maxHeartbeats 8000000 in
theorem c_rSafe (up : List Ces) (m : Mc) (s : Sta) (hm : m.ok) (hs : s.rng m) (hsp : s.speed ≤ 10000) : Cs gl n_nacelleref05_Safe up [m.iv, s.iv] (.bool (s.safeN m)) up := by
  refine mk h_nacelleref05_Safe rfl rfl ?_
  have hp := fun up (k : Nat) (hk : k < 3) => c_rPeakN (gl := gl) up m s k hm hs hsp (by omega) (by omega)
  have hall := safeN_iff (m := m) (s := s)
  conv => whnf
  refine .mk (α := {k : Nat // k ≤ 3 ∧ ∀ i, i < k → (s.stuck ≠ -1 ∧ s.stuck ≠ (i : Nat)) ∨ s.pk m (i : Nat) ≤ m.lim}) (fun k => ⟨[(5, .int .i64 k.1), (3, .ptr 0 3 0), (2, .ptr 0 2 0)], [(3, s.cs), (2, m.cs)], up⟩) (fun k => 3 - k.1) ⟨0, Nat.zero_le _, fun i hi => by omega⟩ ⟨?_, ?_, rfl, rfl⟩ ?_
  · exact ⟨leV_refl _, leV_refl _, leV_refl _, trivial⟩
  · exact ⟨leL_refl _, leL_refl _, trivial⟩
  rintro ⟨k, hk, hb⟩
  by_cases hk3 : k = 3
  · subst hk3
    rw [hall.2 hb]
    conv => whnf
    exact ⟨rfl, rfl⟩
  have q : decide ((k : Int) < 3) = true := decide_eq_true (by omega)
  have hw : w64 ((k : Int) + 1) = ((k + 1 : Nat) : Int) := by rw [w64, wrap_in] <;> omega
  have hpk := fun up => hp up k (by omega)
  have next : ((s.stuck ≠ -1 ∧ s.stuck ≠ (k : Nat)) ∨ s.pk m (k : Nat) ≤ m.lim) → ∀ i, i < k + 1 → (s.stuck ≠ -1 ∧ s.stuck ≠ (i : Nat)) ∨ s.pk m (i : Nat) ≤ m.lim := fun h i hi => by
    by_cases e : i = k
    · subst e; exact h
    · exact hb i (by omega)
  have no : ¬ (s.stuck ≠ -1 ∧ s.stuck ≠ (k : Nat)) → ¬ s.pk m (k : Nat) ≤ m.lim → s.safeN m = false := fun a b => by
    cases h : s.safeN m with
    | false => rfl
    | true => exact ((hall.1 h k (by omega)).elim a b).elim
  cases q3 : (s.stuck != -1) with
  | true =>
    have e3 : s.stuck ≠ -1 := by simpa using q3
    cases q1 : (s.stuck != (k : Int)) with
    | true =>
      have e1 : s.stuck ≠ (k : Int) := by simpa using q1
      conv => whnf
      split
      rotate_left
      · rename_i h
        exact Bool.noConfusion ((q).symm.trans h)
      rename_i hN
      clear hN
      conv => whnf
      split
      rotate_left
      · rename_i h
        exact Bool.noConfusion ((q3).symm.trans h)
      rename_i hN
      clear hN
      conv => whnf
      split
      rotate_left
      · rename_i h
        exact Bool.noConfusion ((q1).symm.trans h)
      rename_i hN
      clear hN
      conv => whnf
      exact ⟨⟨k + 1, by omega, next (.inl ⟨e3, e1⟩)⟩, ⟨⟨leV_int hw, leV_refl _, leV_refl _, trivial⟩, ⟨leL_refl _, leL_refl _, trivial⟩, rfl, rfl⟩, (by show 3 - (k + 1) < 3 - k; omega)⟩
    | false =>
      have e1 : s.stuck = (k : Int) := by simpa using q1
      cases q2 : decide (s.pk m k > m.lim) with
      | true =>
        rw [no (fun h => h.2 e1) (by have := of_decide_eq_true q2; omega)]
        conv => whnf
        split
        rotate_left
        · rename_i h
          exact Bool.noConfusion ((q).symm.trans h)
        rename_i hN
        clear hN
        conv => whnf
        split
        rotate_left
        · rename_i h
          exact Bool.noConfusion ((q3).symm.trans h)
        rename_i hN
        clear hN
        conv => whnf
        split
        · rename_i h
          exact Bool.noConfusion ((q1).symm.trans h)
        rename_i hN
        clear hN
        conv => whnf
        repeat first
          | (refine DRAW.seek ?_; repeat (first | refine TRYD.take ?_ | refine TRYD.next ?_); conv => whnf)
          | (refine HOLD.mk (by first | exact trivial | exact ⟨⟨rfl, rfl⟩, trivial⟩ | exact ⟨⟨rfl, rfl⟩, ⟨rfl, rfl⟩, trivial⟩) ?_; (conv => whnf))
          | (refine CALL0.by (hpk ..) rfl ?_; conv => whnf)
          | (refine CALLQ.mk _ _ _ (leL_refl _) (hpk ..) rfl ?_; conv => whnf)
        split
        rotate_left
        · rename_i h
          exact Bool.noConfusion ((q2).symm.trans h)
        rename_i hN
        clear hN
        conv => whnf
        exact ⟨rfl, rfl⟩
      | false =>
        conv => whnf
        split
        rotate_left
        · rename_i h
          exact Bool.noConfusion ((q).symm.trans h)
        rename_i hN
        clear hN
        conv => whnf
        split
        rotate_left
        · rename_i h
          exact Bool.noConfusion ((q3).symm.trans h)
        rename_i hN
        clear hN
        conv => whnf
        split
        · rename_i h
          exact Bool.noConfusion ((q1).symm.trans h)
        rename_i hN
        clear hN
        conv => whnf
        repeat first
          | (refine DRAW.seek ?_; repeat (first | refine TRYD.take ?_ | refine TRYD.next ?_); conv => whnf)
          | (refine HOLD.mk (by first | exact trivial | exact ⟨⟨rfl, rfl⟩, trivial⟩ | exact ⟨⟨rfl, rfl⟩, ⟨rfl, rfl⟩, trivial⟩) ?_; (conv => whnf))
          | (refine CALL0.by (hpk ..) rfl ?_; conv => whnf)
          | (refine CALLQ.mk _ _ _ (leL_refl _) (hpk ..) rfl ?_; conv => whnf)
        split
        · rename_i h
          exact Bool.noConfusion ((q2).symm.trans h)
        rename_i hN
        clear hN
        conv => whnf
        exact ⟨⟨k + 1, by omega, next (.inr (by have := of_decide_eq_false q2; omega))⟩, ⟨⟨leV_int hw, leV_refl _, leV_refl _, trivial⟩, ⟨leL_refl _, leL_refl _, trivial⟩, rfl, rfl⟩, (by show 3 - (k + 1) < 3 - k; omega)⟩
  | false =>
    have e3 : s.stuck = -1 := by simpa using q3
    cases q2 : decide (s.pk m k > m.lim) with
    | true =>
      rw [no (fun h => h.1 e3) (by have := of_decide_eq_true q2; omega)]
      conv => whnf
      split
      rotate_left
      · rename_i h
        exact Bool.noConfusion ((q).symm.trans h)
      rename_i hN
      clear hN
      conv => whnf
      split
      · rename_i h
        exact Bool.noConfusion ((q3).symm.trans h)
      rename_i hN
      clear hN
      conv => whnf
      repeat first
        | (refine DRAW.seek ?_; repeat (first | refine TRYD.take ?_ | refine TRYD.next ?_); conv => whnf)
        | (refine HOLD.mk (by first | exact trivial | exact ⟨⟨rfl, rfl⟩, trivial⟩ | exact ⟨⟨rfl, rfl⟩, ⟨rfl, rfl⟩, trivial⟩) ?_; (conv => whnf))
        | (refine CALL0.by (hpk ..) rfl ?_; conv => whnf)
        | (refine CALLQ.mk _ _ _ (leL_refl _) (hpk ..) rfl ?_; conv => whnf)
      split
      rotate_left
      · rename_i h
        exact Bool.noConfusion ((q2).symm.trans h)
      rename_i hN
      clear hN
      conv => whnf
      exact ⟨rfl, rfl⟩
    | false =>
      conv => whnf
      split
      rotate_left
      · rename_i h
        exact Bool.noConfusion ((q).symm.trans h)
      rename_i hN
      clear hN
      conv => whnf
      split
      · rename_i h
        exact Bool.noConfusion ((q3).symm.trans h)
      rename_i hN
      clear hN
      conv => whnf
      repeat first
        | (refine DRAW.seek ?_; repeat (first | refine TRYD.take ?_ | refine TRYD.next ?_); conv => whnf)
        | (refine HOLD.mk (by first | exact trivial | exact ⟨⟨rfl, rfl⟩, trivial⟩ | exact ⟨⟨rfl, rfl⟩, ⟨rfl, rfl⟩, trivial⟩) ?_; (conv => whnf))
        | (refine CALL0.by (hpk ..) rfl ?_; conv => whnf)
        | (refine CALLQ.mk _ _ _ (leL_refl _) (hpk ..) rfl ?_; conv => whnf)
      split
      · rename_i h
        exact Bool.noConfusion ((q2).symm.trans h)
      rename_i hN
      clear hN
      conv => whnf
      exact ⟨⟨k + 1, by omega, next (.inr (by have := of_decide_eq_false q2; omega))⟩, ⟨⟨leV_int hw, leV_refl _, leV_refl _, trivial⟩, ⟨leL_refl _, leL_refl _, trivial⟩, rfl, rfl⟩, (by show 3 - (k + 1) < 3 - k; omega)⟩

def sameSt (n k : Nat) (f g : Nat → Sta) : Bool := bif (n : Int) != k then false else allB (fun i => eqSta (f i) (g i)) n 0

theorem allB_step {p : Nat → Bool} {n i : Nat} (h : i < n) : allB p (n - i) i = (p i && allB p (n - (i + 1)) (i + 1)) := by
  rw [show n - i = (n - (i + 1)) + 1 by omega]; rfl

theorem c_rSameStates (up : List Ces) (n k : Nat) (hn : n ≤ 10000000) (f g : Nat → Sta) :
    Cs gl n_nacelleref05_SameStates up [.lst none 7 n fun i => (f i).cs, .lst none 7 k fun i => (g i).cs] (.bool (sameSt n k f g)) up := by
  refine mk h_nacelleref05_SameStates rfl rfl ?_
  unfold sameSt
  cases q0 : ((n : Int) != k) with
  | true =>
    conv => whnf
    split
    rotate_left
    · rename_i h
      exact Bool.noConfusion ((q0).symm.trans h)
    rename_i hN
    clear hN
    conv => whnf
    exact ⟨rfl, rfl⟩
  | false =>
    have e : n = k := by have : (n : Int) = k := by simpa using q0
                         omega
    subst e
    conv => whnf
    split
    · rename_i h
      exact Bool.noConfusion ((q0).symm.trans h)
    rename_i hN
    clear hN
    conv => whnf
    refine .mk (α := {i : Nat // i ≤ n ∧ allB (fun i => eqSta (f i) (g i)) n 0 = allB (fun i => eqSta (f i) (g i)) (n - i) i}) (fun i => ⟨[(5, .int .i64 i.1), (1, .lst none 7 n fun i => (g i).cs), (0, .lst none 7 n fun i => (f i).cs)], [], up⟩) (fun i => n - i.1) ⟨0, Nat.zero_le _, rfl⟩ ⟨?_, ?_, rfl, rfl⟩ ?_
    · exact ⟨leV_refl _, leV_refl _, leV_refl _, trivial⟩
    · exact trivial
    rintro ⟨i, hi, he⟩
    have hw : w64 ((i : Int) + 1) = ((i + 1 : Nat) : Int) := by rw [w64, wrap_in] <;> omega
    by_cases hlt : i < n
    · have q : decide ((i : Int) < (n : Int)) = true := decide_eq_true (by omega)
      rw [allB_step hlt] at he
      cases qe : eqSta (f i) (g i) with
      | false =>
        rw [qe, Bool.false_and] at he
        have ne : (!eqSta (f i) (g i)) = true := by rw [qe]; rfl
        conv => whnf
        split
        rotate_left
        · rename_i h
          exact Bool.noConfusion ((q).symm.trans h)
        rename_i hN
        clear hN
        conv => whnf
        refine DRAW.seek ?_
        repeat (first | refine TRYD.take ?_ | refine TRYD.next ?_)
        conv => whnf
        split
        rotate_left
        · rename_i h
          exact Bool.noConfusion ((q).symm.trans h)
        rename_i hN
        clear hN
        conv => whnf
        split
        rotate_left
        · rename_i h
          exact Bool.noConfusion ((q).symm.trans h)
        rename_i hN
        clear hN
        conv => whnf
        split
        rotate_left
        · rename_i h
          exact Bool.noConfusion ((ne).symm.trans h)
        rename_i hN
        clear hN
        conv => whnf
        exact ⟨congrArg IV.bool he.symm, rfl⟩
      | true =>
        rw [qe, Bool.true_and] at he
        have ne : (!eqSta (f i) (g i)) = false := by rw [qe]; rfl
        conv => whnf
        split
        rotate_left
        · rename_i h
          exact Bool.noConfusion ((q).symm.trans h)
        rename_i hN
        clear hN
        conv => whnf
        refine DRAW.seek ?_
        repeat (first | refine TRYD.take ?_ | refine TRYD.next ?_)
        conv => whnf
        split
        rotate_left
        · rename_i h
          exact Bool.noConfusion ((q).symm.trans h)
        rename_i hN
        clear hN
        conv => whnf
        split
        rotate_left
        · rename_i h
          exact Bool.noConfusion ((q).symm.trans h)
        rename_i hN
        clear hN
        conv => whnf
        split
        · rename_i h
          exact Bool.noConfusion ((ne).symm.trans h)
        rename_i hN
        clear hN
        conv => whnf
        exact ⟨⟨i + 1, hlt, he⟩, ⟨⟨leV_int hw, leV_refl _, leV_refl _, trivial⟩, trivial, rfl, rfl⟩, (by show n - (i + 1) < n - i; omega)⟩
    · have q : decide ((i : Int) < (n : Int)) = false := decide_eq_false (by omega)
      have : i = n := by omega
      subst this
      rw [Nat.sub_self] at he
      conv => whnf
      split
      · rename_i h
        exact Bool.noConfusion ((q).symm.trans h)
      rename_i hN
      clear hN
      conv => whnf
      exact ⟨congrArg IV.bool he.symm, rfl⟩

theorem c_told (up : List Ces) (n : Nat) (hn : n ≤ 10000000) (f : Nat → Sta) : Cs gl n_nacellelaw05_told up [.lst none 7 n fun i => (f i).cs] (.lst (some 15) 7 n fun i => (f i).cs) up := by
  refine mk h_nacellelaw05_told rfl rfl ?_
  conv => whnf
  let F : Nat → List IV := fun i => (f i).cs
  refine .mk (α := {i : Nat // i ≤ n}) (fun i => ⟨[(8, .int .i64 i.1), (7, .int .i64 n), (6, .lst none 7 n F), (3, .lst (some 15) 7 i.1 F)], [], up⟩) (fun i => n - i.1) ⟨0, Nat.zero_le _⟩ ⟨?_, trivial, rfl, rfl⟩ ?_
  · exact ⟨leV_refl _, leV_refl _, leV_refl _, rfl, trivial⟩
  rintro ⟨i, hi⟩
  have hw : w64 ((i : Int) + 1) = ((i + 1 : Nat) : Int) := by rw [w64, wrap_in] <;> omega
  by_cases hlt : i < n
  · have q : decide ((i : Int) < n) = true := decide_eq_true (by omega)
    conv => whnf
    split
    rotate_left
    · rename_i h
      exact Bool.noConfusion ((q).symm.trans h)
    rename_i hN
    clear hN
    conv => whnf
    split
    rotate_left
    · rename_i h
      exact Bool.noConfusion ((q).symm.trans h)
    rename_i hN
    clear hN
    conv => whnf
    split
    rotate_left
    · rename_i h
      have h' : decide (i + 1 ≤ 1073741824) = false := h
      simp at h' <;> omega
    conv => whnf
    refine ⟨⟨i + 1, hlt⟩, ⟨⟨leV_int hw, leV_refl _, leV_refl _, ⟨.inr rfl, rfl, rfl, fun j hj => ?_⟩, trivial⟩, trivial, rfl, rfl⟩, (by show n - (i + 1) < n - i; omega)⟩
    show (if j < i then F j else litF 7 (F i) (j - i)) = F j
    split
    · rfl
    · have : j = i := by have : j < i + 1 := hj; omega
      subst this; rw [Nat.sub_self]; rfl
  · have q : decide ((i : Int) < n) = false := decide_eq_false (by omega)
    have : i = n := by omega
    subst this
    conv => whnf
    split
    · rename_i h
      exact Bool.noConfusion ((q).symm.trans h)
    rename_i hN
    clear hN
    conv => whnf
    exact ⟨rfl, rfl⟩
end Go.Proofs.YtkdlegfakefjgaaGreatDoor.Ix

/-
  P5: texts as lists of bytes: numerals, lines, the text of a blade.
-/
namespace Go.Proofs.YtkdlegfakefjgaaGreatDoor.Ix
set_option linter.unusedVariables false

/-- A string of these bytes. -/
abbrev bytesS (l : List UInt8) : ByteArray := ⟨l.toArray⟩

theorem bytesS_size (l : List UInt8) : (bytesS l).size = l.length := by simp [ByteArray.size]
theorem bytesS_data (l : List UInt8) : (bytesS l).data.toList = l := by simp
theorem bytesS_append (a b : List UInt8) : bytesS a ++ bytesS b = bytesS (a ++ b) := by
  apply ByteArray.ext
  simp [ByteArray.data_append]
theorem bytesS_mk (s : ByteArray) : bytesS s.data.toList = s := by cases s; simp [bytesS]

/-- Numbers, each behind a blank. -/
def numsS (f : Nat → Int) : Nat → List UInt8
  | 0 => []
  | n + 1 => numsS f n ++ 32 :: Go.Lib.itoa (f n)
def lineS (w : List UInt8) (n : Nat) (f : Nat → Int) : List UInt8 := w ++ numsS f n ++ [10]

def i64 (x : Int) : Prop := -9223372036854775808 ≤ x ∧ x ≤ 9223372036854775807

/-- The numbers of a ring. -/
def Bl.ring (b : Bl) (i j : Nat) : Int := [b.r1 i, b.r2 i, b.r3 i, b.r4 i].getD j 0
def Bl.pol (b : Bl) (j : Nat) : Int := if j % 2 = 0 then b.lf (j / 2) else b.df (j / 2)
/-- polar, ring -/
abbrev polarW : List UInt8 := [112, 111, 108, 97, 114]
abbrev ringW : List UInt8 := [114, 105, 110, 103]
def ringsS (b : Bl) : Nat → List UInt8
  | 0 => []
  | k + 1 => ringsS b k ++ lineS ringW 4 (b.ring k)
/-- The text of a blade. -/
def Bl.text (b : Bl) : List UInt8 := lineS polarW (2 * b.nl) b.pol ++ ringsS b b.nr

end Go.Proofs.YtkdlegfakefjgaaGreatDoor.Ix

/-
  Ix30: what a caller hands in, as the evaluator tells it: data that a claim reads, of a given shape.
-/
namespace Go.Proofs.YtkdlegfakefjgaaGreatDoor.Ix
set_option linter.unusedVariables false

inductive Shp where
  | int (k : IntKind)
  | bool
  | str
  | slice (e : Nat) (s : Shp)
  | agg (l : List (Nat × Shp))

def total : List (Nat × Shp) → Nat
  | [] => 0
  | x :: r => x.1 + total r

mutual
/-- The type 't' has this shape. -/
def ShpOK (P : Program) : Shp → TypeId → Prop
  | .int k, t => P.underlying t = some (.int k)
  | .bool, t => P.underlying t = some .bool
  | .str, t => P.underlying t = some .string
  | .slice e s, t => ∃ u, P.underlying t = some (.slice u) ∧ P.cellsOf u = e ∧ 0 < e ∧ ShpOK P s u
  | .agg l, t => P.cellsOf t = total l ∧ ((∃ fs, P.underlying t = some (.struct fs) ∧ ShpOKs P l 0 (fs.toList.map fun f => (f.offset, f.type))) ∨
      ∃ n e, P.underlying t = some (.array n e) ∧ ShpOKs P l 0 ((List.range n).map fun i => (i * P.cellsOf e, e)))
def ShpOKs (P : Program) : List (Nat × Shp) → Nat → List (Nat × TypeId) → Prop
  | [], _, [] => True
  | (sz, s) :: l, off, (o, u) :: r => o = off ∧ P.cellsOf u = sz ∧ ShpOK P s u ∧ ShpOKs P l (off + sz) r
  | _, _, _ => False
end

mutual
/-- Cells of this shape. -/
def Fit : Shp → List IV → Prop
  | .int k, xs => ∃ n, xs = [.int k n] ∧ (Lit.int k n).wf = true
  | .bool, xs => ∃ b, xs = [.bool b]
  | .str, xs => ∃ s : ByteArray, xs = [.str s] ∧ s.size ≤ maxLen
  | .slice e s, xs => ∃ n f, xs = [.lst none e n f] ∧ n ≤ maxLen ∧ ∀ i, i < n → (f i).length = e ∧ Fit s (f i)
  | .agg l, xs => FitL l xs
def FitL : List (Nat × Shp) → List IV → Prop
  | [], xs => xs = []
  | (sz, s) :: l, xs => ∃ ys zs, xs = ys ++ zs ∧ ys.length = sz ∧ Fit s ys ∧ FitL l zs
end

/-- The cells told. -/
def Tells (I : Imm) (xs : List IV) (cs : List Value) : Prop := xs.length = cs.length ∧ ∀ (j : Nat) y, xs[j]? = some y → D I y (cs.getD j undef) ∧ (cs.getD j undef).oneCell' = true

theorem Tells.one {I : Imm} {x : IV} {v : Value} (h : D I x v) (h1 : v.oneCell' = true) : Tells I [x] [v] := by
  refine ⟨rfl, fun j y hy => ?_⟩
  cases j with
  | zero => simp at hy; subst hy; exact ⟨h, h1⟩
  | succ j => simp at hy

theorem Tells.append {I : Imm} {xs ys : List IV} {cs ds : List Value} (h : Tells I xs cs) (k : Tells I ys ds) : Tells I (xs ++ ys) (cs ++ ds) := by
  refine ⟨by simp [h.1, k.1], fun j y hy => ?_⟩
  by_cases hj : j < xs.length
  · rw [List.getElem?_append_left hj] at hy
    have := h.2 j y hy
    rw [List.getD_eq_getElem?_getD, List.getElem?_append_left (by rw [← h.1]; exact hj), ← List.getD_eq_getElem?_getD]; exact this
  · rw [List.getElem?_append_right (by omega)] at hy
    have := k.2 _ y hy
    rw [List.getD_eq_getElem?_getD, List.getElem?_append_right (by rw [← h.1]; omega), ← h.1, ← List.getD_eq_getElem?_getD]; exact this

section
variable {H : Type} {enc : TypeId × Value → H} {P : Program} {w : World} {spare : Nat → Bool} {held : Bool}

theorem cells_get {base : Nat} {a : Addr} {n : Nat} {cs : List Value} (h : w.cells? base a n = some cs) : cs.length = n ∧ ∀ j, j < n → w.cell? (a.add j) = cs[j]? := by
  unfold World.cells? at h
  split at h
  · exact ⟨by simpa using mapM_some_length h, fun j hj => mapM_some_get h j j (by simp [hj])⟩
  · cases h

theorem cell_spot {a : Addr} {v : Value} (h : w.cell? a = some v) : a.spot = none := by
  unfold World.cell? at h
  split at h
  · cases hs : a.spot with
    | none => rfl
    | some x => simp [hs] at h
  · cases h

mutual
theorem fit_of_trod : ∀ (s : Shp) (t : TypeId), ShpOK P s t → ∀ (fuel : Nat) (cs : List Value) (x : DataW H × List MemPlace), DataW.trod enc P w 0 (fun _ => true) held fuel t cs = some x →
    ∃ xs, Fit s xs ∧ Tells (fun a => w.cell? a) xs cs
  | .int k, t, ht, fuel, cs, x, h => by
    simp only [ShpOK] at ht
    obtain ⟨n, rfl, _, hw⟩ := DataW.trod_int ht h
    exact ⟨_, ⟨n, rfl, hw⟩, .one (.int k n) rfl⟩
  | .bool, t, ht, fuel, cs, x, h => by
    simp only [ShpOK] at ht
    obtain ⟨b, rfl, _⟩ := DataW.trod_bool ht h
    exact ⟨_, ⟨b, rfl⟩, .one (.bool b) rfl⟩
  | .str, t, ht, fuel, cs, x, h => by
    simp only [ShpOK] at ht
    obtain ⟨s, rfl, _, hs⟩ := DataW.trod_string ht h
    exact ⟨_, ⟨s, rfl, hs⟩, .one (.str s) rfl⟩
  | .slice e s, t, ht, fuel, cs, x, h => by
    simp only [ShpOK] at ht
    obtain ⟨u, hu, rfl, he, hs⟩ := ht
    rcases DataW.trod_slice hu h with ⟨rfl, _⟩ | ⟨a, len, cap, elems, rest, n, _, rfl, _, _, hlc, hcm, hlen, hel, hsp, _⟩
    · exact ⟨[.lst none (P.cellsOf u) 0 fun _ => []], ⟨0, _, rfl, Nat.zero_le _, fun i hi => by omega⟩, .one (.lstN _ _) rfl⟩
    · obtain ⟨hr1, hr2⟩ := hsp rfl
      have ex : ∀ i, i < len → ∃ xs, Fit s xs ∧ ∃ vs, w.cells? 0 (a.add (i * P.cellsOf u)) (P.cellsOf u) = some vs ∧ Tells (fun a => w.cell? a) xs vs := by
        intro i hi
        have h1 := hel i hi
        rw [List.getElem?_eq_getElem (by omega), Option.bind_eq_some_iff] at h1
        obtain ⟨vs, hv, ht⟩ := h1
        obtain ⟨xs, k1, k2⟩ := fit_of_trod s u hs n vs _ ht
        exact ⟨xs, k1, vs, hv, k2⟩
      have hspot : 0 < cap → a.spot = none := by
        intro hc
        have : ∃ vs, w.cells? 0 (a.add (0 * P.cellsOf u)) (P.cellsOf u) = some vs := by
          by_cases hl : 0 < len
          · obtain ⟨_, _, vs, hv, _⟩ := ex 0 hl; exact ⟨vs, hv⟩
          · have h1 := hr2 0 (by omega)
            rw [List.getElem?_eq_getElem (by omega), Option.bind_eq_some_iff] at h1
            obtain ⟨vs, hv, _⟩ := h1
            exact ⟨vs, by rw [show len + 0 = 0 by omega] at hv; exact hv⟩
        obtain ⟨vs, hv⟩ := this
        obtain ⟨g1, g2⟩ := cells_get hv
        have := g2 0 he
        rw [List.getElem?_eq_getElem (by omega), Nat.zero_mul] at this
        have h0 : (a.add 0).add 0 = a := by simp [Addr.add]
        rw [h0] at this
        exact cell_spot this
      by_cases hc : cap = 0
      · subst hc
        have : len = 0 := by omega
        subst this
        exact ⟨[.lst none (P.cellsOf u) 0 fun _ => []], ⟨0, _, rfl, Nat.zero_le _, fun i hi => by omega⟩, .one (.lstN _ _) rfl⟩
      · obtain ⟨b, off, spot⟩ := a
        have hs0 := hspot (by omega)
        simp only at hs0
        subst hs0
        let f : Nat → List IV := fun i => if hi : i < len then (ex i hi).choose else []
        have hf : ∀ i (hi : i < len), Fit s (f i) ∧ ∃ vs, w.cells? 0 ((⟨b, off, none⟩ : Addr).add (i * P.cellsOf u)) (P.cellsOf u) = some vs ∧ Tells (fun a => w.cell? a) (f i) vs := by
          intro i hi
          have e : f i = (ex i hi).choose := dif_pos hi
          rw [e]; exact (ex i hi).choose_spec
        have hlen' : ∀ i, i < len → (f i).length = P.cellsOf u := fun i hi => by
          obtain ⟨_, vs, hv, ht⟩ := hf i hi
          rw [ht.1]; exact (cells_get hv).1
        have hcell : ∀ i j, i < len → j < P.cellsOf u → ∃ v, w.cell? ⟨b, off + i * P.cellsOf u + j, none⟩ = some v ∧ v.oneCell' = true ∧ ∀ x, (f i)[j]? = some x → D (fun a => w.cell? a) x v := by
          intro i j hi hj
          obtain ⟨_, vs, hv, ht⟩ := hf i hi
          obtain ⟨g1, g2⟩ := cells_get hv
          have h1 := g2 j hj
          rw [add_none, add_none] at h1
          have hjl : j < (f i).length := by rw [hlen' i hi]; exact hj
          have h3 := ht.2 j _ (List.getElem?_eq_getElem hjl)
          refine ⟨vs.getD j undef, ?_, h3.2, fun x hx => (ht.2 j x hx).1⟩
          rw [h1, List.getD_eq_getElem?_getD, List.getElem?_eq_getElem (by omega)]; rfl
        refine ⟨[.lst none (P.cellsOf u) len f], ⟨len, f, rfl, by omega, fun i hi => ⟨hlen' i hi, (hf i hi).1⟩⟩, .one ?_ rfl⟩
        refine .lst _ len f b off cap (fun i j => (w.cell? ⟨b, off + i * P.cellsOf u + j, none⟩).getD undef) hlc hlen' (fun i j hi hj => ?_) (fun i j hi hj => ?_) (fun i j x hi hx => ?_)
        · obtain ⟨v, hv, _⟩ := hcell i j hi hj
          show w.cell? _ = some ((w.cell? _).getD undef)
          rw [hv]; rfl
        · obtain ⟨v, hv, h1, _⟩ := hcell i j hi hj
          show ((w.cell? _).getD undef).oneCell' = true
          rw [hv]; exact h1
        · have hj : j < P.cellsOf u := by rw [← hlen' i hi]; exact (List.getElem?_eq_some_iff.1 hx).1
          obtain ⟨v, hv, _, hD⟩ := hcell i j hi hj
          show D _ x ((w.cell? _).getD undef)
          rw [hv]; exact hD x hx
  | .agg l, t, ht, fuel, cs, x, h => by
    simp only [ShpOK] at ht
    obtain ⟨hsz, ⟨fs, hu, hfs⟩ | ⟨n, e, hu, hfs⟩⟩ := ht
    · obtain ⟨ys, n, _, _, hcl, hyl, hy⟩ := DataW.trod_struct hu h
      have := fits_of_trod l 0 _ hfs n cs (fun i o u hi => by
        simp only [List.getElem?_map, Option.map_eq_some_iff] at hi
        obtain ⟨f, hf, e⟩ := hi
        simp only [Prod.mk.injEq] at e
        obtain ⟨rfl, rfl⟩ := e
        have hf' : fs[i]? = some f := by simpa using hf
        have hlt : i < ys.length := by rw [hyl]; exact (Array.getElem?_eq_some_iff.1 hf').1
        exact ⟨_, (hy i f hf').trans (List.getElem?_eq_getElem hlt)⟩) (by omega)
      simpa [Fit] using this
    · obtain ⟨ys, m, _, _, hcl, hyl, hy⟩ := DataW.trod_array hu h
      have := fits_of_trod l 0 _ hfs m cs (fun i o u hi => by
        simp only [List.getElem?_map, Option.map_eq_some_iff] at hi
        obtain ⟨f, hf, e⟩ := hi
        simp only [Prod.mk.injEq] at e
        obtain ⟨rfl, rfl⟩ := e
        obtain ⟨hlt, rfl⟩ := List.getElem?_eq_some_iff.1 hf
        simp at hlt ⊢
        have := hy i hlt
        rw [List.getElem?_eq_getElem (by omega)] at this
        exact ⟨_, _, this⟩) (by omega)
      simpa [Fit] using this
theorem fits_of_trod : ∀ (l : List (Nat × Shp)) (off : Nat) (ts : List (Nat × TypeId)), ShpOKs P l off ts → ∀ (fuel : Nat) (cs : List Value),
    (∀ (i : Nat) o u, ts[i]? = some (o, u) → ∃ x, DataW.trod enc P w 0 (fun _ => true) held fuel u ((cs.drop o).take (P.cellsOf u)) = some x) → cs.length = off + total l →
    ∃ xs, FitL l xs ∧ Tells (fun a => w.cell? a) xs (cs.drop off)
  | [], off, ts, h, fuel, cs, hx, hl => ⟨[], rfl, by
      have : cs.drop off = [] := by simp [total] at hl; simp [hl]
      rw [this]; exact ⟨rfl, fun j y hy => by simp at hy⟩⟩
  | (sz, s) :: l, off, [], h, fuel, cs, hx, hl => by simp [ShpOKs] at h
  | (sz, s) :: l, off, (o, u) :: r, h, fuel, cs, hx, hl => by
    simp only [ShpOKs] at h
    obtain ⟨rfl, rfl, h3, h4⟩ := h
    simp only [total] at hl
    obtain ⟨y, hy⟩ := hx 0 o u rfl
    obtain ⟨xs, k1, k2⟩ := fit_of_trod s u h3 fuel _ y hy
    obtain ⟨zs, m1, m2⟩ := fits_of_trod l (o + P.cellsOf u) r h4 fuel cs (fun i o' u' hi => hx (i + 1) o' u' (by simpa using hi)) (by omega)
    have hlen : xs.length = P.cellsOf u := by rw [k2.1]; simp; omega
    refine ⟨xs ++ zs, ?_, ?_⟩
    · simp only [FitL]; exact ⟨xs, zs, rfl, hlen, k1, m1⟩
    · have e : cs.drop o = (cs.drop o).take (P.cellsOf u) ++ cs.drop (o + P.cellsOf u) := by
        rw [← List.drop_drop, List.take_append_drop]
      rw [e]; exact k2.append m2
end
end
end Go.Proofs.YtkdlegfakefjgaaGreatDoor.Ix

/-
  Ix31: from a contract to a claim's own words: the arguments as data of given shapes, the call, the arguments as they were.
-/
namespace Go.Proofs.YtkdlegfakefjgaaGreatDoor.Ix
set_option linter.unusedVariables false

mutual
/-- Has the type 't' this shape? -/
def shpB (P : Program) : Shp → TypeId → Bool
  | .int k, t => match P.underlying t with
    | some (.int k') => decide (k' = k)
    | _ => false
  | .bool, t => match P.underlying t with
    | some .bool => true
    | _ => false
  | .str, t => match P.underlying t with
    | some .string => true
    | _ => false
  | .slice e s, t => match P.underlying t with
    | some (.slice u) => Nat.beq (P.cellsOf u) e && Nat.blt 0 e && shpB P s u
    | _ => false
  | .agg l, t => Nat.beq (P.cellsOf t) (total l) && match P.underlying t with
    | some (.struct fs) => shpsB P l 0 (fs.toList.map fun f => (f.offset, f.type))
    | some (.array n e) => shpsB P l 0 ((List.range n).map fun i => (i * P.cellsOf e, e))
    | _ => false
def shpsB (P : Program) : List (Nat × Shp) → Nat → List (Nat × TypeId) → Bool
  | [], _, [] => true
  | (sz, s) :: l, off, (o, u) :: r => Nat.beq o off && Nat.beq (P.cellsOf u) sz && shpB P s u && shpsB P l (off + sz) r
  | _, _, _ => false
end

mutual
theorem shp_ok {P : Program} : ∀ (s : Shp) (t : TypeId), shpB P s t = true → ShpOK P s t
  | .int k, t, h => by
    simp only [shpB] at h
    split at h
    · rename_i k' hk; simp at h; subst h; exact hk
    · cases h
  | .bool, t, h => by
    simp only [shpB] at h
    split at h
    · assumption
    · cases h
  | .str, t, h => by
    simp only [shpB] at h
    split at h
    · assumption
    · cases h
  | .slice e s, t, h => by
    simp only [shpB] at h
    split at h
    · rename_i u hu
      simp only [Bool.and_eq_true, beq_iff] at h
      exact ⟨u, hu, h.1.1, blt_lt h.1.2, shp_ok s u h.2⟩
    · cases h
  | .agg l, t, h => by
    simp only [shpB, Bool.and_eq_true, beq_iff] at h
    obtain ⟨h1, h2⟩ := h
    refine ⟨h1, ?_⟩
    split at h2
    · rename_i fs hf; exact .inl ⟨fs, hf, shps_ok l _ _ h2⟩
    · rename_i n e hf; exact .inr ⟨n, e, hf, shps_ok l _ _ h2⟩
    · cases h2
theorem shps_ok {P : Program} : ∀ (l : List (Nat × Shp)) (off : Nat) (ts : List (Nat × TypeId)), shpsB P l off ts = true → ShpOKs P l off ts
  | [], _, [], _ => trivial
  | [], _, _ :: _, h => by simp [shpsB] at h
  | (sz, s) :: l, off, [], h => by simp [shpsB] at h
  | (sz, s) :: l, off, (o, u) :: r, h => by
    simp only [shpsB, Bool.and_eq_true, beq_iff] at h
    exact ⟨h.1.1.1, h.1.1.2, shp_ok s u h.1.2, shps_ok l _ r h.2⟩
end

/-- A value of this shape. -/
def FitV : Shp → IV → Prop
  | .agg l, v => ∃ xs, v = .agg xs ∧ FitL l xs
  | s, v => Fit s [v]

section
variable {H : Type} {enc : TypeId × Value → H} {P : Program} {w : World} {held : Bool} {base : Nat}

theorem open_shp {r : Reach} {b0 : Nat} (s : Shp) (t : TypeId) (hs : ShpOK P s t) {v : Value} {d : DataW H} {p : List MemPlace} (hval : Value.okWide P w r b0 t v) (h : DataW.Trod enc P w 0 (fun _ => true) held t v d p) :
    ∃ x, FitV s x ∧ D (fun a => w.cell? a) x v := by
  obtain ⟨fuel, h⟩ := h
  obtain ⟨xs, h1, h2, h3⟩ := fit_of_trod s t hs fuel _ _ h
  have plain : v.cells = #[v] → (∃ x, xs = [x]) → ∃ x, xs = [x] ∧ D (fun a => w.cell? a) x v := fun e hx => by
    obtain ⟨x, rfl⟩ := hx
    refine ⟨x, rfl, ?_⟩
    have := (h3 0 x rfl).1
    rw [e] at this; exact this
  cases s with
  | agg l =>
    simp only [ShpOK] at hs
    have : ∃ cs, v = .agg cs := by
      unfold Value.okWide at hval
      obtain ⟨_, ⟨fs, hu, _⟩ | ⟨n, e, hu, _⟩⟩ := hs
      · rw [hu] at hval; exact ⟨_, hval.choose_spec.1⟩
      · rw [hu] at hval; exact ⟨_, hval.choose_spec.1⟩
    obtain ⟨cs, rfl⟩ := this
    refine ⟨.agg xs, ⟨xs, rfl, h1⟩, .agg xs cs (by simpa [Value.cells] using h2) (fun j u hu => ?_) (fun j x hx => ?_)⟩
    · have hlt : j < xs.length := by rw [h2]; simpa [Value.cells] using (Array.getElem?_eq_some_iff.1 hu).1
      have := (h3 j _ (List.getElem?_eq_getElem hlt)).2
      simp only [Value.cells, List.getD_eq_getElem?_getD, Array.getElem?_toList, hu] at this
      exact this
    · have := (h3 j x hx).1
      simp only [Value.cells, List.getD_eq_getElem?_getD, Array.getElem?_toList] at this
      rw [Array.getD_eq_getD_getElem?]; exact this
  | int k =>
    simp only [ShpOK] at hs
    obtain ⟨n, rfl, hw⟩ := h1
    obtain ⟨m, hm, _, _⟩ := DataW.trod_int hs h
    have e : v.cells = #[v] := by cases v <;> simp_all [Value.cells, Value.okWide, Cell.okWide, Cell.ok]
    obtain ⟨x, hx, hD⟩ := plain e ⟨_, rfl⟩
    cases hx
    exact ⟨_, ⟨n, rfl, hw⟩, hD⟩
  | bool =>
    simp only [ShpOK] at hs
    obtain ⟨n, rfl⟩ := h1
    have e : v.cells = #[v] := by cases v <;> simp_all [Value.cells, Value.okWide, Cell.okWide, Cell.ok]
    obtain ⟨x, hx, hD⟩ := plain e ⟨_, rfl⟩
    cases hx
    exact ⟨_, ⟨n, rfl⟩, hD⟩
  | str =>
    simp only [ShpOK] at hs
    obtain ⟨n, rfl, hn⟩ := h1
    have e : v.cells = #[v] := by cases v <;> simp_all [Value.cells, Value.okWide, Cell.okWide, Cell.ok]
    obtain ⟨x, hx, hD⟩ := plain e ⟨_, rfl⟩
    cases hx
    exact ⟨_, ⟨n, rfl, hn⟩, hD⟩
  | slice e s =>
    simp only [ShpOK] at hs
    obtain ⟨u, hu, _⟩ := hs
    obtain ⟨n, f, rfl, hn⟩ := h1
    have e : v.cells = #[v] := by cases v <;> simp_all [Value.cells, Value.okWide, Cell.okWide, Cell.ok]
    obtain ⟨x, hx, hD⟩ := plain e ⟨_, rfl⟩
    cases hx
    exact ⟨_, ⟨n, f, rfl, hn⟩, hD⟩

/-- All arguments. -/
theorem open_shps {r : Reach} {b0 : Nat} : ∀ (ss : List Shp) (ts : List TypeId) (vs : List Value) (ds : List (DataW H)) (p : List MemPlace), ss.length = ts.length → (∀ (j : Nat) s t, ss[j]? = some s → ts[j]? = some t → ShpOK P s t) →
    (∀ (j : Nat) t v, ts[j]? = some t → vs[j]? = some v → Value.okWide P w r b0 t v) → DataW.TrodAll enc P w 0 (fun _ => true) held ts vs ds p →
    ∃ xs : List IV, xs.length = vs.length ∧ vs.length = ss.length ∧ (∀ (j : Nat) s x, ss[j]? = some s → xs[j]? = some x → FitV s x) ∧ ∀ (j : Nat) x, xs[j]? = some x → D (fun a => w.cell? a) x (vs.getD j undef)
  | [], [], vs, ds, p, _, _, _, h => by
    cases vs <;> cases ds <;> simp [DataW.TrodAll] at h
    exact ⟨[], rfl, rfl, fun j s x h => by simp at h, fun j x h => by simp at h⟩
  | [], _ :: _, _, _, _, hl, _, _, _ => by simp at hl
  | _ :: _, [], _, _, _, hl, _, _, _ => by simp at hl
  | s :: ss, t :: ts, vs, ds, p, hl, hs, hv, h => by
    obtain ⟨v, vs', d, ds', p1, p2, rfl, rfl, rfl, h1, h2⟩ := Go.ChangeShapes.trodAll_cons h
    obtain ⟨x, g1, g2⟩ := open_shp s t (hs 0 s t rfl rfl) (hv 0 t v rfl rfl) h1
    obtain ⟨xs, k0, k1, k2, k3⟩ := open_shps ss ts vs' ds' p2 (by simpa using hl) (fun j s t a b => hs (j + 1) s t (by simpa using a) (by simpa using b)) (fun j t v a b => hv (j + 1) t v (by simpa using a) (by simpa using b)) h2
    refine ⟨x :: xs, by simp [k0], by simp [k1], fun j s' x' a b => ?_, fun j x' b => ?_⟩
    · cases j with
      | zero => simp at a b; subst a b; exact g1
      | succ j => exact k2 j s' x' (by simpa using a) (by simpa using b)
    · cases j with
      | zero => simp at b; subst b; simpa using g2
      | succ j => simpa using k3 j x' (by simpa using b)

theorem trodAll_len : ∀ (ts : List TypeId) (vs : List Value) (ds : List (DataW H)) (p : List MemPlace) {spare : Nat → Bool}, DataW.TrodAll enc P w base spare held ts vs ds p → ds.length = ts.length
  | [], vs, ds, p, _, h => by
    cases vs <;> cases ds <;> simp [DataW.TrodAll] at h
    rfl
  | t :: ts, vs, ds, p, _, h => by
    obtain ⟨v, vs', d, ds', p1, p2, rfl, rfl, rfl, h1, h2⟩ := Go.ChangeShapes.trodAll_cons h
    simp [trodAll_len ts vs' ds' p2 h2]

/-- What the call did not touch reads as it did. -/
theorem shut_all (hl : laidOutB P = true) {W W' : World} (hb : Go.RowKit.Below W.heap.size W W') : ∀ (ts : List TypeId) (vs : List Value) (ds : List (DataW H)) (p : List MemPlace), ts.all (fun t => P.readableRec t && Nat.blt t P.types.size) = true →
    DataW.TrodAll enc P W 0 (fun _ => true) true ts vs ds p → DataW.TrodAll enc P W' 0 (fun b => decide (b < W.heap.size)) true ts vs ds p
  | [], vs, ds, p, _, h => by
    cases vs <;> cases ds <;> simp [DataW.TrodAll] at h ⊢
    exact h
  | t :: ts, vs, ds, p, ht, h => by
    obtain ⟨v, vs', d, ds', p1, p2, rfl, rfl, rfl, h1, h2⟩ := Go.ChangeShapes.trodAll_cons h
    simp only [List.all_cons, Bool.and_eq_true] at ht
    have lt : ∀ x ∈ p1, x.block < W.heap.size := by
      obtain ⟨m, hm⟩ := h1; exact DataW.trod_lt m _ _ _ hm
    exact ⟨_, _, (Go.RowKit.Below.trod hl ht.1.1 (blt_lt ht.1.2) h1 hb lt), shut_all hl hb ts vs' ds' p2 ht.2 h2, rfl⟩
end

/-- A contract, in the words of a claim. -/
theorem Comp.runG {P : Program} {gl : Nat → IV} {g : Nat} {args : List IV} {r : IV} {up' : List Ces} (h : Comp P gl g [] args r up') {vals : Array Value} {W : World} (hg : ∀ g, D (fun a => W.cell? a) (gl g) (.pointer (some ⟨g, 0, none⟩))) (hz : Gsz gl W) (hl : args.length = vals.size)
    (ha : ∀ (j : Nat) x, args[j]? = some x → D (fun a => W.cell? a) x (vals.getD j undef)) :
    Calls P g vals W fun e W' => ∃ v, e = .returned v ∧ (∃ I s, V I (under fun _ _ => none) s r v) ∧ Go.RowKit.Below W.heap.size W W' := by
  have hm : MemR gl [] W (fun a => W.cell? a) (fun b => b < W.heap.size) (fun _ _ => none) (fun _ => noSig) := by
    refine ⟨fun l d c hc => ?_, fun l d l' d' b h1 => (by cases h1), fun l d b h1 => (by cases h1), fun a v h => h, hg, fun b h => h, hz⟩
    simp [upC, lookC] at hc
  refine (h.2 vals W (fun a => W.cell? a) (fun b => b < W.heap.size) (fun _ _ => none) (fun _ => noSig) hm hl (fun j x hx => .data (ha j x hx))).mono fun e W' hh => ?_
  obtain ⟨v, I', s, e1, e2, _, _, e5⟩ := hh
  exact ⟨v, e1, ⟨I', s, e2⟩, ⟨e5.os, e5.tape, e5.output, e5.size, fun k hk => e5.keep k hk⟩⟩

theorem Comp.run {P : Program} {g : Nat} {args : List IV} {r : IV} {up' : List Ces} (h : Comp P (fun _ => .dead) g [] args r up') {vals : Array Value} {W : World} (hl : args.length = vals.size)
    (ha : ∀ (j : Nat) x, args[j]? = some x → D (fun a => W.cell? a) x (vals.getD j undef)) :
    Calls P g vals W fun e W' => ∃ v, e = .returned v ∧ (∃ I s, V I (under fun _ _ => none) s r v) ∧ Go.RowKit.Below W.heap.size W W' := h.runG (fun _ => .dead _) (fun _ _ _ _ _ _ h => by cases h) hl ha

/-! ### Tables of numbers: what a datum says of the cells -/
mutual
def flatD {H : Type} : DataW H → List Value
  | .lit (.int k n) => [.int k n]
  | .lit (.string bs) => [.string ⟨bs.toArray⟩]
  | .agg parts => flatDs parts
  | _ => []
def flatDs {H : Type} : List (DataW H) → List Value
  | [] => []
  | d :: r => flatD d ++ flatDs r
end
mutual
def flatS : Shp → Bool
  | .int _ => true
  | .str => true
  | .agg l => flatSs l
  | _ => false
def flatSs : List (Nat × Shp) → Bool
  | [] => true
  | (_, s) :: r => flatS s && flatSs r
end

section
variable {H : Type} {enc : TypeId × Value → H} {P : Program} {w : World} {held : Bool} {spare : Nat → Bool}

theorem shps_len : ∀ (l : List (Nat × Shp)) (off : Nat) (ts : List (Nat × TypeId)), ShpOKs P l off ts → ts.length = l.length
  | [], off, [], h => rfl
  | [], off, _ :: _, h => by simp [ShpOKs] at h
  | (sz, s) :: l, off, [], h => by simp [ShpOKs] at h
  | (sz, s) :: l, off, (o, u) :: r, h => by
    simp only [ShpOKs] at h
    simp [shps_len l _ r h.2.2.2]

mutual
theorem flat_of_trod : ∀ (s : Shp) (t : TypeId), ShpOK P s t → flatS s = true → ∀ (fuel : Nat) (cs : List Value) (x : DataW H × List MemPlace), DataW.trod enc P w 0 spare held fuel t cs = some x → flatD x.1 = cs
  | .int k, t, ht, _, fuel, cs, x, h => by
    simp only [ShpOK] at ht
    obtain ⟨n, rfl, rfl, hw⟩ := DataW.trod_int ht h
    rfl
  | .bool, t, ht, hf, fuel, cs, x, h => by simp [flatS] at hf
  | .str, t, ht, hf, fuel, cs, x, h => by
    simp only [ShpOK] at ht
    obtain ⟨s, rfl, rfl, hs⟩ := DataW.trod_string ht h
    simp [flatD]
  | .slice e s, t, ht, hf, fuel, cs, x, h => by simp [flatS] at hf
  | .agg l, t, ht, hf, fuel, cs, x, h => by
    simp only [ShpOK] at ht
    simp only [flatS] at hf
    obtain ⟨hsz, ⟨fs, hu, hfs⟩ | ⟨n, e, hu, hfs⟩⟩ := ht
    · obtain ⟨ys, n, _, rfl, hcl, hyl, hy⟩ := DataW.trod_struct hu h
      have hlen := shps_len l 0 _ hfs
      simp only [List.length_map, Array.length_toList] at hlen
      have := flats_of_trod l 0 _ hfs hf n cs ys (fun i o u hi => by
        simp only [List.getElem?_map, Option.map_eq_some_iff] at hi
        obtain ⟨f, hf, e⟩ := hi
        simp only [Prod.mk.injEq] at e
        obtain ⟨rfl, rfl⟩ := e
        exact hy i f (by simpa using hf)) (by simp [hyl]) (by omega)
      simpa [flatD] using this
    · obtain ⟨ys, m, _, rfl, hcl, hyl, hy⟩ := DataW.trod_array hu h
      have := flats_of_trod l 0 _ hfs hf m cs ys (fun i o u hi => by
        simp only [List.getElem?_map, Option.map_eq_some_iff] at hi
        obtain ⟨f, hf, e⟩ := hi
        simp only [Prod.mk.injEq] at e
        obtain ⟨rfl, rfl⟩ := e
        obtain ⟨hlt, rfl⟩ := List.getElem?_eq_some_iff.1 hf
        simp at hlt ⊢
        exact hy i hlt) (by simp [hyl]) (by omega)
      simpa [flatD] using this
theorem flats_of_trod : ∀ (l : List (Nat × Shp)) (off : Nat) (ts : List (Nat × TypeId)), ShpOKs P l off ts → flatSs l = true → ∀ (fuel : Nat) (cs : List Value) (xs : List (DataW H × List MemPlace)),
    (∀ (i : Nat) o u, ts[i]? = some (o, u) → DataW.trod enc P w 0 spare held fuel u ((cs.drop o).take (P.cellsOf u)) = xs[i]?) → xs.length = ts.length → cs.length = off + total l → flatDs (xs.map (·.1)) = cs.drop off
  | [], off, ts, h, _, fuel, cs, xs, hx, hxl, hl => by
    have h0 := shps_len [] off ts h
    have : xs = [] := by simpa using hxl.trans h0
    subst this
    simp [total] at hl
    simp [flatDs, hl]
  | (sz, s) :: l, off, [], h, _, fuel, cs, xs, hx, hxl, hl => by simp [ShpOKs] at h
  | (sz, s) :: l, off, (o, u) :: r, h, hf, fuel, cs, xs, hx, hxl, hl => by
    simp only [ShpOKs] at h
    obtain ⟨rfl, rfl, h3, h4⟩ := h
    simp only [total] at hl
    simp only [flatSs, Bool.and_eq_true] at hf
    cases xs with
    | nil => simp at hxl
    | cons y ys =>
      have hy := hx 0 o u rfl
      have k1 := flat_of_trod s u h3 hf.1 fuel _ y hy
      have k2 := flats_of_trod l (o + P.cellsOf u) r h4 hf.2 fuel cs ys (fun i o' u' hi => by have := hx (i + 1) o' u' (by simpa using hi); simpa using this) (by simpa using hxl) (by omega)
      simp only [List.map_cons, flatDs, k1, k2]
      rw [← List.drop_drop, List.take_append_drop]
end
end

end Go.Proofs.YtkdlegfakefjgaaGreatDoor.Ix

/-
  Ix32: a contract of the library, told of the memory below the heap's end, as a contract here; a table among the variables.
-/
namespace Go.Proofs.YtkdlegfakefjgaaGreatDoor.Ix
set_option linter.unusedVariables false

theorem Below_cells {w w' : World} (h : Go.RowKit.Below w.heap.size w w') {k : Nat} {o : Obj} (hk : w.heap[k]? = some o) : w'.heap[k]? = some o := by
  rw [h.block k (heap_lt hk)]; exact hk

theorem MemR.below {gl : Nat → IV} {cs : List Ces} {w w' : World} {I : Imm} {X : Nat → Prop} {β : Beta} {σ : Nat → Sig} (m : MemR gl cs w I X β σ) (h : Go.RowKit.Below w.heap.size w w') : MemR gl cs w' I X β σ := by
  refine ⟨fun l d c hc => ?_, m.inj, m.keys, fun x v hx => ?_, m.glo, fun b hb => Nat.lt_of_lt_of_le (m.xb b hb) h.size, m.gz.of fun g arr el mm hg => ⟨arr, el, mm, Below_cells h hg, rfl⟩⟩
  · obtain ⟨b, arr, el, h1, h2, h3⟩ := m.cell l d c hc
    exact ⟨b, arr, el, h1, Below_cells h h2, h3⟩
  · have h1 := m.im x v hx
    rw [World.cell?_of_block (h.block x.block (World.block_lt_of_cell? w _ h1))]; exact h1

theorem comp_of_below {P : Program} {gl : Nat → IV} {g : Nat} {up : List Ces} {args : List IV} {r : IV} {fn : Func} {c : Code} (hf : P.funcs[g]? = some fn) (hb : fn.body = some c) (hn : (fn.name == "runtime.NumGoroutine") = false)
    (h : ∀ (vals : Array Value) (w : World) (I : Imm) (X : Nat → Prop) (β : Beta) (σ : Nat → Sig), MemR gl up w I X β σ → args.length = vals.size →
      (∀ (j : Nat) x, args[j]? = some x → V I (under β) noSig x (vals.getD j undef)) → Calls P g vals w fun e w' => ∃ v, e = .returned v ∧ D I r v ∧ Go.RowKit.Below w.heap.size w w') : Comp P gl g up args r up := by
  refine ⟨⟨fn, c, hf, hb, hn⟩, fun vals w I X β σ m hl ha => (h vals w I X β σ m hl ha).mono ?_⟩
  rintro e w' ⟨v, he, hd, bel⟩
  exact ⟨v, I, noSig, he, .data hd, ⟨fun t g h => (by cases h), fun t t' g g' h => (by cases h)⟩, m.below bel,
    ⟨bel.os, bel.tape, bel.output, bel.size, fun b hb => bel.block b (m.xb b hb), fun _ _ h => h, fun _ _ => rfl, fun k o hk _ => Below_cells bel hk⟩⟩

theorem noSig_str {I : Imm} {β : Beta} {s : ByteArray} {v : Value} (h : V I β noSig (.str s) v) : v = .string s := by
  cases h with
  | data h => cases h; rfl

theorem noSig_int {I : Imm} {β : Beta} {k : IntKind} {n : Int} {v : Value} (h : V I β noSig (.int k n) v) : v = .int k n := by
  cases h with
  | data h => cases h; rfl

/-- A list of strings that came in. -/
theorem noSig_strs {I : Imm} {β : Beta} {n : Nat} {f : Nat → List IV} (s : Nat → ByteArray) (hf : ∀ i, i < n → f i = [.str (s i)]) {v : Value} (h : V I β noSig (.lst none 1 n f) v) :
    (n = 0 ∧ ∃ p, v = .slice p 0 0) ∨ ∃ b o c, v = .slice (some ⟨b, o, none⟩) n c ∧ n ≤ c ∧ ∀ i, i < n → I ⟨b, o + i, none⟩ = some (.string (s i)) := by
  cases h with
  | data h =>
    cases h with
    | lstN e f => exact .inl ⟨rfl, _, rfl⟩
    | lst e n f b off c g hc hl hI h1 h =>
      refine .inr ⟨b, off, c, rfl, hc, fun i hi => ?_⟩
      have hd := h i 0 _ hi (by rw [hf i hi]; rfl)
      have hs : g i 0 = .string (s i) := by generalize g i 0 = u at hd; cases hd; rfl
      have := hI i 0 hi (by decide)
      rw [hs] at this
      simpa using this

/-- A variable that is told as a row of integers is that table. -/
theorem tab_of {P : Program} {gl : Nat → IV} {cs : List Ces} {w : World} {I : Imm} {X : Nat → Prop} {β : Beta} {σ : Nat → Sig} (m : MemR gl cs w I X β σ) {name : String} {g : Nat} {k : IntKind} {zs : List Int} (hg : P.globalNamed name = some g)
    (h : gl g = .vptr zs.length 1 (fun _ => zs.map fun z => .int k z) 0 0) (hz : 0 < zs.length) : Go.Lib.TabIs P w name k zs := by
  obtain ⟨arr, el, mm, h1, h2⟩ := m.gz g _ _ _ _ _ h (by decide) hz
  have hd := m.glo g
  rw [h] at hd
  generalize hv : Value.pointer (some ⟨g, 0, none⟩) = v at hd
  cases hd with
  | vptr e n f i j b off gg hi hl hI h1' hD =>
    simp at hv
    obtain ⟨rfl, hoff⟩ := hv
    subst hoff
    unfold Go.Lib.TabIs World.var?
    rw [hg]
    simp only [Option.bind_some, h1]
    congr 1
    apply Array.ext
    · simp [h2]
    · intro j hj hj'
      have hj2 : j < zs.length := by simpa using hj'
      have hx := m.im _ _ (hI 0 j (by decide) hj2)
      have hd := hD 0 j (.int k zs[j]) (by decide) (by simp [hj2])
      have hs : gg 0 j = .int k zs[j] := by generalize gg 0 j = u at hd; cases hd; rfl
      rw [hs] at hx
      simp [World.cell?, h1] at hx
      rw [Array.getElem?_eq_getElem hj] at hx
      simpa using hx
end Go.Proofs.YtkdlegfakefjgaaGreatDoor.Ix

/- The shelf's contracts at this seat, laid in plain words. Written by shelf.py. -/
namespace Go.Proofs.YtkdlegfakefjgaaGreatDoor.Ix
open Go.Proofs Go.Shelf
def laysItoa_ren : Go.Shelf.Ren := ⟨fun | 171 => 108 | 243 => 133 | 246 => 150 | 283 => 157 | 284 => 158 | 285 => 159 | 286 => 160 | 129 => 167 | 317 => 166 | 318 => 168 | 319 => 169 | 320 => 170 | 337 => 175 | 338 => 176 | n => n, fun | 3 => 3 | 9 => 9 | 2 => 2 | 4 => 4 | 171 => 223 | 0 => 0 | 53 => 224 | 37 => 63 | 5 => 5 | 173 => 227 | 212 => 233 | 51 => 234 | 20 => 20 | 213 => 235 | 46 => 213 | 232 => 241 | 233 => 242 | n => n, fun | 17 => 1 | 18 => 3 | 19 => 4 | n => n⟩
theorem laysItoa : Go.Proofs.LaysM.n171 Tryz.prog laysItoa_ren := {
  mixed := by kernel_rfl
  f129 := Tryz.func167.trans (congrArg some (by kernel_rfl))
  f171 := Tryz.func108.trans (congrArg some (by kernel_rfl))
  f243 := Tryz.func133.trans (congrArg some (by kernel_rfl))
  f246 := Tryz.func150.trans (congrArg some (by kernel_rfl))
  f283 := Tryz.func157.trans (congrArg some (by kernel_rfl))
  f284 := Tryz.func158.trans (congrArg some (by kernel_rfl))
  f285 := Tryz.func159.trans (congrArg some (by kernel_rfl))
  f286 := Tryz.func160.trans (congrArg some (by kernel_rfl))
  f317 := Tryz.func166.trans (congrArg some (by kernel_rfl))
  f318 := Tryz.func168.trans (congrArg some (by kernel_rfl))
  f319 := Tryz.func169.trans (congrArg some (by kernel_rfl))
  f320 := Tryz.func170.trans (congrArg some (by kernel_rfl))
  f337 := Tryz.func175.trans (congrArg some (by kernel_rfl))
  f338 := Tryz.func176.trans (congrArg some (by kernel_rfl))
  t0 := Tryz.underlying0
  a0 := Tryz.isAgg0
  z0 := Tryz.sizeOf0
  v0 := Tryz.zeroValue0
  t2 := Tryz.underlying2
  a2 := Tryz.isAgg2
  z2 := Tryz.sizeOf2
  v2 := Tryz.zeroValue2
  t3 := Tryz.underlying3
  a3 := Tryz.isAgg3
  z3 := Tryz.sizeOf3
  v3 := Tryz.zeroValue3
  t4 := Tryz.underlying4
  a4 := Tryz.isAgg4
  z4 := Tryz.sizeOf4
  v4 := Tryz.zeroValue4
  t5 := Tryz.underlying5
  a5 := Tryz.isAgg5
  z5 := Tryz.sizeOf5
  v5 := Tryz.zeroValue5
  t9 := Tryz.underlying9
  a9 := Tryz.isAgg9
  z9 := Tryz.sizeOf9
  v9 := Tryz.zeroValue9
  t20 := Tryz.underlying20
  a20 := Tryz.isAgg20
  z20 := Tryz.sizeOf20
  v20 := Tryz.zeroValue20
  t37 := Tryz.underlying63
  a37 := Tryz.isAgg63
  z37 := Tryz.sizeOf63
  v37 := Tryz.zeroValue63
  t46 := Tryz.underlying213
  a46 := Tryz.isAgg213
  z46 := Tryz.sizeOf213
  v46 := Tryz.zeroValue213
  t51 := Tryz.underlying234
  a51 := Tryz.isAgg234
  z51 := Tryz.sizeOf234
  v51 := Tryz.zeroValue234
  t53 := Tryz.underlying224
  a53 := Tryz.isAgg224
  z53 := Tryz.sizeOf224
  v53 := Tryz.zeroValue224
  t171 := Tryz.underlying223
  a171 := Tryz.isAgg223
  z171 := Tryz.sizeOf223
  v171 := Tryz.zeroValue223
  t173 := Tryz.underlying227
  a173 := Tryz.isAgg227
  z173 := Tryz.sizeOf227
  v173 := Tryz.zeroValue227
  t212 := Tryz.underlying233
  a212 := Tryz.isAgg233
  z212 := Tryz.sizeOf233
  v212 := Tryz.zeroValue233
  t213 := Tryz.underlying235
  a213 := Tryz.isAgg235
  z213 := Tryz.sizeOf235
  t232 := Tryz.underlying241
  a232 := Tryz.isAgg241
  z232 := Tryz.sizeOf241
  v232 := Tryz.zeroValue241
  t233 := Tryz.underlying242
  a233 := Tryz.isAgg242
  z233 := Tryz.sizeOf242
  v233 := Tryz.zeroValue242
  g17 := by kernel_rfl
  g18 := by kernel_rfl
  g19 := by kernel_rfl
  i0 := by kernel_rfl
  i2 := by kernel_rfl
  i3 := by kernel_rfl
  i4 := by kernel_rfl
  i5 := by kernel_rfl
  i9 := by kernel_rfl
  i20 := by kernel_rfl
  i37 := by kernel_rfl
  i46 := by kernel_rfl
  i51 := by kernel_rfl
  i53 := by kernel_rfl
  i171 := by kernel_rfl
  i173 := by kernel_rfl
  i212 := by kernel_rfl
  i232 := by kernel_rfl
  i233 := by kernel_rfl
  m17 := by kernel_rfl
  m18 := by kernel_rfl
  m19 := by kernel_rfl }

def laysJoin_ren : Go.Shelf.Ren := ⟨fun | 156 => 110 | 165 => 135 | 166 => 109 | 169 => 111 | 240 => 134 | 241 => 152 | 276 => 151 | 277 => 161 | n => n, fun | 31 => 86 | 9 => 9 | 3 => 3 | 4 => 4 | 0 => 0 | 20 => 20 | 72 => 168 | 76 => 173 | 70 => 166 | 37 => 63 | 75 => 172 | 127 => 206 | 164 => 219 | 5 => 5 | 80 => 176 | n => n, fun | n => n⟩
theorem laysJoin : Go.Proofs.Lays.n156 Tryz.prog laysJoin_ren := {
  mixed := by kernel_rfl
  f156 := Tryz.func110.trans (congrArg some (by kernel_rfl))
  f165 := Tryz.func135.trans (congrArg some (by kernel_rfl))
  f166 := Tryz.func109.trans (congrArg some (by kernel_rfl))
  f169 := Tryz.func111.trans (congrArg some (by kernel_rfl))
  f240 := Tryz.func134.trans (congrArg some (by kernel_rfl))
  f241 := Tryz.func152.trans (congrArg some (by kernel_rfl))
  f276 := Tryz.func151.trans (congrArg some (by kernel_rfl))
  f277 := Tryz.func161.trans (congrArg some (by kernel_rfl))
  t0 := Tryz.underlying0
  a0 := Tryz.isAgg0
  z0 := Tryz.sizeOf0
  v0 := Tryz.zeroValue0
  t3 := Tryz.underlying3
  a3 := Tryz.isAgg3
  z3 := Tryz.sizeOf3
  v3 := Tryz.zeroValue3
  t4 := Tryz.underlying4
  a4 := Tryz.isAgg4
  z4 := Tryz.sizeOf4
  v4 := Tryz.zeroValue4
  t9 := Tryz.underlying9
  a9 := Tryz.isAgg9
  z9 := Tryz.sizeOf9
  v9 := Tryz.zeroValue9
  t20 := Tryz.underlying20
  a20 := Tryz.isAgg20
  z20 := Tryz.sizeOf20
  v20 := Tryz.zeroValue20
  t31 := Tryz.underlying86
  a31 := Tryz.isAgg86
  z31 := Tryz.sizeOf86
  v31 := Tryz.zeroValue86
  t37 := Tryz.underlying63
  a37 := Tryz.isAgg63
  z37 := Tryz.sizeOf63
  v37 := Tryz.zeroValue63
  t70 := Tryz.underlying166
  a70 := Tryz.isAgg166
  z70 := Tryz.sizeOf166
  v70 := Tryz.zeroValue166
  t72 := Tryz.underlying168
  a72 := Tryz.isAgg168
  z72 := Tryz.sizeOf168
  v72 := Tryz.zeroValue168
  t75 := Tryz.underlying172
  a75 := Tryz.isAgg172
  z75 := Tryz.sizeOf172
  v75 := Tryz.zeroValue172
  t76 := Tryz.underlying173
  a76 := Tryz.isAgg173
  z76 := Tryz.sizeOf173
  v76 := Tryz.zeroValue173
  t127 := Tryz.underlying206
  a127 := Tryz.isAgg206
  z127 := Tryz.sizeOf206
  v127 := Tryz.zeroValue206
  t164 := Tryz.underlying219
  a164 := Tryz.isAgg219
  z164 := Tryz.sizeOf219
  v164 := Tryz.zeroValue219 }

theorem extraJoin : Builder.Extra Tryz.prog laysJoin_ren := {
  sizeBuilder := by kernel_rfl
  liesBuilder := by kernel_rfl
  t5 := Tryz.underlying5
  a5 := Tryz.isAgg5
  z5 := Tryz.sizeOf5
  v5 := Tryz.zeroValue5
  infoByte := by kernel_rfl
  cellsByte := by kernel_rfl
  sizeByte := by kernel_rfl
  neB5 := by decide }
end Go.Proofs.YtkdlegfakefjgaaGreatDoor.Ix

/-
  Cs1: texts at the seats of the package control: numerals and joined strings out of the library, the errors of acts by themselves.
-/
namespace Go.Proofs.YtkdlegfakefjgaaGreatDoor.Ix
open Go.Proofs
set_option maxRecDepth 100000
set_option linter.unusedVariables false
set_option linter.unusedSimpArgs false
variable {gl : Nat → IV}

/-- The table of the powers of ten, as it lies. -/
noncomputable abbrev powI : IV := .vptr Go.Lib.pow10Tab.length 1 (fun _ => Go.Lib.pow10Tab.map fun z => .int .u64 z) 0 0
theorem gPow : prog.globalNamed "internal/strconv.uint64pow10" = some g_internal_strconv_uint64pow10 := by kernel_rfl

theorem one_arg {vals : Array Value} (h : 1 = vals.size) : ∃ v, vals = #[v] := by
  rcases vals with ⟨l⟩
  match l, h with
  | [v], _ => exact ⟨v, rfl⟩
theorem two_args {vals : Array Value} (h : 2 = vals.size) : ∃ v u, vals = #[v, u] := by
  rcases vals with ⟨l⟩
  match l, h with
  | [v, u], _ => exact ⟨v, u, rfl⟩

theorem c_Itoa (up : List Ces) (hg : gl g_internal_strconv_uint64pow10 = powI) (n : Int) (hn : i64 n) : Cs gl n_strconv_Itoa up [.int .i64 n] (.str (bytesS (Go.Lib.itoa n))) up := by
  refine comp_of_below h_strconv_Itoa rfl rfl fun vals w I X β σ m hl ha => ?_
  obtain ⟨v, rfl⟩ := one_arg hl
  have hv := noSig_int (ha 0 _ rfl)
  have hv : v = .int .i64 n := hv
  subst hv
  refine (Any.strconv_Itoa laysItoa n hn.1 hn.2 w (tab_of m gPow hg (by rw [Go.Lib.pow10Tab_length]; decide))).mono ?_
  rintro e w' ⟨rfl, k, os, rfl⟩
  refine ⟨_, rfl, .str _, rfl, rfl, rfl, by simp [Go.Sort.grow, World.drewN], fun k hk => ?_⟩
  simp only [Go.Sort.grow, World.drewN]
  rw [Array.getElem?_append_left hk]

theorem c_Join (up : List Ces) (n : Nat) (f : Nat → List IV) (s : Nat → List UInt8) (sep : List UInt8) (hf : ∀ i, i < n → f i = [.str (bytesS (s i))]) (hn : n ≤ 1000000) (hl : (Go.Lib.join ((List.range n).map s) sep).length ≤ 140737488355328) :
    Cs gl n_strings_Join up [.lst none 1 n f, .str (bytesS sep)] (.str (bytesS (Go.Lib.join ((List.range n).map s) sep))) up := by
  refine comp_of_below h_strings_Join rfl rfl fun vals w I X β σ m hlen ha => ?_
  obtain ⟨v, u, rfl⟩ := two_args hlen
  have hu : u = .string (bytesS sep) := noSig_str (ha 1 _ rfl)
  subst hu
  rcases noSig_strs (fun i => bytesS (s i)) hf (ha 0 _ rfl) with ⟨rfl, p, hv⟩ | ⟨b, o, c, hv, hc, hI⟩
  · have hv : v = .slice p 0 0 := hv
    subst hv
    refine (Any.strings_Join_none laysJoin extraJoin p 0 (bytesS sep) w).mono ?_
    rintro e w' ⟨rfl, rfl⟩
    exact ⟨_, rfl, .str _, Go.RowKit.Below.refl _ _⟩
  · have hv : v = .slice (some ⟨b, o, none⟩) n c := hv
    subst hv
    by_cases h0 : n = 0
    · subst h0
      refine (Any.strings_Join_none laysJoin extraJoin (some ⟨b, o, none⟩) c (bytesS sep) w).mono ?_
      rintro e w' ⟨rfl, rfl⟩
      exact ⟨_, rfl, .str _, Go.RowKit.Below.refl _ _⟩
    · have hcell : ∀ (j : Nat) x, ((List.range n).map fun i => bytesS (s i))[j]? = some x → w.cell? ⟨b, o + j, none⟩ = some (.string x) := fun j x hx => by
        rw [List.getElem?_map] at hx
        by_cases hj : j < n
        · rw [List.getElem?_range hj] at hx
          cases hx
          exact m.im _ _ (hI j hj)
        · rw [List.getElem?_eq_none (by simp; omega)] at hx; cases hx
      have e : ((List.range n).map fun i => bytesS (s i)).map (fun x => x.data.toList) = (List.range n).map s := by
        rw [List.map_map]
        exact List.map_congr_left fun i _ => bytesS_data (s i)
      have hb : b < w.heap.size := World.block_lt_of_cell? w _ (m.im _ _ (hI 0 (by omega)))
      have hJ := Any.strings_Join laysJoin extraJoin b o c ((List.range n).map fun i => bytesS (s i)) (bytesS sep) w hcell hb (by simp; omega) (by simpa using hc) (by rw [e, bytesS_data]; exact hl)
      rw [e, bytesS_data] at hJ
      have hsz : ((List.range n).map fun i => bytesS (s i)).length = n := by simp
      rw [hsz] at hJ
      refine hJ.mono ?_
      rintro e w' ⟨rfl, bel⟩
      exact ⟨_, rfl, .str _, bel⟩

theorem c_mappedS (up : List Ces) (n : Nat) (hn : n ≤ 1000000) (f : Nat → Int) (φ : Nat → ByteArray) (k : Nat) (hk : ∀ up i, i < n → Cs gl k up [.int .i64 (f i)] (.str (φ i)) up) :
    Cs gl n_control_mapped_int_string up [.lst none 1 n fun i => [.int .i64 (f i)], .fn k [] []] (.lst (some 19) 1 n fun i => [.str (φ i)]) up := by
  refine mk h_control_mapped_int_string rfl rfl ?_
  conv => whnf
  refine .mk (α := {i : Nat // i ≤ n}) (fun i => ⟨[(10, .int .i64 i.1), (9, .int .i64 n), (8, .lst none 1 n fun i => [.int .i64 (f i)]), (5, .lst (some 19) 1 i.1 fun i => [.str (φ i)]), (1, .fn k [] [])], [], up⟩) (fun i => n - i.1) ⟨0, Nat.zero_le _⟩ ⟨?_, trivial, rfl, rfl⟩ ?_
  · exact ⟨leV_refl _, leV_refl _, leV_refl _, rfl, leV_refl _, trivial⟩
  · rintro ⟨i, hi⟩
    conv => whnf
    split
    · rename_i hb
      have hlt : i < n := by simpa using hb
      conv => whnf
      split
      · conv => whnf
        refine .mk _ _ _ _ _ (leL_refl _) (hk _ i hlt) rfl ?_
        conv => whnf
        split
        · conv => whnf
          refine ⟨⟨i + 1, hlt⟩, ⟨?_, trivial, rfl, rfl⟩, ?_⟩
          · have hw : IntKind.i64.wrap ((i : Int) + 1) = ((i + 1 : Nat) : Int) := by
              rw [wrap_in] <;> omega
            refine ⟨leV_int hw, leV_refl _, leV_refl _, ⟨.inr rfl, rfl, rfl, fun j hj => ?_⟩, leV_refl _, trivial⟩
            show (if j < i then [IV.str (φ j)] else litF 1 [.str (φ i)] (j - i)) = [IV.str (φ j)]
            split
            · rfl
            · have : j = i := by have : j < i + 1 := hj; omega
              subst this; rw [Nat.sub_self]; rfl
          · show n - (i + 1) < n - i
            omega
        · rename_i h2
          have h2' : decide (i + 1 ≤ 1073741824) = false := h2
          simp at h2'; omega
      · rename_i h2; rw [hb] at h2; cases h2
    · rename_i hb
      have : i = n := by simp at hb; omega
      subst this
      conv => whnf
      exact ⟨rfl, rfl⟩


/-! Acts by themselves. -/
theorem c_printable1 (up : List Ces) (hk : gl g_control_kinds = kindsI) (a : Ac) : Cs gl n_control_printable_1 up [a.iv] (.int .i64 (a.checkE 100 100 100)) up := by
  refine mk h_control_printable_1 rfl rfl ?_
  have h := fun up => c_check (gl := gl) up hk a 100 100 100
  conv => whnf
  repeat first
    | (refine DRAW.seek ?_; repeat (first | refine TRYD.take ?_ | refine TRYD.next ?_); conv => whnf)
    | (refine HOLD.mk (by first | exact trivial | exact ⟨⟨rfl, rfl⟩, trivial⟩ | exact ⟨⟨rfl, rfl⟩, ⟨rfl, rfl⟩, trivial⟩) ?_; (conv => whnf))
    | (refine CALL0.by (h ..) rfl ?_; conv => whnf)
    | (refine CALLQ.mk _ _ _ (leL_refl _) (h ..) rfl ?_; conv => whnf)
  exact ⟨rfl, rfl⟩

theorem c_mappedA (up : List Ces) (hk : gl g_control_kinds = kindsI) (n : Nat) (hn : n ≤ 10000000) (l : Nat → Ac) :
    Cs gl n_control_mapped_control_Act_api_Errno up [.lst none 5 n fun i => (l i).cs, .fn n_control_printable_1 [] []] (.lst (some 19) 1 n fun i => [.int .i64 ((l i).checkE 100 100 100)]) up := by
  refine mk h_control_mapped_control_Act_api_Errno rfl rfl ?_
  let F : Nat → List IV := fun i => [.int .i64 ((l i).checkE 100 100 100)]
  have hp := fun up i => c_printable1 (gl := gl) up hk (l i)
  conv => whnf
  refine .mk (α := {i : Nat // i ≤ n}) (fun i => ⟨[(10, .int .i64 i.1), (9, .int .i64 n), (8, .lst none 5 n fun i => (l i).cs), (5, .lst (some 19) 1 i.1 F), (1, .fn n_control_printable_1 [] [])], [], up⟩) (fun i => n - i.1) ⟨0, Nat.zero_le _⟩ ⟨?_, ?_, rfl, rfl⟩ ?_
  · exact ⟨leV_refl _, leV_refl _, leV_refl _, rfl, leV_refl _, trivial⟩
  · trivial
  rintro ⟨i, hi⟩
  have hw : w64 ((i : Int) + 1) = ((i + 1 : Nat) : Int) := by rw [w64, wrap_in] <;> omega
  by_cases hlt : i < n
  · have q : decide ((i : Int) < n) = true := decide_eq_true (by omega)
    have hp := fun up => hp up i
    conv => whnf
    split
    rotate_left
    · rename_i h
      exact Bool.noConfusion ((q).symm.trans h)
    rename_i hN
    clear hN
    conv => whnf
    split
    rotate_left
    · rename_i h
      exact Bool.noConfusion ((q).symm.trans h)
    rename_i hN
    clear hN
    conv => whnf
    repeat first
      | (refine DRAW.seek ?_; repeat (first | refine TRYD.take ?_ | refine TRYD.next ?_); conv => whnf)
      | (refine HOLD.mk (by first | exact trivial | exact ⟨⟨rfl, rfl⟩, trivial⟩ | exact ⟨⟨rfl, rfl⟩, ⟨rfl, rfl⟩, trivial⟩) ?_; (conv => whnf))
      | (refine CALL0.by (hp ..) rfl ?_; conv => whnf)
      | (refine CALLQ.mk _ _ _ (leL_refl _) (hp ..) rfl ?_; conv => whnf)
    split
    rotate_left
    · rename_i h
      have h' : decide (i + 1 ≤ 1073741824) = false := h
      simp at h' <;> omega
    conv => whnf
    refine ⟨⟨i + 1, hlt⟩, ⟨⟨leV_int hw, leV_refl _, leV_refl _, ⟨.inr rfl, rfl, rfl, fun j hj => ?_⟩, leV_refl _, trivial⟩, trivial, rfl, rfl⟩, (by show n - (i + 1) < n - i; omega)⟩
    show (if j < i then F j else litF 1 (F i) (j - i)) = F j
    split
    · rfl
    · have : j = i := by have : j < i + 1 := hj; omega
      subst this; rw [Nat.sub_self]; rfl
  · have q : decide ((i : Int) < n) = false := decide_eq_false (by omega)
    have e : i = n := by omega
    subst e
    conv => whnf
    split
    · rename_i h
      exact Bool.noConfusion ((q).symm.trans h)
    rename_i hN
    clear hN
    conv => whnf
    exact ⟨rfl, rfl⟩

/-- The error of acts by themselves. -/
def actsE (n : Nat) (l : Nat → Ac) : Int := bif decide ((n : Int) > 1024) then 5 else firstS (fun i => (l i).checkE 100 100 100) n 0

theorem c_printable (up : List Ces) (hk : gl g_control_kinds = kindsI) (n : Nat) (hn : n ≤ 10000000) (l : Nat → Ac) :
    Cs gl n_control_printable up [.lst none 5 n fun i => (l i).cs] (.int .i64 (actsE n l)) up := by
  refine mk h_control_printable rfl rfl ?_
  unfold actsE
  have hm := fun up => c_mappedA (gl := gl) up hk n hn l
  cases q : decide ((n : Int) > 1024) with
  | true =>
    conv => whnf
    split
    rotate_left
    · rename_i h
      exact Bool.noConfusion ((q).symm.trans h)
    rename_i hN
    clear hN
    conv => whnf
    exact ⟨rfl, rfl⟩
  | false =>
    conv => whnf
    split
    · rename_i h
      exact Bool.noConfusion ((q).symm.trans h)
    rename_i hN
    clear hN
    conv => whnf
    repeat first
      | (refine DRAW.seek ?_; repeat (first | refine TRYD.take ?_ | refine TRYD.next ?_); conv => whnf)
      | (refine HOLD.mk (by first | exact trivial | exact ⟨⟨rfl, rfl⟩, trivial⟩ | exact ⟨⟨rfl, rfl⟩, ⟨rfl, rfl⟩, trivial⟩) ?_; (conv => whnf))
      | (refine CALL0.by (hm ..) rfl ?_; conv => whnf)
      | (refine CALLQ.mk _ _ _ (leL_refl _) (hm ..) rfl ?_; conv => whnf)
    refine .mk _ _ _ _ _ ?_ (c_first _ n (by omega) fun i => (l i).checkE 100 100 100) rfl ?_
    · exact ⟨⟨.inl rfl, rfl, rfl, fun _ _ => rfl⟩, trivial⟩
    conv => whnf
    exact ⟨rfl, rfl⟩

/-! The text of an act. -/
def Ac.blade (a : Ac) : List UInt8 := bif a.stuck != -1 then Go.Lib.itoa a.stuck else [45]
def Ac.line (a : Ac) : List UInt8 := a.kind.data.toList ++ (32 :: Go.Lib.itoa a.wind ++ (32 :: Go.Lib.itoa a.pitch ++ (32 :: Go.Lib.itoa a.tor ++ (32 :: a.blade ++ [10]))))
def actsS (l : Nat → Ac) : Nat → List UInt8
  | 0 => []
  | k + 1 => actsS l k ++ (l k).line

structure Ac.plainOk (a : Ac) : Prop where
  kind : idxS a.kind kindsL 0 ≥ 0
  wind : 0 ≤ a.wind ∧ a.wind ≤ 100
  pitch : 0 ≤ a.pitch ∧ a.pitch ≤ 100
  tor : 0 ≤ a.tor ∧ a.tor ≤ 100
  stuck : -1 ≤ a.stuck ∧ a.stuck ≤ 2
  formed : a.formB = true

theorem checkE_ok {a : Ac} (h : a.checkE 100 100 100 = 0) : a.plainOk := by
  unfold Ac.checkE at h
  rw [orL_zero] at h
  simp only [List.mem_cons, List.not_mem_nil, or_false, forall_eq_or_imp, forall_eq, withinS_zero] at h
  obtain ⟨a1, a2, a3, a4, a5, a6⟩ := h
  rw [bif_nz (by decide)] at a1 a6
  exact ⟨by simpa using a1, a2, a3, a4, a5, by simpa using a6⟩

theorem actsE_ok {n : Nat} {l : Nat → Ac} (h : actsE n l = 0) : n ≤ 1024 ∧ ∀ i, i < n → (l i).plainOk := by
  unfold actsE at h
  cases q : decide ((n : Int) > 1024) with
  | true => rw [q] at h; cases h
  | false =>
    rw [q, cond_false, firstS_zero] at h
    have := of_decide_eq_false q
    exact ⟨by omega, fun i hi => checkE_ok (h i (Nat.zero_le _) (by omega))⟩

theorem idxS_mem {x : ByteArray} : ∀ {L : List ByteArray} {i : Int}, 0 ≤ i → idxS x L i ≥ 0 → x ∈ L
  | [], i, _, h => by simp [idxS] at h
  | k :: r, i, hi, h => by
    unfold idxS at h
    cases q : eqS x k with
    | true => rw [eqS_iff.1 q]; exact List.mem_cons_self ..
    | false =>
      rw [q, cond_false] at h
      exact List.mem_cons_of_mem _ (idxS_mem (by omega) h)

theorem kind_len {x : ByteArray} (h : idxS x kindsL 0 ≥ 0) : x.data.toList.length ≤ 6 := by
  have := idxS_mem (by decide) h
  unfold kindsL at this
  simp only [List.mem_cons, List.not_mem_nil, or_false] at this
  rcases this with rfl | rfl | rfl | rfl | rfl | rfl <;> decide

theorem line_len {a : Ac} (h : a.plainOk) : a.line.length ≤ 110 := by
  have h1 := kind_len h.kind
  have h2 := Go.Lib.itoa_length_le a.wind (by have := h.wind; omega) (by have := h.wind; omega)
  have h3 := Go.Lib.itoa_length_le a.pitch (by have := h.pitch; omega) (by have := h.pitch; omega)
  have h4 := Go.Lib.itoa_length_le a.tor (by have := h.tor; omega) (by have := h.tor; omega)
  have h5 : a.blade.length ≤ 21 := by
    unfold Ac.blade
    cases (a.stuck != -1)
    · show 1 ≤ 21
      decide
    · exact Go.Lib.itoa_length_le a.stuck (by have := h.stuck; omega) (by have := h.stuck; omega)
  unfold Ac.line
  simp only [List.length_append, List.length_cons, List.length_nil]
  omega

theorem actsS_len {l : Nat → Ac} : ∀ k, (∀ i, i < k → (l i).plainOk) → (actsS l k).length ≤ 110 * k
  | 0, _ => Nat.le_refl _
  | k + 1, h => by
    have h1 := actsS_len k fun i hi => h i (by omega)
    have h2 := line_len (h k (by omega))
    simp only [actsS, List.length_append]
    omega

def Ac.words (a : Ac) : List (List UInt8) := [a.kind.data.toList, Go.Lib.itoa a.wind, Go.Lib.itoa a.pitch, Go.Lib.itoa a.tor, a.blade]
theorem line_eq (a : Ac) : a.line = Go.Lib.join a.words [32] ++ [10] := by
  unfold Ac.line Ac.words
  rw [Go.Lib.join_cons]
  simp [Go.Lib.joinTail]
end Go.Proofs.YtkdlegfakefjgaaGreatDoor.Ix

/-
  Ix38: a piece of code, run in a frame that this interpreter does not see as a whole: what was in memory stays as it was.
-/
namespace Go.Proofs.YtkdlegfakefjgaaGreatDoor.Ix
set_option linter.unusedVariables false

/-- What a piece leaves. -/
def PcT (Q : St → Prop) (a' : Act) : Prop := ∃ (S' : St) (I' : Imm) (β' : Beta) (σ' : Nat → Sig), Q S' ∧ ∀ i, V I' β' (σ' 0) (look S'.tm i) (a'.tmps.getD i undef)
def Pc (nt : Nat) (c : Code) (Q : Ex → St → Prop) (a : Act) (w : World) (e : Exit) (a' : Act) (w' : World) : Prop :=
  (match e with
    | .normal => PcT (Q .normal) a'
    | .ret => PcT (Q .ret) a'
    | .exit id => PcT (Q (.exit id)) a'
    | _ => False) ∧ Go.RowKit.Below w.heap.size w w' ∧ a'.defers = [] ∧ nt ≤ a'.tmps.size ∧ ∀ i, isIn (wrs c) i = false → a'.tmps.getD i undef = a.tmps.getD i undef

theorem piece {Γ : Env} {C : Con} (hm : Γ.P.follows .mixedOrders = true) (hT : TOK Γ.P Γ.T) (hC : HC C Γ) (hds : Γ.ds = some []) {n : Nat} {c : Code} {tm : Tms} {Q : Ex → St → Prop} (hn : noRange c = true) (h : iwp C Γ c Q ⟨tm, [], []⟩)
    {a : Act} {w : World} {I : Imm} (him : ∀ x v, I x = some v → w.cell? x = some v) (hglo : ∀ g, D I (Γ.gl g) (.pointer (some ⟨g, 0, none⟩))) (hgz : Gsz Γ.gl w)
    (htm : ∀ i, V I (fun _ _ => none) noSig (look tm i) (a.tmps.getD i undef)) (hnt : Γ.nt ≤ a.tmps.size) (hd : a.defers = []) :
    c.wpIn (Fw none) n Γ.P (Pc Γ.nt c Q a w) a w := by
  let X : Nat → Prop := fun b => b < w.heap.size
  have r0 : Rel Γ ⟨tm, [], []⟩ a w I X (fun _ _ => none) fun _ => noSig := by
    refine ⟨htm, ⟨by rw [hd]; exact .nil _ _, fun d e => by rw [hds] at e; cases e; exact hd⟩, hnt, ⟨fun l d c hc => ?_, fun l d l' d' b h1 => (by cases h1), fun l d b h1 => (by cases h1), him, hglo, fun b hb => hb, hgz⟩, ⟨fun t g h => (by cases h), fun t t' g g' h => (by cases h)⟩⟩
    cases l with
    | zero => simp [upC, lookC] at hc
    | succ l => simp [upC, lookC] at hc
  refine wpIn_mono (iwp_sound_r hm hT hC none n c Q ⟨tm, [], []⟩ a w I X _ _ (isIn (wrs c)) hn (fun d hd => isIn_iff.2 hd) h r0) fun e a' w' hq => ?_
  have key : ∀ K : St → Prop, AftG Γ (Wn (isIn (wrs c))) K I X w (fun _ _ => none) (fun _ => noSig) a a' w' → PcT K a' ∧ Go.RowKit.Below w.heap.size w w' ∧ a'.defers = [] ∧ Γ.nt ≤ a'.tmps.size ∧ ∀ i, isIn (wrs c) i = false → a'.tmps.getD i undef = a.tmps.getD i undef := by
    rintro K ⟨S', I', X', β', σ', hk, r, _, ⟨he, _⟩, _, hs⟩
    exact ⟨⟨S', I', β', σ', hk, r.tm⟩, ⟨he.os, he.tape, he.output, he.size, fun k hk => he.keep k hk⟩, r.df.e [] hds, r.nt, hs⟩
  cases e with
  | normal => exact key _ hq
  | ret => exact key _ hq
  | exit id => exact key _ hq
  | goto l => exact hq.elim
  | panic c => exact hq.elim
  | outgrown => exact hq.elim

theorem rel_start {Γ : Env} (hds : Γ.ds = some []) {tm : Tms} {a : Act} {w : World} {I : Imm} (him : ∀ x v, I x = some v → w.cell? x = some v) (hglo : ∀ g, D I (Γ.gl g) (.pointer (some ⟨g, 0, none⟩))) (hgz : Gsz Γ.gl w)
    (htm : ∀ i, V I (fun _ _ => none) noSig (look tm i) (a.tmps.getD i undef)) (hnt : Γ.nt ≤ a.tmps.size) (hd : a.defers = []) :
    Rel Γ ⟨tm, [], []⟩ a w I (fun b => b < w.heap.size) (fun _ _ => none) fun _ => noSig := by
  refine ⟨htm, ⟨by rw [hd]; exact .nil _ _, fun d e => by rw [hds] at e; cases e; exact hd⟩, hnt, ⟨fun l d c hc => ?_, fun l d l' d' b h1 => (by cases h1), fun l d b h1 => (by cases h1), him, hglo, fun b hb => hb, hgz⟩, ⟨fun t g h => (by cases h), fun t t' g g' h => (by cases h)⟩⟩
  cases l with
  | zero => simp [upC, lookC] at hc
  | succ l => simp [upC, lookC] at hc

/-- Only a normal end. -/
def nrm (K : St → Prop) : Ex → St → Prop
  | .normal, S => K S
  | _, _ => False

/-- A piece in front of other code. -/
theorem piece_seq {Γ : Env} {C : Con} (hm : Γ.P.follows .mixedOrders = true) (hT : TOK Γ.P Γ.T) (hC : HC C Γ) (hds : Γ.ds = some []) {n : Nat} {c d : Code} {tm : Tms} {K : St → Prop} {R : Exit → Act → World → Prop} (hn : noRange c = true) (h : iwp C Γ c (nrm K) ⟨tm, [], []⟩)
    {a : Act} {w : World} {I : Imm} (him : ∀ x v, I x = some v → w.cell? x = some v) (hglo : ∀ g, D I (Γ.gl g) (.pointer (some ⟨g, 0, none⟩))) (hgz : Gsz Γ.gl w)
    (htm : ∀ i, V I (fun _ _ => none) noSig (look tm i) (a.tmps.getD i undef)) (hnt : Γ.nt ≤ a.tmps.size) (hd : a.defers = [])
    (hk : ∀ a' w', PcT K a' → Go.RowKit.Below w.heap.size w w' → a'.defers = [] → Γ.nt ≤ a'.tmps.size → (∀ i, isIn (wrs c) i = false → a'.tmps.getD i undef = a.tmps.getD i undef) → d.wpIn (Fw none) n Γ.P R a' w') :
    (Code.seq c d).wpIn (Fw none) n Γ.P R a w := by
  refine wpIn_seq (wpIn_mono (piece hm hT hC hds hn h him hglo hgz htm hnt hd) fun e a' w' hq => ?_)
  obtain ⟨h1, h2, h3, h4, h5⟩ := hq
  cases e with
  | normal => exact hk a' w' h1 h2 h3 h4 h5
  | ret => obtain ⟨_, _, _, _, h, _⟩ := h1; exact h.elim
  | exit id => obtain ⟨_, _, _, _, h, _⟩ := h1; exact h.elim
  | goto l => exact h1.elim
  | panic c => exact h1.elim
  | outgrown => exact h1.elim

/-- One after the other: the first operations of a region. -/
theorem ops_part {Γ : Env} {C : Con} (hT : TOK Γ.P Γ.T) (hC : HC C Γ) {n : Nat} {ops : Array Oper} {K : St → Prop} {Q : Exit → Act → World → Prop} {rest : List Nat} {w : World} {I : Imm} {X : Nat → Prop} {a : Act} {wr : Nat → Bool}
    (hF : ∀ a' w' S' I' X' β' σ', K S' → Rel Γ S' a' w' I' X' β' σ' → (Wn wr).E w I X w' I' X' → Same (Wn wr) a a' → wpOpsIn (Fw none) n Γ.P ops Q rest a' w') :
    ∀ (pre : List Oper) (k : Nat), (∀ (j : Nat) o, pre[j]? = some o → ops[k + j]? = some o) → (∀ d ∈ dsts pre, wr d = true) → ∀ (S' : St) (a' : Act) (w' : World) (I' : Imm) (X' : Nat → Prop) (β' : Beta) (σ' : Nat → Sig),
      iops C Γ ops.toList pre K S' → Rel Γ S' a' w' I' X' β' σ' → (Wn wr).E w I X w' I' X' → Same (Wn wr) a a' →
      wpOpsIn (Fw none) n Γ.P ops Q (List.range' k pre.length ++ rest) a' w' := by
  intro pre
  induction pre with
  | nil => exact fun k _ _ S' a' w' I' X' β' σ' h hr he hs => hF a' w' S' I' X' β' σ' h hr he hs
  | cons o pre ih =>
    intro k hk hw S' a' w' I' X' β' σ' h hr he hs
    have h0 : ops[k]? = some o := by have := hk 0 o rfl; simpa using this
    rw [iops_cons] at h
    have hwo : ∀ d, o.dst = some d → wr d = true := fun d hd => hw d (dsts_mem (List.mem_cons_self ..) hd)
    have h1 := iop1_soundG (W := Wn wr) (opOK_n wr hT hC none n) (ops := ops) o hwo h hr trivial Q
    have next : ∀ a2 w2, AftG Γ (Wn wr) (fun S' => iops C Γ ops.toList pre K S') I' X' w' β' σ' a' a2 w2 → wpOpsIn (Fw none) n Γ.P ops Q (List.range' (k + 1) pre.length ++ rest) a2 w2 := by
      rintro a2 w2 ⟨S2, I2, X2, β2, σ2, k1, k2, _, k4, _, k6⟩
      refine ih (k + 1) (fun j x hx => by have := hk (j + 1) x hx; rw [← this]; congr 1; omega) (fun d hd => hw d ?_) S2 a2 w2 I2 X2 β2 σ2 k1 k2 ((Wn wr).trans he k4) (hs.trans k6)
      unfold dsts
      split
      · exact List.mem_cons_of_mem _ hd
      · exact hd
    simp only [List.length_cons, List.range'_succ, List.cons_append, wpOpsIn, h0]
    split
    · rename_i hw
      rw [if_pos hw] at h1
      exact Oper.wpIn_mono next h1
    · rename_i hw
      rw [if_neg hw] at h1
      exact ⟨fun _ _ => trivial, next _ _ h1⟩

/-- Four pieces and a region's operations but the last one. -/
theorem round5 {Γ : Env} {C : Con} (hm : Γ.P.follows .mixedOrders = true) (hT : TOK Γ.P Γ.T) (hC : HC C Γ) (hds : Γ.ds = some []) {n : Nat} {c1 c2 c3 c4 : Code} {id : Nat} {ops : Array Oper} (hops : ops.toList ≠ []) {tm : Tms} {K : St → Prop} {R : Exit → Act → World → Prop}
    (hn1 : noRange c1 = true) (hn2 : noRange c2 = true) (hn3 : noRange c3 = true) (hn4 : noRange c4 = true)
    (h : iwp C Γ c1 (nrm fun S => iwp C Γ c2 (nrm fun S => iwp C Γ c3 (nrm fun S => iwp C Γ c4 (nrm fun S => iops C Γ ops.toList ops.toList.dropLast K S) S) S) S) ⟨tm, [], []⟩)
    {a : Act} {w : World} {I : Imm} (him : ∀ x v, I x = some v → w.cell? x = some v) (hglo : ∀ g, D I (Γ.gl g) (.pointer (some ⟨g, 0, none⟩))) (hgz : Gsz Γ.gl w)
    (htm : ∀ i, V I (fun _ _ => none) noSig (look tm i) (a.tmps.getD i undef)) (hnt : Γ.nt ≤ a.tmps.size) (hd : a.defers = [])
    (hk : ∀ a' w', PcT K a' → Go.RowKit.Below w.heap.size w w' → a'.defers = [] → Γ.nt ≤ a'.tmps.size → (∀ i, isIn (wrs c1 ++ (wrs c2 ++ (wrs c3 ++ (wrs c4 ++ dsts ops.toList.dropLast)))) i = false → a'.tmps.getD i undef = a.tmps.getD i undef) → wpOpsIn (Fw none) n Γ.P ops R [ops.toList.dropLast.length] a' w') :
    (Code.seq c1 (.seq c2 (.seq c3 (.seq c4 (.region id ops false))))).wpIn (Fw none) n Γ.P R a w := by
  obtain ⟨o, hops⟩ : ∃ o, ops.toList = ops.toList.dropLast ++ [o] := ⟨_, (List.dropLast_concat_getLast hops).symm⟩
  generalize hpre : ops.toList.dropLast = pre at *
  have r0 := rel_start hds him hglo hgz htm hnt hd
  let wr : Nat → Bool := isIn (wrs c1 ++ (wrs c2 ++ (wrs c3 ++ (wrs c4 ++ dsts pre))))
  let X : Nat → Prop := fun b => b < w.heap.size
  have one : ∀ {c d : Code} {K : St → Prop} (_ : noRange c = true) (_ : ∀ d ∈ wrs c, wr d = true) {S : St} {a1 : Act} {w1 : World} {I1 : Imm} {X1 : Nat → Prop} {β1 : Beta} {σ1 : Nat → Sig}, iwp C Γ c (nrm K) S → Rel Γ S a1 w1 I1 X1 β1 σ1 → (Wn wr).E w I X w1 I1 X1 → Same (Wn wr) a a1 →
      (∀ a' w' S' I' X' β' σ', K S' → Rel Γ S' a' w' I' X' β' σ' → (Wn wr).E w I X w' I' X' → Same (Wn wr) a a' → d.wpIn (Fw none) n Γ.P R a' w') → (Code.seq c d).wpIn (Fw none) n Γ.P R a1 w1 := by
    intro c d K hn hw S a1 w1 I1 X1 β1 σ1 h hr he hs hk
    refine wpIn_seq (wpIn_mono (iwp_sound_r hm hT hC none n c (nrm K) S a1 w1 I1 X1 β1 σ1 wr hn hw h hr) fun e a' w' hq => ?_)
    cases e with
    | normal =>
      obtain ⟨S', I', X', β', σ', k1, k2, _, k4, _, k6⟩ := hq
      exact hk a' w' S' I' X' β' σ' k1 k2 ((Wn wr).trans he k4) (hs.trans k6)
    | ret => obtain ⟨_, _, _, _, _, h, _⟩ := hq; exact h.elim
    | exit id => obtain ⟨_, _, _, _, _, h, _⟩ := hq; exact h.elim
    | goto l => exact hq.elim
    | panic c => exact hq.elim
    | outgrown => exact hq.elim
  have w1 : ∀ d ∈ wrs c1, wr d = true := fun d hd => isIn_iff.2 (by simp [hd])
  have w2 : ∀ d ∈ wrs c2, wr d = true := fun d hd => isIn_iff.2 (by simp [hd])
  have w3 : ∀ d ∈ wrs c3, wr d = true := fun d hd => isIn_iff.2 (by simp [hd])
  have w4 : ∀ d ∈ wrs c4, wr d = true := fun d hd => isIn_iff.2 (by simp [hd])
  have w5 : ∀ d ∈ dsts pre, wr d = true := fun d hd => isIn_iff.2 (by simp [hd])
  refine one hn1 w1 h r0 ((Wn wr).refl _ _ _) (Same.refl _ _) fun a' w' S' I' X' β' σ' h hr he hs => ?_
  refine one hn2 w2 h hr he hs fun a' w' S' I' X' β' σ' h hr he hs => ?_
  refine one hn3 w3 h hr he hs fun a' w' S' I' X' β' σ' h hr he hs => ?_
  refine one hn4 w4 h hr he hs fun a' w' S' I' X' β' σ' h hr he hs => ?_
  refine wpIn_region ?_
  have hsz : ops.size = pre.length + 1 := by rw [← Array.length_toList, hops]; simp
  have e : List.range ops.size = List.range' 0 pre.length ++ [pre.length] := by
    rw [hsz, List.range_succ, List.range_eq_range']
  rw [e]
  refine ops_part hT hC (w := w) (I := I) (X := X) (a := a) (wr := wr) ?_ pre 0 (fun j x hx => ?_) w5 S' a' w' I' X' β' σ' h hr he hs
  · rintro a' w' S' I' X' β' σ' hk' r ⟨he, _⟩ hs
    exact hk a' w' ⟨S', I', β', σ', hk', r.tm⟩ ⟨he.os, he.tape, he.output, he.size, fun k hk => he.keep k hk⟩ (r.df.e [] hds) r.nt hs
  · rw [Nat.zero_add, ← Array.getElem?_toList, hops, List.getElem?_append_left (by
      rcases Nat.lt_or_ge j pre.length with h | h
      · exact h
      · rw [List.getElem?_eq_none h] at hx; cases hx)]
    exact hx

/-- A builder stays what it is if no block turns. -/
theorem builder_below {T e : TypeId} {B b : Nat} {bs : List Value} {w w' : World} (h : Go.Lib.IsBuilder T e B b bs w) (k : Go.RowKit.Below w.heap.size w w') : Go.Lib.IsBuilder T e B b bs w' := by
  have key : ∀ p, Go.Lib.BuilderAt T e B b p bs w → Go.Lib.BuilderAt T e B b p bs w' := by
    rintro p ⟨hB, v, hb, hown, hne⟩
    refine ⟨hB, v, by rw [k.block b (heap_lt hb)]; exact hb, ?_, hne⟩
    obtain ⟨h1, h2⟩ := hown
    refine ⟨h1, h2.elim .inl ?_⟩
    rintro ⟨g, cap, cur, e1, e2, e3, e4⟩
    exact .inr ⟨g, cap, cur, e1, e2, by rw [k.block g (heap_lt e3)]; exact e3, e4⟩
  exact h.elim (fun x => .inl (key _ x)) fun x => .inr (key _ x)

/-- One operation that hands a value back. -/
theorem op_val {P : Program} {ops : Array Oper} {Q : Exit → Act → World → Prop} {n i : Nat} {rest : List Nat} {o : Oper} {a : Act} {w w2 : World} {v : Value} (h0 : ops[i]? = some o) (hg : o.guard = none) (hd : ∀ c, o.op ≠ .defer c)
    (h : (execOp a.eval o).run P w = .ok (.value v) w2) (hk : wpOpsIn (Fw none) n P ops Q rest (a.put o.dst v) w2) : wpOpsIn (Fw none) n P ops Q (i :: rest) a w := by
  simp only [wpOpsIn, h0]
  rw [if_pos (by simp [Region.wanted, hg])]
  exact wpIn_of_wp hd (wp_val h hk)

/-- A call of a function by its name. -/
theorem op_call {P : Program} {ops : Array Oper} {Q : Exit → Act → World → Prop} {n i : Nat} {rest : List Nat} {o : Oper} {a : Act} {w : World} {c : Call} {f : Nat} {fn : Func} {cd : Code} (h0 : ops[i]? = some o) (hg : o.guard = none) (ho : o.op = .call c) (hc : c.callee = .value (.func f)) (hf : P.funcs[f]? = some fn) (hb : fn.body = some cd) (hn : (fn.name == "runtime.NumGoroutine") = false)
    (h : Calls P f (c.args.map a.eval) w fun e w2 => ∃ v, e = .returned v ∧ wpOpsIn (Fw none) n P ops Q rest (a.put o.dst v) w2) : wpOpsIn (Fw none) n P ops Q (i :: rest) a w := by
  simp only [wpOpsIn, h0]
  rw [if_pos (by simp [Region.wanted, hg])]
  refine wpIn_of_wp (fun c e => by rw [ho] at e; cases e) ?_
  unfold Oper.wp
  have hrun : (execOp a.eval o).run P w = .ok (.enter f (c.args.map a.eval)) w := by
    have hval : a.eval (.func f) = .func (.func f) #[] #[] := rfl
    simp only [execOp, ho, resolve, hc, hval, Deferred.ofValue, Sem.run_bind, Sem.run_pure, Result.andThen_ok, invoke, callFunc, run_program, hf, hn, hb, Option.isNone]
    simp
  rw [hrun]
  refine h.mono ?_
  rintro e w2 ⟨v, rfl, hk⟩
  exact hk

theorem put_same {a : Act} {d : Nat} {v : Value} (h : d < a.tmps.size) : (a.put (some d) v).tmps.getD d undef = v := by
  simp only [Act.put, Array.getD_eq_getD_getElem?]
  rw [Array.getElem?_setIfInBounds_self_of_lt h]; rfl
theorem put_other {a : Act} {d i : Nat} {v : Value} (h : d ≠ i) : (a.put (some d) v).tmps.getD i undef = a.tmps.getD i undef := by
  simp only [Act.put, Array.getD_eq_getD_getElem?]
  rw [Array.getElem?_setIfInBounds_ne h]
theorem put_size {a : Act} {d : Option Nat} {v : Value} : (a.put d v).tmps.size = a.tmps.size := by
  cases d <;> simp [Act.put]
end Go.Proofs.YtkdlegfakefjgaaGreatDoor.Ix
