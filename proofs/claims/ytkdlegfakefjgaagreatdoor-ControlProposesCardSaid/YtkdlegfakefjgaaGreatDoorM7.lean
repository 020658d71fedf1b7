/- YtkdlegfakefjgaaGreatDoorM7 -/
import Derived.Test.YtkdlegfakefjgaaGreatDoorM6
import Derived.Lib.ItoaLen
import Derived.Lib.Join
import Derived.ChangeArms
import Derived.OpenShut
import Derived.ChangeShapes
import Derived.SizedLaws
import Derived.Carry
import Derived.Lib.LaidTab
import Derived.Shelf.Small.Strs
import Derived.Shelf.Strings.Split
import Derived.Shelf.LaysM
import Derived.Shelf.Strings.OnBuilder
import Derived.Shelf.Strconv.Itoa3
import Derived.Test.YtkdlegfakefjgaaGreatDoorProg
namespace Go.Proofs.YtkdlegfakefjgaaGreatDoor.Ix
open Go.Proofs
set_option linter.unusedVariables false
set_option linter.unusedSimpArgs false
structure Mc.ok (m : Mc) : Prop where
  wind : 1 ≤ m.wind ∧ m.wind ≤ 100
  fea : 1 ≤ m.fea ∧ m.fea ≤ 100
  rate : 1 ≤ m.rate ∧ m.rate ≤ m.fea
  tor : 0 ≤ m.tor ∧ m.tor ≤ 100
  lim : 1 ≤ m.lim ∧ m.lim ≤ 1000
  rated : 1 ≤ m.rated ∧ m.rated ≤ m.lim
  gain : 1 ≤ m.gain ∧ m.gain ≤ 16
  two : m.wind < 2 * m.fea
theorem orL_zero : ∀ {l : List Int}, orL l = 0 ↔ ∀ x ∈ l, x = 0
  | [] => by simp [orL]
  | a :: r => by
    simp only [orL, orE_zero, orL_zero (l := r), List.mem_cons, forall_eq_or_imp]
theorem bif_nz {b : Bool} {e : Int} (he : e ≠ 0) : (bif b then e else 0) = 0 ↔ b = false := by
  cases b <;> simp [he]
theorem Mc.err_ok {m : Mc} (h : m.err = 0) : m.ok := by
  unfold Mc.err at h
  rw [orL_zero] at h
  simp only [List.mem_cons, List.not_mem_nil, or_false, forall_eq_or_imp, forall_eq, withinS_zero] at h
  obtain ⟨h1, h2, h3, h4, h5, h6, h7, h8, h9⟩ := h
  rw [bif_nz (by decide)] at h8 h9
  simp only [Bool.or_eq_false_iff, decide_eq_false_iff_not] at h8 h9
  rw [w64, wrap_in (by omega) (by omega)] at h9
  exact ⟨by omega, by omega, by omega, by omega, by omega, by omega, by omega, by omega⟩
theorem Mc.err_of {m : Mc} (h : m.ok) : m.err = 0 := by
  obtain ⟨h1, h2, h3, h4, h5, h6, h7, h8⟩ := h
  unfold Mc.err
  rw [orL_zero]
  simp only [List.mem_cons, List.not_mem_nil, or_false, forall_eq_or_imp, forall_eq, withinS_zero]
  rw [bif_nz (by decide), bif_nz (by decide)]
  simp only [Bool.or_eq_false_iff, decide_eq_false_iff_not]
  rw [w64, wrap_in (by omega) (by omega)]
  omega
structure Sta.rng (s : Sta) (m : Mc) : Prop where
  speed : 0 ≤ s.speed ∧ s.speed ≤ 1000000
  p0 : 0 ≤ s.p0 ∧ s.p0 ≤ m.fea
  p1 : 0 ≤ s.p1 ∧ s.p1 ≤ m.fea
  p2 : 0 ≤ s.p2 ∧ s.p2 ≤ m.fea
theorem Sta.err_rng {s : Sta} {m : Mc} (h : s.err m = 0) : m.ok ∧ s.rng m ∧ s.speed ≤ m.lim ∧ (-1 ≤ s.stuck ∧ s.stuck ≤ 2) ∧ (0 ≤ s.tor ∧ s.tor ≤ m.tor) ∧ s.known = true ∧ s.fits m = true := by
  unfold Sta.err at h
  rw [orE_zero] at h
  obtain ⟨h1, h2⟩ := h
  unfold Sta.err1 at h1
  unfold Sta.err2 at h2
  rw [orL_zero] at h1 h2
  simp only [List.mem_cons, List.not_mem_nil, or_false, forall_eq_or_imp, forall_eq, withinS_zero] at h1 h2
  obtain ⟨a1, a2, a3⟩ := h1
  obtain ⟨b1, b2, b3, b4, b5, b6⟩ := h2
  rw [bif_nz (by decide)] at a2 b6
  have hm := Mc.err_ok a1
  have := hm.lim
  exact ⟨hm, ⟨by omega, b1, b2, b3⟩, a3.2, b5, b4, by simpa using a2, by simpa using b6⟩
theorem mvW_fea {m : Mc} (hm : m.ok) {p : Int} (h : 0 ≤ p ∧ p ≤ m.fea) : mvW m m.fea p = min (p + m.rate) m.fea := by
  obtain ⟨h1, h2, h3, h4, h5, h6, h7, h8⟩ := hm
  unfold mvW
  have e1 : w64 (p - m.rate) = p - m.rate := by rw [w64, wrap_in] <;> omega
  have e2 : w64 (p + m.rate) = p + m.rate := by rw [w64, wrap_in] <;> omega
  rw [e1, e2]
  unfold maxW minW
  split <;> split <;> omega
def stepP (m : Mc) (stuck i p : Int) : Int := if i = stuck then p else min (p + m.rate) m.fea
theorem braked_eq {m : Mc} (hm : m.ok) {s : Sta} (hs : s.rng m) (wind stuck : Int) (hw : 0 ≤ wind ∧ wind ≤ 100) :
    s.brakedW m wind stuck = ⟨sStop, max 0 (s.speed + wind - stepP m stuck 0 s.p0 - stepP m stuck 1 s.p1 - stepP m stuck 2 s.p2), stepP m stuck 0 s.p0, stepP m stuck 1 s.p1, stepP m stuck 2 s.p2, 0, if stuck = -1 then s.stuck else stuck⟩ := by
  have hf := hm.fea
  have hr := hm.rate
  have m0 := mvW_fea hm hs.p0
  have m1 := mvW_fea hm hs.p1
  have m2 := mvW_fea hm hs.p2
  have hp : ∀ (i p : Int), (0 ≤ p ∧ p ≤ m.fea) → mvW m m.fea p = min (p + m.rate) m.fea → (bif i != stuck then mvW m m.fea p else p) = stepP m stuck i p := fun i p _ hmv => by
    unfold stepP
    by_cases h : i = stuck
    · simp [h]
    · have : (i != stuck) = true := by simpa using h
      rw [this, if_neg h, hmv]; rfl
  have hb : ∀ (i p : Int), (0 ≤ p ∧ p ≤ m.fea) → 0 ≤ stepP m stuck i p ∧ stepP m stuck i p ≤ m.fea := fun i p h => by
    unfold stepP
    split <;> omega
  have b0 := hb 0 s.p0 hs.p0
  have b1 := hb 1 s.p1 hs.p1
  have b2 := hb 2 s.p2 hs.p2
  have hsp := hs.speed
  unfold Sta.brakedW Sta.laterW Sta.movedW
  simp only
  rw [hp 0 s.p0 hs.p0 m0, hp 1 s.p1 hs.p1 m1, hp 2 s.p2 hs.p2 m2]
  have e : maxW 0 (w64 (w64 (w64 (w64 (s.speed + w64 (wind - 0)) - stepP m stuck 0 s.p0) - stepP m stuck 1 s.p1) - stepP m stuck 2 s.p2)) = max 0 (s.speed + wind - stepP m stuck 0 s.p0 - stepP m stuck 1 s.p1 - stepP m stuck 2 s.p2) := by
    have w : ∀ x : Int, -10000000 ≤ x → x ≤ 10000000 → w64 x = x := fun x h1 h2 => by rw [w64, wrap_in] <;> omega
    rw [w (wind - 0) (by omega) (by omega), w (s.speed + (wind - 0)) (by omega) (by omega), w (s.speed + (wind - 0) - _) (by omega) (by omega), w (s.speed + (wind - 0) - _ - _) (by omega) (by omega), w (s.speed + (wind - 0) - _ - _ - _) (by omega) (by omega)]
    unfold maxW
    split <;> omega
  rw [e]
  congr 1
  by_cases h : stuck = -1
  · simp [h]
  · have : (stuck != -1) = true := by simpa using h
    rw [this, if_neg h]; rfl
def Sta.far (s : Sta) (m : Mc) (stuck : Int) : Int := max (if stuck = 0 then 0 else m.fea - s.p0) (max (if stuck = 1 then 0 else m.fea - s.p1) (if stuck = 2 then 0 else m.fea - s.p2))
theorem step_rng {m : Mc} (hm : m.ok) {s : Sta} (hs : s.rng m) (hsp : s.speed ≤ 900000) (wind stuck : Int) (hw : 0 ≤ wind ∧ wind ≤ 100) : (s.brakedW m wind stuck).rng m := by
  rw [braked_eq hm hs wind stuck hw]
  have hf := hm.fea
  have hr := hm.rate
  obtain ⟨g1, g2, g3, g4⟩ := hs
  refine ⟨?_, ?_, ?_, ?_⟩ <;> simp only [stepP] <;> (repeat' split) <;> omega
theorem rest_of {m : Mc} {s : Sta} (hs : s.rng m) {stuck : Int} (h1 : -1 ≤ stuck) (h2 : stuck ≤ 2) (hf : s.far m stuck = 0) (h0 : s.speed = 0) : s.restB m stuck = true := by
  unfold Sta.far at hf
  unfold Sta.restB
  obtain ⟨g1, g2, g3, g4⟩ := hs
  have q : (s.speed == 0) = true := by simpa using h0
  rw [q, cond_true]
  obtain rfl | rfl | rfl | rfl : stuck = -1 ∨ stuck = 0 ∨ stuck = 1 ∨ stuck = 2 := by omega
  all_goals simp at hf ⊢
  all_goals omega
def Sta.mu (s : Sta) (m : Mc) (stuck : Int) : Int := 101 * s.far m stuck + s.speed
theorem mu_falls {m : Mc} (hm : m.ok) {s : Sta} (hs : s.rng m) {stuck : Int} (h1 : -1 ≤ stuck) (h2 : stuck ≤ 2) (hr : s.restB m stuck = false) : (s.brakedW m m.wind stuck).mu m stuck + 1 ≤ s.mu m stuck := by
  have hne : ¬ (s.far m stuck = 0 ∧ s.speed = 0) := fun ⟨a, b⟩ => by rw [rest_of hs h1 h2 a b] at hr; cases hr
  obtain ⟨w1, w2⟩ := hm.wind
  rw [braked_eq hm hs m.wind stuck (by omega)]
  have hf := hm.fea
  have hra := hm.rate
  have h2w := hm.two
  obtain ⟨g1, g2, g3, g4⟩ := hs
  unfold Sta.mu Sta.far at *
  simp only [stepP]
  obtain rfl | rfl | rfl | rfl : stuck = -1 ∨ stuck = 0 ∨ stuck = 1 ∨ stuck = 2 := by omega
  all_goals simp only [reduceIte, Int.reduceEq, Int.reduceNeg] at hne ⊢
  all_goals omega
theorem stepW_succ (s : Sta) (m : Mc) (stuck : Int) : ∀ k, s.stepW m stuck (k + 1) = (s.brakedW m m.wind stuck).stepW m stuck k
  | 0 => rfl
  | k + 1 => by
    show (s.stepW m stuck (k + 1)).brakedW m m.wind stuck = _
    rw [stepW_succ s m stuck k]; rfl
theorem takes_exists {m : Mc} (hm : m.ok) {stuck : Int} (h1 : -1 ≤ stuck) (h2 : stuck ≤ 2) : ∀ (B : Nat) (s : Sta), s.rng m → s.mu m stuck ≤ B → B ≤ 800000 → ∃ n, s.takes m stuck n ∧ n ≤ B
  | B, s, hs, hB, hB2 => by
    cases hr : s.restB m stuck with
    | true => exact ⟨0, ⟨fun k hk => by omega, hr⟩, Nat.zero_le _⟩
    | false =>
      have hf := mu_falls hm hs h1 h2 hr
      have hfar : 0 ≤ s.far m stuck := by
        obtain ⟨g1, g2, g3, g4⟩ := hs
        unfold Sta.far
        (repeat' split) <;> omega
      have hsp : s.speed ≤ 900000 := by unfold Sta.mu at hB; omega
      have hs' := step_rng hm hs hsp m.wind stuck (by have := hm.wind; omega)
      have hmu' : 0 ≤ (s.brakedW m m.wind stuck).mu m stuck := by
        obtain ⟨g1, g2, g3, g4⟩ := hs'
        unfold Sta.mu Sta.far
        (repeat' split) <;> omega
      cases B with
      | zero => omega
      | succ B =>
        obtain ⟨n, ⟨t1, t2⟩, hn⟩ := takes_exists hm h1 h2 B (s.brakedW m m.wind stuck) hs' (by omega) (by omega)
        refine ⟨n + 1, ⟨fun k hk => ?_, ?_⟩, by omega⟩
        · cases k with
          | zero => exact hr
          | succ k => rw [stepW_succ]; exact t1 k (by omega)
        · rw [stepW_succ]; exact t2
noncomputable def Sta.num (s : Sta) (m : Mc) (stuck : Int) : Nat := open Classical in if h : ∃ n, s.takes m stuck n ∧ n ≤ 1000000 then h.choose else 0
theorem takes_num {m : Mc} (hm : m.ok) {s : Sta} (hs : s.rng m) (hsp : s.speed ≤ 10000) {stuck : Int} (h1 : -1 ≤ stuck) (h2 : stuck ≤ 2) : s.takes m stuck (s.num m stuck) ∧ s.num m stuck ≤ 1000000 := by
  have hex : ∃ n, s.takes m stuck n ∧ n ≤ 1000000 := by
    have hmu : s.mu m stuck ≤ (20100 : Nat) := by
      have := hm.fea
      obtain ⟨g1, g2, g3, g4⟩ := hs
      unfold Sta.mu Sta.far
      (repeat' split) <;> omega
    obtain ⟨n, h, hn⟩ := takes_exists hm h1 h2 20100 s hs hmu (by omega)
    exact ⟨n, h, by omega⟩
  unfold Sta.num
  rw [dif_pos hex]
  exact hex.choose_spec
theorem takes_unique {s : Sta} {m : Mc} {stuck : Int} {n k : Nat} (h1 : s.takes m stuck n) (h2 : s.takes m stuck k) : n = k := by
  rcases Nat.lt_trichotomy n k with h | h | h
  · have := h2.1 n h; rw [h1.2] at this; cases this
  · exact h
  · have := h1.1 k h; rw [h2.2] at this; cases this
theorem num_eq {s : Sta} {m : Mc} {stuck : Int} {n : Nat} (h : s.takes m stuck n) (hn : n ≤ 1000000) : s.num m stuck = n := by
  have hex : ∃ n, s.takes m stuck n ∧ n ≤ 1000000 := ⟨n, h, hn⟩
  unfold Sta.num
  rw [dif_pos hex]
  exact takes_unique hex.choose_spec.1 h
end Go.Proofs.YtkdlegfakefjgaaGreatDoor.Ix

namespace Go.Proofs.YtkdlegfakefjgaaGreatDoor.Ix
open Go.Proofs
set_option maxRecDepth 100000
set_option linter.unusedVariables false
set_option linter.unusedSimpArgs false
variable {gl : Nat → IV}
theorem orL_append (l r : List Int) : orL (l ++ r) = orE (orL l) (orL r) := by
  induction l with
  | nil => simp [orL, orE]
  | cons a l ih =>
    show orE a (orL (l ++ r)) = orE (orE a (orL l)) (orL r)
    rw [ih, orE_assoc]
theorem orE_ne {a b : Int} (h : (a != 0) = true) : orE a b = a := by unfold orE; rw [h]; rfl
theorem orE_no {a b : Int} (h : (a != 0) = false) : orE a b = b := by unfold orE; rw [h]; rfl
theorem c_CheckRange (up : List Ces) (n lo hi : Int) : Cs gl n_nacelleref01_CheckRange up [.int .i64 n, .int .i64 lo, .int .i64 hi] (.int .i64 (withinS n lo hi)) up := by
  refine mk h_nacelleref01_CheckRange rfl rfl ?_
  conv => whnf
  split
  · rename_i h
    have h : decide (n < lo) = true := h
    conv => whnf
    simp [withinS, h]
  · rename_i h
    have h : decide (n < lo) = false := h
    conv => whnf
    split
    · rename_i h2
      have h2 : decide (n > hi) = true := h2
      conv => whnf
      simp [withinS, h, h2]
    · rename_i h2
      have h2 : decide (n > hi) = false := h2
      conv => whnf
      simp [withinS, h, h2]
theorem c_rFirst (up : List Ces) (n : Nat) (hn : n ≤ 4611686018427387904) (f : Nat → Int) : Cs gl n_nacelleref01_First up [.lst none 1 n fun i => [.int .i64 (f i)]] (.int .i64 (firstS f n 0)) up := by
  refine mk h_nacelleref01_First rfl rfl ?_
  conv => whnf
  refine .mk (α := {i : Nat // i ≤ n ∧ firstS f n 0 = firstS f (n - i) i}) (fun i => ⟨[(3, .int .i64 i.1), (0, .lst none 1 n fun i => [.int .i64 (f i)])], [], up⟩) (fun i => n - i.1) ⟨0, Nat.zero_le _, rfl⟩ ⟨⟨leV_refl _, leV_refl _, trivial⟩, trivial, rfl, rfl⟩ ?_
  rintro ⟨i, hi, hf⟩
  conv => whnf
  split
  · rename_i hb
    have hlt : i < n := by
      have hb' : decide ((i : Int) < n) = true := hb
      simpa using hb'
    have hstep : firstS f (n - i) i = orE (f i) (firstS f (n - (i + 1)) (i + 1)) := by
      rw [show n - i = (n - (i + 1)) + 1 by omega]; rfl
    conv => whnf
    split
    rotate_left
    · rename_i h
      have h' : decide ((i : Int) < n) = false := h
      simp at h' <;> omega
    conv => whnf
    split
    · rename_i h2
      have h2 : (f i != 0) = true := h2
      conv => whnf
      split
      · conv => whnf
        refine ⟨?_, rfl⟩
        show IV.int .i64 (f i) = _
        rw [hf, hstep, orE_ne h2]
      · rename_i h3
        have h3 : decide ((i : Int) < n) = false := h3
        simp at h3; omega
    · rename_i h2
      have h2 : (f i != 0) = false := h2
      conv => whnf
      refine ⟨⟨i + 1, hlt, by rw [hf, hstep, orE_no h2]⟩, ⟨⟨leV_int ?_, leV_refl _, trivial⟩, trivial, rfl, rfl⟩, ?_⟩
      · show w64 ((i : Int) + 1) = ((i + 1 : Nat) : Int)
        rw [w64, wrap_in] <;> omega
      · show n - (i + 1) < n - i
        omega
  · rename_i hb
    have : i = n := by
      have hb' : decide ((i : Int) < n) = false := hb
      simp at hb'; omega
    conv => whnf
    refine ⟨?_, rfl⟩
    rw [hf, this, Nat.sub_self]; rfl
theorem c_rfl (up : List Ces) (l : List Int) (hl : l.length ≤ 100) (f : Nat → List IV) (h : ∀ i, i < l.length → f i = [.int .i64 (l.getD i 0)]) : Cs gl n_nacelleref01_First up [.lst none 1 l.length f] (.int .i64 (orL l)) up := by
  have := c_rFirst (gl := gl) up l.length (by omega) fun i => l.getD i 0
  rw [orL_first l _ 0 (fun i _ => by rw [Nat.zero_add])] at this
  refine Comp.le ?_ this
  exact ⟨⟨.inl rfl, rfl, rfl, fun i hi => h i hi⟩, trivial⟩
theorem c_rl7 (up : List Ces) (f : Nat → List IV) (a0 a1 a2 a3 a4 a5 a6 : Int) (h0 : f 0 = [.int .i64 a0]) (h1 : f 1 = [.int .i64 a1]) (h2 : f 2 = [.int .i64 a2]) (h3 : f 3 = [.int .i64 a3]) (h4 : f 4 = [.int .i64 a4]) (h5 : f 5 = [.int .i64 a5]) (h6 : f 6 = [.int .i64 a6]) : Cs gl n_nacelleref01_First up [.lst none 1 7 f] (.int .i64 (orL [a0, a1, a2, a3, a4, a5, a6])) up :=
  c_rfl up [a0, a1, a2, a3, a4, a5, a6] (by simp) f fun i hi => by
    match i, hi with
    | 0, _ => exact h0
    | 1, _ => exact h1
    | 2, _ => exact h2
    | 3, _ => exact h3
    | 4, _ => exact h4
    | 5, _ => exact h5
    | 6, _ => exact h6
def Mc.e7 (m : Mc) : Int := orL [withinS m.wind 1 100, withinS m.fea 1 100, withinS m.rate 1 100, withinS m.tor 0 100, withinS m.lim 1 1000, withinS m.rated 1 1000, withinS m.gain 1 16]
theorem Mc.err_split (m : Mc) : m.err = orE m.e7 (orE (bif decide (m.rate > m.fea) || decide (m.rated > m.lim) then 4 else 0) (bif decide (w64 (2 * m.fea) ≤ m.wind) then 24 else 0)) := by
  show orL (([_, _, _, _, _, _, _] : List Int) ++ [_, _]) = _
  rw [orL_append]
  unfold Mc.e7
  congr 1
  simp only [orL, orE_right]
theorem c_rMachine (up : List Ces) (m : Mc) : Cs gl n_nacelleref05_CheckMachine up [m.iv] (.int .i64 m.err) up := by
  refine mk h_nacelleref05_CheckMachine rfl rfl ?_
  rw [Mc.err_split]
  cases q7 : (m.e7 != 0) with
  | true =>
    rw [orE_ne q7]
    conv => whnf
    repeat first
      | (refine DRAW.seek ?_; repeat (first | refine TRYD.take ?_ | refine TRYD.next ?_); conv => whnf)
      | (refine HOLD.mk (by first | exact trivial | exact ⟨⟨rfl, rfl⟩, trivial⟩ | exact ⟨⟨rfl, rfl⟩, ⟨rfl, rfl⟩, trivial⟩) ?_; (conv => whnf))
      | (refine CALL0.by (c_CheckRange ..) rfl ?_; conv => whnf)
      | (refine CALLQ.mk _ _ _ (leL_refl _) (c_CheckRange ..) rfl ?_; conv => whnf)
    refine .mk _ _ _ _ _ (leL_refl _) (c_rl7 _ _ _ _ _ _ _ _ _ rfl rfl rfl rfl rfl rfl rfl) rfl ?_
    conv => whnf
    split
    rotate_left
    · rename_i h
      exact Bool.noConfusion ((q7).symm.trans h)
    rename_i hN
    clear hN
    conv => whnf
    exact ⟨rfl, rfl⟩
  | false =>
    rw [orE_no q7]
    cases q1 : decide (m.rate > m.fea) with
    | true =>
      conv => whnf
      repeat first
        | (refine DRAW.seek ?_; repeat (first | refine TRYD.take ?_ | refine TRYD.next ?_); conv => whnf)
        | (refine HOLD.mk (by first | exact trivial | exact ⟨⟨rfl, rfl⟩, trivial⟩ | exact ⟨⟨rfl, rfl⟩, ⟨rfl, rfl⟩, trivial⟩) ?_; (conv => whnf))
        | (refine CALL0.by (c_CheckRange ..) rfl ?_; conv => whnf)
        | (refine CALLQ.mk _ _ _ (leL_refl _) (c_CheckRange ..) rfl ?_; conv => whnf)
      refine .mk _ _ _ _ _ (leL_refl _) (c_rl7 _ _ _ _ _ _ _ _ _ rfl rfl rfl rfl rfl rfl rfl) rfl ?_
      conv => whnf
      split
      · rename_i h
        exact Bool.noConfusion ((q7).symm.trans h)
      rename_i hN
      clear hN
      conv => whnf
      split
      rotate_left
      · rename_i h
        exact Bool.noConfusion ((q1).symm.trans h)
      rename_i hN
      clear hN
      conv => whnf
      exact ⟨rfl, rfl⟩
    | false =>
      cases q2 : decide (m.rated > m.lim) with
      | true =>
        conv => whnf
        repeat first
          | (refine DRAW.seek ?_; repeat (first | refine TRYD.take ?_ | refine TRYD.next ?_); conv => whnf)
          | (refine HOLD.mk (by first | exact trivial | exact ⟨⟨rfl, rfl⟩, trivial⟩ | exact ⟨⟨rfl, rfl⟩, ⟨rfl, rfl⟩, trivial⟩) ?_; (conv => whnf))
          | (refine CALL0.by (c_CheckRange ..) rfl ?_; conv => whnf)
          | (refine CALLQ.mk _ _ _ (leL_refl _) (c_CheckRange ..) rfl ?_; conv => whnf)
        refine .mk _ _ _ _ _ (leL_refl _) (c_rl7 _ _ _ _ _ _ _ _ _ rfl rfl rfl rfl rfl rfl rfl) rfl ?_
        conv => whnf
        split
        · rename_i h
          exact Bool.noConfusion ((q7).symm.trans h)
        rename_i hN
        clear hN
        conv => whnf
        split
        · rename_i h
          exact Bool.noConfusion ((q1).symm.trans h)
        rename_i hN
        clear hN
        conv => whnf
        split
        rotate_left
        · rename_i h
          exact Bool.noConfusion ((q2).symm.trans h)
        rename_i hN
        clear hN
        conv => whnf
        exact ⟨rfl, rfl⟩
      | false =>
        cases q3 : decide (w64 (2 * m.fea) ≤ m.wind) with
        | true =>
          conv => whnf
          repeat first
            | (refine DRAW.seek ?_; repeat (first | refine TRYD.take ?_ | refine TRYD.next ?_); conv => whnf)
            | (refine HOLD.mk (by first | exact trivial | exact ⟨⟨rfl, rfl⟩, trivial⟩ | exact ⟨⟨rfl, rfl⟩, ⟨rfl, rfl⟩, trivial⟩) ?_; (conv => whnf))
            | (refine CALL0.by (c_CheckRange ..) rfl ?_; conv => whnf)
            | (refine CALLQ.mk _ _ _ (leL_refl _) (c_CheckRange ..) rfl ?_; conv => whnf)
          refine .mk _ _ _ _ _ (leL_refl _) (c_rl7 _ _ _ _ _ _ _ _ _ rfl rfl rfl rfl rfl rfl rfl) rfl ?_
          conv => whnf
          split
          · rename_i h
            exact Bool.noConfusion ((q7).symm.trans h)
          rename_i hN
          clear hN
          conv => whnf
          split
          · rename_i h
            exact Bool.noConfusion ((q1).symm.trans h)
          rename_i hN
          clear hN
          conv => whnf
          split
          · rename_i h
            exact Bool.noConfusion ((q2).symm.trans h)
          rename_i hN
          clear hN
          conv => whnf
          split
          rotate_left
          · rename_i h
            exact Bool.noConfusion ((q3).symm.trans h)
          rename_i hN
          clear hN
          conv => whnf
          exact ⟨rfl, rfl⟩
        | false =>
          conv => whnf
          repeat first
            | (refine DRAW.seek ?_; repeat (first | refine TRYD.take ?_ | refine TRYD.next ?_); conv => whnf)
            | (refine HOLD.mk (by first | exact trivial | exact ⟨⟨rfl, rfl⟩, trivial⟩ | exact ⟨⟨rfl, rfl⟩, ⟨rfl, rfl⟩, trivial⟩) ?_; (conv => whnf))
            | (refine CALL0.by (c_CheckRange ..) rfl ?_; conv => whnf)
            | (refine CALLQ.mk _ _ _ (leL_refl _) (c_CheckRange ..) rfl ?_; conv => whnf)
          refine .mk _ _ _ _ _ (leL_refl _) (c_rl7 _ _ _ _ _ _ _ _ _ rfl rfl rfl rfl rfl rfl rfl) rfl ?_
          conv => whnf
          split
          · rename_i h
            exact Bool.noConfusion ((q7).symm.trans h)
          rename_i hN
          clear hN
          conv => whnf
          split
          · rename_i h
            exact Bool.noConfusion ((q1).symm.trans h)
          rename_i hN
          clear hN
          conv => whnf
          split
          · rename_i h
            exact Bool.noConfusion ((q2).symm.trans h)
          rename_i hN
          clear hN
          conv => whnf
          split
          · rename_i h
            exact Bool.noConfusion ((q3).symm.trans h)
          rename_i hN
          clear hN
          conv => whnf
          exact ⟨rfl, rfl⟩
def hasW (x : ByteArray) : List ByteArray → Bool
  | [] => false
  | k :: r => bif eqS k x then true else hasW x r
theorem eqS_comm (a b : ByteArray) : eqS a b = eqS b a := by
  rw [Bool.eq_iff_iff, eqS_iff, eqS_iff]
  exact ⟨Eq.symm, Eq.symm⟩
theorem hasW_modes (x : ByteArray) : hasW x [sIdle, sRun, sStop] = (eqS x sIdle || (eqS x sRun || (eqS x sStop || false))) := by
  simp only [hasW, eqS_comm sIdle x, eqS_comm sRun x, eqS_comm sStop x]
  cases eqS x sIdle <;> cases eqS x sRun <;> cases eqS x sStop <;> rfl
theorem known_has (s : Sta) : s.known = hasW s.mode [sIdle, sRun, sStop] := by
  rw [hasW_modes]
  unfold Sta.known
  simp only [eqS_beq]
theorem has_idx (x : ByteArray) : ∀ (l : List ByteArray) (i : Int), 0 ≤ i → hasW x l = decide (idxS x l i ≥ 0)
  | [], i, _ => rfl
  | k :: r, i, hi => by
    unfold hasW idxS
    rw [eqS_comm k x]
    cases eqS x k with
    | true => exact (decide_eq_true hi).symm
    | false => exact has_idx x r (i + 1) (by omega)
end Go.Proofs.YtkdlegfakefjgaaGreatDoor.Ix

namespace Go.Proofs.YtkdlegfakefjgaaGreatDoor.Ix
open Go.Proofs
set_option maxRecDepth 100000
set_option linter.unusedVariables false
set_option linter.unusedSimpArgs false
variable {gl : Nat → IV}
noncomputable def Sta.safeN (s : Sta) (m : Mc) : Bool := s.safeB m fun k => s.num m k
noncomputable def Sta.allowedN (s : Sta) (m : Mc) (a : Ac) : Int := s.allowedW m a fun k => (s.behindW m a).num m k
structure Ac.ok (a : Ac) (m : Mc) : Prop where
  wind : 0 ≤ a.wind ∧ a.wind ≤ m.wind
  pitch : 0 ≤ a.pitch ∧ a.pitch ≤ m.fea
  tor : 0 ≤ a.tor ∧ a.tor ≤ m.tor
  stuck : -1 ≤ a.stuck ∧ a.stuck ≤ 2
theorem Ac.err_ok {a : Ac} {m : Mc} (h : a.err m = 0) : m.ok ∧ a.ok m ∧ idxS a.kind kindsL 0 ≥ 0 ∧ a.formB = true := by
  unfold Ac.err Ac.checkE at h
  rw [orL_zero] at h
  simp only [List.mem_cons, List.not_mem_nil, or_false, forall_eq_or_imp, forall_eq] at h
  obtain ⟨h1, h2⟩ := h
  rw [orL_zero] at h2
  simp only [List.mem_cons, List.not_mem_nil, or_false, forall_eq_or_imp, forall_eq, withinS_zero] at h2
  obtain ⟨a1, a2, a3, a4, a5, a6⟩ := h2
  rw [bif_nz (by decide)] at a1 a6
  exact ⟨Mc.err_ok h1, ⟨a2, a3, a4, a5⟩, by simpa using a1, by simpa using a6⟩
theorem mvW_rng {m : Mc} (hm : m.ok) {a p : Int} (ha : 0 ≤ a ∧ a ≤ m.fea) (h : 0 ≤ p ∧ p ≤ m.fea) : mvW m a p = max (p - m.rate) (min (p + m.rate) a) ∧ 0 ≤ mvW m a p ∧ mvW m a p ≤ m.fea := by
  obtain ⟨h1, h2, h3, h4, h5, h6, h7, h8⟩ := hm
  have e1 : w64 (p - m.rate) = p - m.rate := by rw [w64, wrap_in] <;> omega
  have e2 : w64 (p + m.rate) = p + m.rate := by rw [w64, wrap_in] <;> omega
  have e : mvW m a p = max (p - m.rate) (min (p + m.rate) a) := by
    unfold mvW
    rw [e1, e2]
    unfold maxW minW
    split <;> split <;> omega
  rw [e]
  exact ⟨rfl, by omega, by omega⟩
theorem maxW_0 (x : Int) : 0 ≤ maxW 0 x := by unfold maxW; split <;> omega
theorem moved_rng {m : Mc} (hm : m.ok) {s : Sta} (hs : s.rng m) {a stuck : Int} (ha : 0 ≤ a ∧ a ≤ m.fea) : (s.movedW m a stuck).rng m := by
  obtain ⟨g1, g2, g3, g4⟩ := hs
  have q : ∀ (i p : Int), (0 ≤ p ∧ p ≤ m.fea) → 0 ≤ (bif i != stuck then mvW m a p else p) ∧ (bif i != stuck then mvW m a p else p) ≤ m.fea := fun i p h => by
    have := (mvW_rng hm ha h).2
    cases (i != stuck)
    · exact h
    · exact this
  exact ⟨g1, q 0 _ g2, q 1 _ g3, q 2 _ g4⟩
theorem tick_rng {m : Mc} (hm : m.ok) {s : Sta} (hs : s.rng m) {a : Ac} (ha : a.ok m) (hk : eqS a.kind sTick = true) (hsp : (s.behindW m a).speed ≤ m.lim) : (s.behindW m a).rng m := by
  have hkk := eqS_iff.1 hk
  have hst : eqS a.kind sStart = false := by
    cases h : eqS a.kind sStart with
    | false => rfl
    | true =>
      have := eqS_iff.1 h
      rw [hkk] at this
      exact absurd this (by decide)
  have e : s.behindW m a = Sta.laterW { s.movedW m a.pitch a.stuck with tor := a.tor } a.wind := by
    unfold Sta.behindW
    rw [hst, hk]; rfl
  rw [e] at hsp ⊢
  obtain ⟨g1, g2, g3, g4⟩ := moved_rng hm hs (stuck := a.stuck) ha.pitch
  have := hm.lim
  exact ⟨⟨maxW_0 _, by omega⟩, g2, g3, g4⟩
theorem allowed_takes {m : Mc} (hm : m.ok) {s : Sta} (hs : s.rng m) {a : Ac} (ha : a.ok m) (hk : eqS a.kind sTick = true) (hsp : (s.behindW m a).speed ≤ m.lim) : ∀ k, k < 3 → (s.behindW m a).takes m (k : Nat) ((s.behindW m a).num m k) ∧ (s.behindW m a).num m k ≤ 1000000 := fun k hk3 =>
  takes_num hm (tick_rng hm hs ha hk hsp) (by have := hm.lim; omega) (by omega) (by omega)
theorem c_allowedN (up : List Ces) (m : Mc) (s : Sta) (a : Ac) (hm : m.ok) (hs : s.rng m) (ha : a.ok m) : Cs gl n_control_State_allowed up [s.iv, m.iv, a.iv] (.int .i64 (s.allowedN m a)) up :=
  c_allowed up m s a _ (allowed_takes hm hs ha)
def actE (m : Mc) (s : Sta) (a : Ac) : Int := orL [s.err m, a.err m]
theorem actE_ok {m : Mc} {s : Sta} {a : Ac} (h : actE m s a = 0) : s.err m = 0 ∧ a.err m = 0 := by
  unfold actE at h
  rw [orL_zero] at h
  simpa using h
theorem c_Allowed (up : List Ces) (hk : gl g_control_kinds = kindsI) (m : Mc) (s : Sta) (a : Ac) :
    Cs gl n_control_Allowed up [m.iv, s.iv, a.iv] (bif actE m s a != 0 then .tup [.int .i64 0, .int .i64 (actE m s a)] else .tup [.int .i64 (s.allowedN m a), .int .i64 0]) up := by
  refine mk h_control_Allowed rfl rfl ?_
  have hA := fun up => c_CheckAct (gl := gl) up hk m a
  by_cases h0 : actE m s a = 0
  · obtain ⟨h1, h2⟩ := actE_ok h0
    have hw := fun up => c_allowedN (gl := gl) up m s a (Ac.err_ok h2).1 (Sta.err_rng h1).2.1 (Ac.err_ok h2).2.1
    have q : (actE m s a != 0) = false := by simpa using h0
    rw [q]
    conv => whnf
    repeat first
      | (refine DRAW.seek ?_; repeat (first | refine TRYD.take ?_ | refine TRYD.next ?_); conv => whnf)
      | (refine HOLD.mk (by first | exact trivial | exact ⟨⟨rfl, rfl⟩, trivial⟩ | exact ⟨⟨rfl, rfl⟩, ⟨rfl, rfl⟩, trivial⟩) ?_; (conv => whnf))
      | (refine CALL0.by (c_CheckState ..) rfl ?_; conv => whnf)
      | (refine CALLQ.mk _ _ _ (leL_refl _) (c_CheckState ..) rfl ?_; conv => whnf)
      | (refine CALL0.by (hA ..) rfl ?_; conv => whnf)
      | (refine CALLQ.mk _ _ _ (leL_refl _) (hA ..) rfl ?_; conv => whnf)
    refine .mk _ _ _ _ _ (leL_refl _) (c_f2 _ _ _ _ rfl rfl) rfl ?_
    conv => whnf
    split
    · rename_i h
      exact Bool.noConfusion ((q).symm.trans h)
    rename_i hN
    clear hN
    conv => whnf
    repeat first
      | (refine DRAW.seek ?_; repeat (first | refine TRYD.take ?_ | refine TRYD.next ?_); conv => whnf)
      | (refine HOLD.mk (by first | exact trivial | exact ⟨⟨rfl, rfl⟩, trivial⟩ | exact ⟨⟨rfl, rfl⟩, ⟨rfl, rfl⟩, trivial⟩) ?_; (conv => whnf))
      | (refine CALL0.by (hw ..) rfl ?_; conv => whnf)
      | (refine CALLQ.mk _ _ _ (leL_refl _) (hw ..) rfl ?_; conv => whnf)
    exact ⟨rfl, rfl⟩
  · have q : (actE m s a != 0) = true := by simpa using h0
    rw [q]
    conv => whnf
    repeat first
      | (refine DRAW.seek ?_; repeat (first | refine TRYD.take ?_ | refine TRYD.next ?_); conv => whnf)
      | (refine HOLD.mk (by first | exact trivial | exact ⟨⟨rfl, rfl⟩, trivial⟩ | exact ⟨⟨rfl, rfl⟩, ⟨rfl, rfl⟩, trivial⟩) ?_; (conv => whnf))
      | (refine CALL0.by (c_CheckState ..) rfl ?_; conv => whnf)
      | (refine CALLQ.mk _ _ _ (leL_refl _) (c_CheckState ..) rfl ?_; conv => whnf)
      | (refine CALL0.by (hA ..) rfl ?_; conv => whnf)
      | (refine CALLQ.mk _ _ _ (leL_refl _) (hA ..) rfl ?_; conv => whnf)
    refine .mk _ _ _ _ _ (leL_refl _) (c_f2 _ _ _ _ rfl rfl) rfl ?_
    conv => whnf
    split
    rotate_left
    · rename_i h
      exact Bool.noConfusion ((q).symm.trans h)
    rename_i hN
    clear hN
    conv => whnf
    exact ⟨rfl, rfl⟩
noncomputable def nextR (m : Mc) (s : Sta) (a : Ac) : IV := bif actE m s a != 0 then .tup [Sta.zero.iv, .int .i64 (actE m s a)] else
  bif s.allowedN m a != 0 then .tup [Sta.zero.iv, .int .i64 19] else .tup [(s.behindW m a).iv, .int .i64 0]
theorem c_Next (up : List Ces) (hk : gl g_control_kinds = kindsI) (m : Mc) (s : Sta) (a : Ac) : Cs gl n_control_Next up [m.iv, s.iv, a.iv] (nextR m s a) up := by
  refine mk h_control_Next rfl rfl ?_
  unfold nextR
  have hA := fun up => c_CheckAct (gl := gl) up hk m a
  by_cases h0 : actE m s a = 0
  · obtain ⟨h1, h2⟩ := actE_ok h0
    have hw := fun up => c_allowedN (gl := gl) up m s a (Ac.err_ok h2).1 (Sta.err_rng h1).2.1 (Ac.err_ok h2).2.1
    have q : (actE m s a != 0) = false := by simpa using h0
    rw [q]
    cases q2 : (s.allowedN m a != 0) with
    | true =>
      conv => whnf
      repeat first
        | (refine DRAW.seek ?_; repeat (first | refine TRYD.take ?_ | refine TRYD.next ?_); conv => whnf)
        | (refine HOLD.mk (by first | exact trivial | exact ⟨⟨rfl, rfl⟩, trivial⟩ | exact ⟨⟨rfl, rfl⟩, ⟨rfl, rfl⟩, trivial⟩) ?_; (conv => whnf))
        | (refine CALL0.by (c_CheckState ..) rfl ?_; conv => whnf)
        | (refine CALLQ.mk _ _ _ (leL_refl _) (c_CheckState ..) rfl ?_; conv => whnf)
        | (refine CALL0.by (hA ..) rfl ?_; conv => whnf)
        | (refine CALLQ.mk _ _ _ (leL_refl _) (hA ..) rfl ?_; conv => whnf)
      refine .mk _ _ _ _ _ (leL_refl _) (c_f2 _ _ _ _ rfl rfl) rfl ?_
      conv => whnf
      split
      · rename_i h
        exact Bool.noConfusion ((q).symm.trans h)
      rename_i hN
      clear hN
      conv => whnf
      repeat first
        | (refine DRAW.seek ?_; repeat (first | refine TRYD.take ?_ | refine TRYD.next ?_); conv => whnf)
        | (refine HOLD.mk (by first | exact trivial | exact ⟨⟨rfl, rfl⟩, trivial⟩ | exact ⟨⟨rfl, rfl⟩, ⟨rfl, rfl⟩, trivial⟩) ?_; (conv => whnf))
        | (refine CALL0.by (hw ..) rfl ?_; conv => whnf)
        | (refine CALLQ.mk _ _ _ (leL_refl _) (hw ..) rfl ?_; conv => whnf)
      split
      rotate_left
      · rename_i h
        exact Bool.noConfusion ((q2).symm.trans h)
      rename_i hN
      clear hN
      conv => whnf
      exact ⟨rfl, rfl⟩
    | false =>
      conv => whnf
      repeat first
        | (refine DRAW.seek ?_; repeat (first | refine TRYD.take ?_ | refine TRYD.next ?_); conv => whnf)
        | (refine HOLD.mk (by first | exact trivial | exact ⟨⟨rfl, rfl⟩, trivial⟩ | exact ⟨⟨rfl, rfl⟩, ⟨rfl, rfl⟩, trivial⟩) ?_; (conv => whnf))
        | (refine CALL0.by (c_CheckState ..) rfl ?_; conv => whnf)
        | (refine CALLQ.mk _ _ _ (leL_refl _) (c_CheckState ..) rfl ?_; conv => whnf)
        | (refine CALL0.by (hA ..) rfl ?_; conv => whnf)
        | (refine CALLQ.mk _ _ _ (leL_refl _) (hA ..) rfl ?_; conv => whnf)
      refine .mk _ _ _ _ _ (leL_refl _) (c_f2 _ _ _ _ rfl rfl) rfl ?_
      conv => whnf
      split
      · rename_i h
        exact Bool.noConfusion ((q).symm.trans h)
      rename_i hN
      clear hN
      conv => whnf
      repeat first
        | (refine DRAW.seek ?_; repeat (first | refine TRYD.take ?_ | refine TRYD.next ?_); conv => whnf)
        | (refine HOLD.mk (by first | exact trivial | exact ⟨⟨rfl, rfl⟩, trivial⟩ | exact ⟨⟨rfl, rfl⟩, ⟨rfl, rfl⟩, trivial⟩) ?_; (conv => whnf))
        | (refine CALL0.by (hw ..) rfl ?_; conv => whnf)
        | (refine CALLQ.mk _ _ _ (leL_refl _) (hw ..) rfl ?_; conv => whnf)
      split
      · rename_i h
        exact Bool.noConfusion ((q2).symm.trans h)
      rename_i hN
      clear hN
      conv => whnf
      repeat first
        | (refine DRAW.seek ?_; repeat (first | refine TRYD.take ?_ | refine TRYD.next ?_); conv => whnf)
        | (refine HOLD.mk (by first | exact trivial | exact ⟨⟨rfl, rfl⟩, trivial⟩ | exact ⟨⟨rfl, rfl⟩, ⟨rfl, rfl⟩, trivial⟩) ?_; (conv => whnf))
        | (refine CALL0.by (c_behind ..) rfl ?_; conv => whnf)
        | (refine CALLQ.mk _ _ _ (leL_refl _) (c_behind ..) rfl ?_; conv => whnf)
      exact ⟨rfl, rfl⟩
  · have q : (actE m s a != 0) = true := by simpa using h0
    rw [q]
    conv => whnf
    repeat first
      | (refine DRAW.seek ?_; repeat (first | refine TRYD.take ?_ | refine TRYD.next ?_); conv => whnf)
      | (refine HOLD.mk (by first | exact trivial | exact ⟨⟨rfl, rfl⟩, trivial⟩ | exact ⟨⟨rfl, rfl⟩, ⟨rfl, rfl⟩, trivial⟩) ?_; (conv => whnf))
      | (refine CALL0.by (c_CheckState ..) rfl ?_; conv => whnf)
      | (refine CALLQ.mk _ _ _ (leL_refl _) (c_CheckState ..) rfl ?_; conv => whnf)
      | (refine CALL0.by (hA ..) rfl ?_; conv => whnf)
      | (refine CALLQ.mk _ _ _ (leL_refl _) (hA ..) rfl ?_; conv => whnf)
    refine .mk _ _ _ _ _ (leL_refl _) (c_f2 _ _ _ _ rfl rfl) rfl ?_
    conv => whnf
    split
    rotate_left
    · rename_i h
      exact Bool.noConfusion ((q).symm.trans h)
    rename_i hN
    clear hN
    conv => whnf
    exact ⟨rfl, rfl⟩
end Go.Proofs.YtkdlegfakefjgaaGreatDoor.Ix

namespace Go.Proofs.YtkdlegfakefjgaaGreatDoor.Ix
open Go.Proofs
set_option maxRecDepth 100000
set_option linter.unusedVariables false
set_option linter.unusedSimpArgs false
variable {gl : Nat → IV}
def plainA (k : ByteArray) : Ac := ⟨k, 0, 0, 0, -1⟩
def Sta.tickA (s : Sta) (wind p t : Int) : Ac := ⟨sTick, wind, p, t, s.stuck⟩
def Sta.pitchW (s : Sta) (m : Mc) : Int := minW (maxW (w64 (m.gain * w64 (s.speed - m.rated))) 0) m.fea
def Sta.torW (s : Sta) (m : Mc) : Int := minW (w64 (Int.tdiv (w64 (m.tor * s.speed)) m.rated)) m.tor
noncomputable def Sta.proposeW (s : Sta) (m : Mc) (wind : Int) : Ac :=
  bif eqS s.mode sIdle then (bif s.allowedN m (plainA sStart) == 4 then plainA sRepair else plainA sStart) else
  bif eqS s.mode sStop then (bif s.allowedN m (plainA sRest) == 0 then plainA sRest else ⟨sBrake, wind, 0, 0, s.stuck⟩) else
  bif s.allowedN m (s.tickA wind (s.pitchW m) (s.torW m)) == 0 then s.tickA wind (s.pitchW m) (s.torW m) else
  bif s.allowedN m (s.tickA wind m.fea (s.torW m)) == 0 then s.tickA wind m.fea (s.torW m) else plainA sStop
theorem plain_ok {m : Mc} (hm : m.ok) (k : ByteArray) : (plainA k).ok m := by
  obtain ⟨h1, h2, h3, h4, h5, h6, h7, h8⟩ := hm
  exact ⟨⟨Int.le_refl _, by show (0 : Int) ≤ _; omega⟩, ⟨Int.le_refl _, by show (0 : Int) ≤ _; omega⟩, ⟨Int.le_refl _, by show (0 : Int) ≤ _; omega⟩, by show (-1 : Int) ≤ -1; decide, by show (-1 : Int) ≤ 2; decide⟩
theorem pitch_rng {m : Mc} (hm : m.ok) (s : Sta) : 0 ≤ s.pitchW m ∧ s.pitchW m ≤ m.fea := by
  have := hm.fea
  unfold Sta.pitchW minW maxW
  split <;> split <;> omega
theorem tor_rng {m : Mc} (hm : m.ok) {s : Sta} (hs : 0 ≤ s.speed ∧ s.speed ≤ 10000) : 0 ≤ s.torW m ∧ s.torW m ≤ m.tor := by
  obtain ⟨h1, h2, h3, h4, h5, h6, h7, h8⟩ := hm
  have a1 : 0 ≤ m.tor * s.speed := Int.mul_nonneg h4.1 hs.1
  have a2 : m.tor * s.speed ≤ 100 * 10000 := Int.mul_le_mul h4.2 hs.2 hs.1 (by decide)
  have e1 : w64 (m.tor * s.speed) = m.tor * s.speed := by rw [w64, wrap_in] <;> omega
  have b1 : 0 ≤ (m.tor * s.speed).tdiv m.rated := Int.tdiv_nonneg a1 (by omega)
  have b2 : (m.tor * s.speed).tdiv m.rated ≤ m.tor * s.speed := by
    rw [Int.tdiv_eq_ediv_of_nonneg a1]
    exact Int.ediv_le_self _ a1
  have e2 : w64 ((m.tor * s.speed).tdiv m.rated) = (m.tor * s.speed).tdiv m.rated := by rw [w64, wrap_in] <;> omega
  unfold Sta.torW
  rw [e1, e2]
  unfold minW
  split <;> omega
theorem tick_ok {m : Mc} (hm : m.ok) {s : Sta} (hs : 0 ≤ s.speed ∧ s.speed ≤ 10000) (hst : -1 ≤ s.stuck ∧ s.stuck ≤ 2) {wind p : Int} (hw : 0 ≤ wind ∧ wind ≤ m.wind) (hp : 0 ≤ p ∧ p ≤ m.fea) : (s.tickA wind p (s.torW m)).ok m :=
  ⟨hw, hp, tor_rng hm hs, hst⟩
set_option maxHeartbeats 16000000 in
theorem c_propose (up : List Ces) (m : Mc) (s : Sta) (wind : Int) (hm : m.ok) (hs : s.rng m) (hsp : s.speed ≤ 10000) (hst : -1 ≤ s.stuck ∧ s.stuck ≤ 2) (hw : 0 ≤ wind ∧ wind ≤ m.wind) :
    Cs gl n_control_State_propose up [s.iv, m.iv, .int .i64 wind] (s.proposeW m wind).iv up := by
  refine mk h_control_State_propose rfl rfl ?_
  have hA := fun up (k : ByteArray) => c_allowedN (gl := gl) up m s (plainA k) hm hs (plain_ok hm k)
  have hT := fun up (p : Int) (hp : 0 ≤ p ∧ p ≤ m.fea) => c_allowedN (gl := gl) up m s (s.tickA wind p (s.torW m)) hm hs (tick_ok hm ⟨hs.speed.1, hsp⟩ hst hw hp)
  have hP := fun up (k : ByteArray) => c_plain (gl := gl) up k
  unfold Sta.proposeW
  cases q1 : eqS s.mode sIdle with
  | true =>
    have hA := fun up => hA up sStart
    cases q2 : s.allowedN m (plainA sStart) == 4 with
    | true =>
      conv => whnf
      refine DRAW.seek ?_
      repeat (first | refine TRYD.take ?_ | refine TRYD.next ?_)
      conv => whnf
      split
      rotate_left
      · rename_i h
        exact Bool.noConfusion ((q1).symm.trans h)
      rename_i hN
      clear hN
      conv => whnf
      repeat first
        | (refine DRAW.seek ?_; repeat (first | refine TRYD.take ?_ | refine TRYD.next ?_); conv => whnf)
        | (refine HOLD.mk (by first | exact trivial | exact ⟨⟨rfl, rfl⟩, trivial⟩ | exact ⟨⟨rfl, rfl⟩, ⟨rfl, rfl⟩, trivial⟩) ?_; (conv => whnf))
        | (refine CALL0.by (hP ..) rfl ?_; conv => whnf)
        | (refine CALLQ.mk _ _ _ (leL_refl _) (hP ..) rfl ?_; conv => whnf)
        | (refine CALL0.by (hA ..) rfl ?_; conv => whnf)
        | (refine CALLQ.mk _ _ _ (leL_refl _) (hA ..) rfl ?_; conv => whnf)
      split
      rotate_left
      · rename_i h
        exact Bool.noConfusion ((q2).symm.trans h)
      rename_i hN
      clear hN
      conv => whnf
      repeat first
        | (refine DRAW.seek ?_; repeat (first | refine TRYD.take ?_ | refine TRYD.next ?_); conv => whnf)
        | (refine HOLD.mk (by first | exact trivial | exact ⟨⟨rfl, rfl⟩, trivial⟩ | exact ⟨⟨rfl, rfl⟩, ⟨rfl, rfl⟩, trivial⟩) ?_; (conv => whnf))
        | (refine CALL0.by (hP ..) rfl ?_; conv => whnf)
        | (refine CALLQ.mk _ _ _ (leL_refl _) (hP ..) rfl ?_; conv => whnf)
      exact ⟨rfl, rfl⟩
    | false =>
      conv => whnf
      refine DRAW.seek ?_
      repeat (first | refine TRYD.take ?_ | refine TRYD.next ?_)
      conv => whnf
      split
      rotate_left
      · rename_i h
        exact Bool.noConfusion ((q1).symm.trans h)
      rename_i hN
      clear hN
      conv => whnf
      repeat first
        | (refine DRAW.seek ?_; repeat (first | refine TRYD.take ?_ | refine TRYD.next ?_); conv => whnf)
        | (refine HOLD.mk (by first | exact trivial | exact ⟨⟨rfl, rfl⟩, trivial⟩ | exact ⟨⟨rfl, rfl⟩, ⟨rfl, rfl⟩, trivial⟩) ?_; (conv => whnf))
        | (refine CALL0.by (hP ..) rfl ?_; conv => whnf)
        | (refine CALLQ.mk _ _ _ (leL_refl _) (hP ..) rfl ?_; conv => whnf)
        | (refine CALL0.by (hA ..) rfl ?_; conv => whnf)
        | (refine CALLQ.mk _ _ _ (leL_refl _) (hA ..) rfl ?_; conv => whnf)
      split
      · rename_i h
        exact Bool.noConfusion ((q2).symm.trans h)
      rename_i hN
      clear hN
      conv => whnf
      split
      rotate_left
      · rename_i h
        exact Bool.noConfusion ((q1).symm.trans h)
      rename_i hN
      clear hN
      conv => whnf
      repeat first
        | (refine DRAW.seek ?_; repeat (first | refine TRYD.take ?_ | refine TRYD.next ?_); conv => whnf)
        | (refine HOLD.mk (by first | exact trivial | exact ⟨⟨rfl, rfl⟩, trivial⟩ | exact ⟨⟨rfl, rfl⟩, ⟨rfl, rfl⟩, trivial⟩) ?_; (conv => whnf))
        | (refine CALL0.by (hP ..) rfl ?_; conv => whnf)
        | (refine CALLQ.mk _ _ _ (leL_refl _) (hP ..) rfl ?_; conv => whnf)
      exact ⟨rfl, rfl⟩
  | false =>
  cases q3 : eqS s.mode sStop with
  | true =>
    have hA := fun up => hA up sRest
    cases q2 : s.allowedN m (plainA sRest) == 0 with
    | true =>
      conv => whnf
      refine DRAW.seek ?_
      repeat (first | refine TRYD.take ?_ | refine TRYD.next ?_)
      conv => whnf
      split
      · rename_i h
        exact Bool.noConfusion ((q1).symm.trans h)
      rename_i hN
      clear hN
      conv => whnf
      split
      · rename_i h
        exact Bool.noConfusion ((q1).symm.trans h)
      rename_i hN
      clear hN
      conv => whnf
      refine DRAW.seek ?_
      repeat (first | refine TRYD.take ?_ | refine TRYD.next ?_)
      conv => whnf
      split
      rotate_left
      · rename_i h
        exact Bool.noConfusion ((q3).symm.trans h)
      rename_i hN
      clear hN
      conv => whnf
      repeat first
        | (refine DRAW.seek ?_; repeat (first | refine TRYD.take ?_ | refine TRYD.next ?_); conv => whnf)
        | (refine HOLD.mk (by first | exact trivial | exact ⟨⟨rfl, rfl⟩, trivial⟩ | exact ⟨⟨rfl, rfl⟩, ⟨rfl, rfl⟩, trivial⟩) ?_; (conv => whnf))
        | (refine CALL0.by (hP ..) rfl ?_; conv => whnf)
        | (refine CALLQ.mk _ _ _ (leL_refl _) (hP ..) rfl ?_; conv => whnf)
        | (refine CALL0.by (hA ..) rfl ?_; conv => whnf)
        | (refine CALLQ.mk _ _ _ (leL_refl _) (hA ..) rfl ?_; conv => whnf)
      split
      rotate_left
      · rename_i h
        exact Bool.noConfusion ((q2).symm.trans h)
      rename_i hN
      clear hN
      conv => whnf
      repeat first
        | (refine DRAW.seek ?_; repeat (first | refine TRYD.take ?_ | refine TRYD.next ?_); conv => whnf)
        | (refine HOLD.mk (by first | exact trivial | exact ⟨⟨rfl, rfl⟩, trivial⟩ | exact ⟨⟨rfl, rfl⟩, ⟨rfl, rfl⟩, trivial⟩) ?_; (conv => whnf))
        | (refine CALL0.by (hP ..) rfl ?_; conv => whnf)
        | (refine CALLQ.mk _ _ _ (leL_refl _) (hP ..) rfl ?_; conv => whnf)
      exact ⟨rfl, rfl⟩
    | false =>
      conv => whnf
      refine DRAW.seek ?_
      repeat (first | refine TRYD.take ?_ | refine TRYD.next ?_)
      conv => whnf
      split
      · rename_i h
        exact Bool.noConfusion ((q1).symm.trans h)
      rename_i hN
      clear hN
      conv => whnf
      split
      · rename_i h
        exact Bool.noConfusion ((q1).symm.trans h)
      rename_i hN
      clear hN
      conv => whnf
      refine DRAW.seek ?_
      repeat (first | refine TRYD.take ?_ | refine TRYD.next ?_)
      conv => whnf
      split
      rotate_left
      · rename_i h
        exact Bool.noConfusion ((q3).symm.trans h)
      rename_i hN
      clear hN
      conv => whnf
      repeat first
        | (refine DRAW.seek ?_; repeat (first | refine TRYD.take ?_ | refine TRYD.next ?_); conv => whnf)
        | (refine HOLD.mk (by first | exact trivial | exact ⟨⟨rfl, rfl⟩, trivial⟩ | exact ⟨⟨rfl, rfl⟩, ⟨rfl, rfl⟩, trivial⟩) ?_; (conv => whnf))
        | (refine CALL0.by (hP ..) rfl ?_; conv => whnf)
        | (refine CALLQ.mk _ _ _ (leL_refl _) (hP ..) rfl ?_; conv => whnf)
        | (refine CALL0.by (hA ..) rfl ?_; conv => whnf)
        | (refine CALLQ.mk _ _ _ (leL_refl _) (hA ..) rfl ?_; conv => whnf)
      split
      · rename_i h
        exact Bool.noConfusion ((q2).symm.trans h)
      rename_i hN
      clear hN
      conv => whnf
      split
      rotate_left
      · rename_i h
        exact Bool.noConfusion ((q3).symm.trans h)
      rename_i hN
      clear hN
      conv => whnf
      exact ⟨rfl, rfl⟩
  | false =>
    generalize hB1 : (s.allowedN m (s.tickA wind (s.pitchW m) (s.torW m)) == 0) = B1
    generalize hB2 : (s.allowedN m (s.tickA wind m.fea (s.torW m)) == 0) = B2
    have hr : m.rated ≠ 0 := by have := hm.rated; omega
    have qr : (m.rated != 0) = true := by simpa using hr
    have hT0 := fun up => hT up _ (pitch_rng hm s)
    have hT1 := fun up => hT up m.fea (by have := hm.fea; omega)
    conv => whnf
    refine DRAW.seek ?_
    repeat (first | refine TRYD.take ?_ | refine TRYD.next ?_)
    conv => whnf
    split
    · rename_i h
      exact Bool.noConfusion ((q1).symm.trans h)
    rename_i hN
    clear hN
    conv => whnf
    split
    · rename_i h
      exact Bool.noConfusion ((q1).symm.trans h)
    rename_i hN
    clear hN
    conv => whnf
    refine DRAW.seek ?_
    repeat (first | refine TRYD.take ?_ | refine TRYD.next ?_)
    conv => whnf
    split
    · rename_i h
      exact Bool.noConfusion ((q3).symm.trans h)
    rename_i hN
    clear hN
    conv => whnf
    split
    · rename_i h
      exact Bool.noConfusion ((q3).symm.trans h)
    rename_i hN
    clear hN
    conv => whnf
    refine DRAW.seek ?_
    repeat (first | refine TRYD.take ?_ | refine TRYD.next ?_)
    conv => whnf
    split
    rotate_left
    · rename_i h
      exact Bool.noConfusion ((qr).symm.trans h)
    rename_i hN
    clear hN
    conv => whnf
    refine .mk (α := {k : Nat // k ≤ 2 ∧ (1 ≤ k → B1 = false) ∧ (2 ≤ k → B2 = false)}) (fun k => ⟨[(79, .int .i64 k.1), (78, .agg [.int .i64 (s.pitchW m), .int .i64 m.fea]), (2, .int .i64 wind), (9, .int .i64 (s.torW m)), (7, .fn n_control_State_allowed [s.iv] []), (3, .ptr 0 3 0), (4, .ptr 0 4 0), (6, .ptr 0 6 0)],
      [(6, [.str ByteArray.empty, .int .i64 0, .int .i64 0, .int .i64 0, .int .i64 0]), (4, m.cs), (3, s.cs)], up⟩) (fun k => 2 - k.1) ⟨0, Nat.zero_le _, fun h => by omega, fun h => by omega⟩ ⟨?_, ?_, rfl, rfl⟩ ?_
    · exact ⟨leV_refl _, leV_refl _, leV_refl _, leV_refl _, leV_refl _, leV_refl _, leV_refl _, leV_refl _, trivial⟩
    · exact ⟨leL_refl _, leL_refl _, leL_refl _, trivial⟩
    rintro ⟨k, hk, hk1, hk2⟩
    obtain rfl | rfl | rfl : k = 0 ∨ k = 1 ∨ k = 2 := by omega
    · cases B1 with
      | true =>
        conv => whnf
        refine .mk _ _ _ _ _ (leL_refl _) (hT0 _) rfl ?_
        conv => whnf
        split
        rotate_left
        · rename_i h
          exact Bool.noConfusion ((hB1).symm.trans h)
        rename_i hN
        clear hN
        conv => whnf
        exact ⟨rfl, rfl⟩
      | false =>
        conv => whnf
        refine .mk _ _ _ _ _ (leL_refl _) (hT0 _) rfl ?_
        conv => whnf
        split
        · rename_i h
          exact Bool.noConfusion ((hB1).symm.trans h)
        rename_i hN
        clear hN
        conv => whnf
        exact ⟨⟨1, by omega, fun _ => rfl, fun h => by omega⟩, ⟨⟨leV_refl _, leV_refl _, leV_refl _, leV_refl _, leV_refl _, leV_refl _, leV_refl _, leV_refl _, trivial⟩, ⟨leL_refl _, leL_refl _, leL_refl _, trivial⟩, rfl, rfl⟩, by simp⟩
    · have e1 := hk1 (Nat.le_refl _)
      subst e1
      cases B2 with
      | true =>
        conv => whnf
        refine .mk _ _ _ _ _ (leL_refl _) (hT1 _) rfl ?_
        conv => whnf
        split
        rotate_left
        · rename_i h
          exact Bool.noConfusion ((hB2).symm.trans h)
        rename_i hN
        clear hN
        conv => whnf
        exact ⟨rfl, rfl⟩
      | false =>
        conv => whnf
        refine .mk _ _ _ _ _ (leL_refl _) (hT1 _) rfl ?_
        conv => whnf
        split
        · rename_i h
          exact Bool.noConfusion ((hB2).symm.trans h)
        rename_i hN
        clear hN
        conv => whnf
        exact ⟨⟨2, by omega, fun _ => rfl, fun _ => rfl⟩, ⟨⟨leV_refl _, leV_refl _, leV_refl _, leV_refl _, leV_refl _, leV_refl _, leV_refl _, leV_refl _, trivial⟩, ⟨leL_refl _, leL_refl _, leL_refl _, trivial⟩, rfl, rfl⟩, by simp⟩
    · have e1 := hk1 (by omega)
      have e2 := hk2 (Nat.le_refl _)
      subst e1 e2
      conv => whnf
      repeat first
        | (refine DRAW.seek ?_; repeat (first | refine TRYD.take ?_ | refine TRYD.next ?_); conv => whnf)
        | (refine HOLD.mk (by first | exact trivial | exact ⟨⟨rfl, rfl⟩, trivial⟩ | exact ⟨⟨rfl, rfl⟩, ⟨rfl, rfl⟩, trivial⟩) ?_; (conv => whnf))
        | (refine CALL0.by (hP ..) rfl ?_; conv => whnf)
        | (refine CALLQ.mk _ _ _ (leL_refl _) (hP ..) rfl ?_; conv => whnf)
      exact ⟨rfl, rfl⟩
noncomputable def proposeR (m : Mc) (s : Sta) (wind : Int) : IV := bif orL [s.err m, withinS wind 0 m.wind] != 0 then .tup [(Ac.mk ByteArray.empty 0 0 0 0).iv, .int .i64 (orL [s.err m, withinS wind 0 m.wind])] else .tup [(s.proposeW m wind).iv, .int .i64 0]
theorem c_Propose (up : List Ces) (m : Mc) (s : Sta) (wind : Int) : Cs gl n_control_Propose up [m.iv, s.iv, .int .i64 wind] (proposeR m s wind) up := by
  refine mk h_control_Propose rfl rfl ?_
  unfold proposeR
  by_cases h0 : orL [s.err m, withinS wind 0 m.wind] = 0
  · have h1 := h0
    rw [orL_zero] at h1
    simp only [List.mem_cons, List.not_mem_nil, or_false, forall_eq_or_imp, forall_eq, withinS_zero] at h1
    obtain ⟨hm, hs, hsp, hst, _⟩ := Sta.err_rng h1.1
    have hw := fun up => c_propose (gl := gl) up m s wind hm hs (by have := hm.lim; omega) hst h1.2
    have q : (orL [s.err m, withinS wind 0 m.wind] != 0) = false := by simpa using h0
    rw [q]
    conv => whnf
    repeat first
      | (refine DRAW.seek ?_; repeat (first | refine TRYD.take ?_ | refine TRYD.next ?_); conv => whnf)
      | (refine HOLD.mk (by first | exact trivial | exact ⟨⟨rfl, rfl⟩, trivial⟩ | exact ⟨⟨rfl, rfl⟩, ⟨rfl, rfl⟩, trivial⟩) ?_; (conv => whnf))
      | (refine CALL0.by (c_CheckState ..) rfl ?_; conv => whnf)
      | (refine CALLQ.mk _ _ _ (leL_refl _) (c_CheckState ..) rfl ?_; conv => whnf)
      | (refine CALL0.by (c_within ..) rfl ?_; conv => whnf)
      | (refine CALLQ.mk _ _ _ (leL_refl _) (c_within ..) rfl ?_; conv => whnf)
    refine .mk _ _ _ _ _ (leL_refl _) (c_f2 _ _ _ _ rfl rfl) rfl ?_
    conv => whnf
    split
    · rename_i h
      exact Bool.noConfusion ((q).symm.trans h)
    rename_i hN
    clear hN
    conv => whnf
    repeat first
      | (refine DRAW.seek ?_; repeat (first | refine TRYD.take ?_ | refine TRYD.next ?_); conv => whnf)
      | (refine HOLD.mk (by first | exact trivial | exact ⟨⟨rfl, rfl⟩, trivial⟩ | exact ⟨⟨rfl, rfl⟩, ⟨rfl, rfl⟩, trivial⟩) ?_; (conv => whnf))
      | (refine CALL0.by (hw ..) rfl ?_; conv => whnf)
      | (refine CALLQ.mk _ _ _ (leL_refl _) (hw ..) rfl ?_; conv => whnf)
    exact ⟨rfl, rfl⟩
  · have q : (orL [s.err m, withinS wind 0 m.wind] != 0) = true := by simpa using h0
    rw [q]
    conv => whnf
    repeat first
      | (refine DRAW.seek ?_; repeat (first | refine TRYD.take ?_ | refine TRYD.next ?_); conv => whnf)
      | (refine HOLD.mk (by first | exact trivial | exact ⟨⟨rfl, rfl⟩, trivial⟩ | exact ⟨⟨rfl, rfl⟩, ⟨rfl, rfl⟩, trivial⟩) ?_; (conv => whnf))
      | (refine CALL0.by (c_CheckState ..) rfl ?_; conv => whnf)
      | (refine CALLQ.mk _ _ _ (leL_refl _) (c_CheckState ..) rfl ?_; conv => whnf)
      | (refine CALL0.by (c_within ..) rfl ?_; conv => whnf)
      | (refine CALLQ.mk _ _ _ (leL_refl _) (c_within ..) rfl ?_; conv => whnf)
    refine .mk _ _ _ _ _ (leL_refl _) (c_f2 _ _ _ _ rfl rfl) rfl ?_
    conv => whnf
    split
    rotate_left
    · rename_i h
      exact Bool.noConfusion ((q).symm.trans h)
    rename_i hN
    clear hN
    conv => whnf
    exact ⟨rfl, rfl⟩
end Go.Proofs.YtkdlegfakefjgaaGreatDoor.Ix

namespace Go.Proofs.YtkdlegfakefjgaaGreatDoor.Ix
open Go.Proofs
set_option maxRecDepth 100000
set_option linter.unusedVariables false
set_option linter.unusedSimpArgs false
variable {gl : Nat → IV}
def eqSta (a b : Sta) : Bool := eqS a.mode b.mode && (a.speed == b.speed && (a.p0 == b.p0 && (a.p1 == b.p1 && (a.p2 == b.p2 && (a.tor == b.tor && (a.stuck == b.stuck && true))))))
def allB (p : Nat → Bool) : Nat → Nat → Bool
  | 0, _ => true
  | n + 1, i => p i && allB p n (i + 1)
theorem c_Equal (up : List Ces) (n k : Nat) (hn : n ≤ 10000000) (f g : Nat → Sta) :
    Cs gl n_slices_Equal_control_State_control_State up [.lst none 7 n fun i => (f i).cs, .lst none 7 k fun i => (g i).cs] (.bool (bif (n : Int) != k then false else allB (fun i => eqSta (f i) (g i)) n 0)) up := by
  refine mk h_slices_Equal_control_State_control_State rfl rfl ?_
  cases q0 : ((n : Int) != k) with
  | true =>
    conv => whnf
    split
    rotate_left
    · rename_i h
      exact Bool.noConfusion ((q0).symm.trans h)
    rename_i hN
    clear hN
    conv => whnf
    exact ⟨rfl, rfl⟩
  | false =>
    have hnk : n = k := by
      have : (n : Int) = k := by simpa using q0
      omega
    generalize hR : allB (fun i => eqSta (f i) (g i)) n 0 = R
    conv => whnf
    split
    · rename_i h
      exact Bool.noConfusion ((q0).symm.trans h)
    rename_i hN
    clear hN
    conv => whnf
    refine .mk (α := {i : Nat // i ≤ n ∧ allB (fun i => eqSta (f i) (g i)) (n - i) i = R}) (fun i => ⟨[(13, .int .i64 i.1), (12, .int .i64 n), (0, .lst none 7 n fun i => (f i).cs), (1, .lst none 7 k fun i => (g i).cs)], [], up⟩) (fun i => n - i.1) ⟨0, Nat.zero_le _, hR⟩ ⟨?_, trivial, rfl, rfl⟩ ?_
    · exact ⟨leV_refl _, leV_refl _, leV_refl _, leV_refl _, trivial⟩
    rintro ⟨i, hi, he⟩
    have hw : w64 ((i : Int) + 1) = ((i + 1 : Nat) : Int) := by rw [w64, wrap_in] <;> omega
    by_cases hlt : i < n
    · have q : decide ((i : Int) < n) = true := decide_eq_true (by omega)
      have q2 : decide ((i : Int) < k) = true := decide_eq_true (by omega)
      have hstep : allB (fun i => eqSta (f i) (g i)) (n - i) i = (eqSta (f i) (g i) && allB (fun i => eqSta (f i) (g i)) (n - (i + 1)) (i + 1)) := by
        rw [show n - i = (n - (i + 1)) + 1 by omega]; rfl
      cases q3 : eqSta (f i) (g i) with
      | true =>
        have q4 : (!eqSta (f i) (g i)) = false := by rw [q3]; rfl
        rw [q3, Bool.true_and] at hstep
        conv => whnf
        split
        rotate_left
        · rename_i h
          exact Bool.noConfusion ((q).symm.trans h)
        rename_i hN
        clear hN
        conv => whnf
        refine DRAW.seek ?_
        repeat (first | refine TRYD.take ?_ | refine TRYD.next ?_)
        conv => whnf
        split
        rotate_left
        · rename_i h
          exact Bool.noConfusion ((q).symm.trans h)
        rename_i hN
        clear hN
        conv => whnf
        split
        rotate_left
        · rename_i h
          exact Bool.noConfusion ((q2).symm.trans h)
        rename_i hN
        clear hN
        conv => whnf
        split
        · rename_i h
          exact Bool.noConfusion ((q4).symm.trans h)
        rename_i hN
        clear hN
        conv => whnf
        exact ⟨⟨i + 1, hlt, hstep.symm.trans he⟩, ⟨⟨leV_int hw, leV_refl _, leV_refl _, leV_refl _, trivial⟩, trivial, rfl, rfl⟩, (by show n - (i + 1) < n - i; omega)⟩
      | false =>
        have q4 : (!eqSta (f i) (g i)) = true := by rw [q3]; rfl
        rw [q3, Bool.false_and] at hstep
        conv => whnf
        split
        rotate_left
        · rename_i h
          exact Bool.noConfusion ((q).symm.trans h)
        rename_i hN
        clear hN
        conv => whnf
        refine DRAW.seek ?_
        repeat (first | refine TRYD.take ?_ | refine TRYD.next ?_)
        conv => whnf
        split
        rotate_left
        · rename_i h
          exact Bool.noConfusion ((q).symm.trans h)
        rename_i hN
        clear hN
        conv => whnf
        split
        rotate_left
        · rename_i h
          exact Bool.noConfusion ((q2).symm.trans h)
        rename_i hN
        clear hN
        conv => whnf
        split
        rotate_left
        · rename_i h
          exact Bool.noConfusion ((q4).symm.trans h)
        rename_i hN
        clear hN
        conv => whnf
        exact ⟨congrArg IV.bool (hstep.symm.trans he), rfl⟩
    · have q : decide ((i : Int) < n) = false := decide_eq_false (by omega)
      have e : i = n := by omega
      subst e
      rw [Nat.sub_self] at he
      conv => whnf
      split
      · rename_i h
        exact Bool.noConfusion ((q).symm.trans h)
      rename_i hN
      clear hN
      conv => whnf
      exact ⟨congrArg IV.bool he, rfl⟩
def Sta.stopS (s : Sta) (m : Mc) (stuck : Int) : Nat → Sta
  | 0 => s.here stuck
  | k + 1 => s.stepW m stuck (k + 1)
theorem stopF_eq (s : Sta) (m : Mc) (stuck : Int) : s.stopF m stuck = fun k => (s.stopS m stuck k).cs := by
  funext k
  cases k <;> rfl
def csErr0 (s : Sta) (m : Mc) (stuck : Int) (n : Nat) : Int := orL [s.err m, withinS stuck (-1) 2, bif decide ((n : Int) > 4096) then 5 else 0]
noncomputable def csErr (s : Sta) (m : Mc) (stuck : Int) (n : Nat) (f : Nat → Sta) : Int :=
  bif csErr0 s m stuck n != 0 then csErr0 s m stuck n else
  bif decide (s.most m stuck (s.num m stuck) > m.lim) then 22 else
  bif !(bif (n : Int) != ((1 + s.num m stuck : Nat) : Int) then false else allB (fun i => eqSta (f i) (s.stopS m stuck i)) n 0) then 22 else 0
set_option maxHeartbeats 8000000 in
theorem c_CheckStop (up : List Ces) (s : Sta) (m : Mc) (stuck : Int) (n : Nat) (hn : n ≤ 10000000) (f : Nat → Sta) :
    Cs gl n_control_CheckStop up [m.iv, s.iv, .int .i64 stuck, .lst none 7 n fun i => (f i).cs] (.int .i64 (csErr s m stuck n f)) up := by
  refine mk h_control_CheckStop rfl rfl ?_
  unfold csErr
  by_cases h0 : csErr0 s m stuck n = 0
  · have h1 := h0
    unfold csErr0 at h1
    rw [orL_zero] at h1
    simp only [List.mem_cons, List.not_mem_nil, or_false, forall_eq_or_imp, forall_eq, withinS_zero] at h1
    obtain ⟨g1, ⟨g2, g3⟩, g4⟩ := h1
    obtain ⟨hm, hs, hsp, _⟩ := Sta.err_rng g1
    have ht := takes_num hm hs (by have := hm.lim; omega) g2 g3
    have hp := fun up => c_stop (gl := gl) up s m stuck g2 g3 (s.num m stuck) ht.1 ht.2
    have hE := fun up => c_Equal (gl := gl) up n (1 + s.num m stuck) hn f (s.stopS m stuck)
    have q : (csErr0 s m stuck n != 0) = false := by simpa using h0
    rw [q]
    unfold Sta.stopR at hp
    rw [stopF_eq] at hp
    cases q2 : decide (s.most m stuck (s.num m stuck) > m.lim) with
    | true =>
      rw [q2] at hp
      conv => whnf
      repeat first
        | (refine DRAW.seek ?_; repeat (first | refine TRYD.take ?_ | refine TRYD.next ?_); conv => whnf)
        | (refine HOLD.mk (by first | exact trivial | exact ⟨⟨rfl, rfl⟩, trivial⟩ | exact ⟨⟨rfl, rfl⟩, ⟨rfl, rfl⟩, trivial⟩) ?_; (conv => whnf))
        | (refine CALL0.by (c_CheckState ..) rfl ?_; conv => whnf)
        | (refine CALLQ.mk _ _ _ (leL_refl _) (c_CheckState ..) rfl ?_; conv => whnf)
        | (refine CALL0.by (c_checkBlade ..) rfl ?_; conv => whnf)
        | (refine CALLQ.mk _ _ _ (leL_refl _) (c_checkBlade ..) rfl ?_; conv => whnf)
        | (refine CALL0.by (c_when ..) rfl ?_; conv => whnf)
        | (refine CALLQ.mk _ _ _ (leL_refl _) (c_when ..) rfl ?_; conv => whnf)
      refine .mk _ _ _ _ _ (leL_refl _) (c_f3 _ _ _ _ _ rfl rfl rfl) rfl ?_
      conv => whnf
      split
      · rename_i h
        exact Bool.noConfusion ((q).symm.trans h)
      rename_i hN
      clear hN
      conv => whnf
      repeat first
        | (refine DRAW.seek ?_; repeat (first | refine TRYD.take ?_ | refine TRYD.next ?_); conv => whnf)
        | (refine HOLD.mk (by first | exact trivial | exact ⟨⟨rfl, rfl⟩, trivial⟩ | exact ⟨⟨rfl, rfl⟩, ⟨rfl, rfl⟩, trivial⟩) ?_; (conv => whnf))
        | (refine CALL0.by (hp ..) rfl ?_; conv => whnf)
        | (refine CALLQ.mk _ _ _ (leL_refl _) (hp ..) rfl ?_; conv => whnf)
        | (refine CALL0.by (c_when ..) rfl ?_; conv => whnf)
        | (refine CALLQ.mk _ _ _ (leL_refl _) (c_when ..) rfl ?_; conv => whnf)
      exact ⟨rfl, rfl⟩
    | false =>
      rw [q2] at hp
      conv => whnf
      repeat first
        | (refine DRAW.seek ?_; repeat (first | refine TRYD.take ?_ | refine TRYD.next ?_); conv => whnf)
        | (refine HOLD.mk (by first | exact trivial | exact ⟨⟨rfl, rfl⟩, trivial⟩ | exact ⟨⟨rfl, rfl⟩, ⟨rfl, rfl⟩, trivial⟩) ?_; (conv => whnf))
        | (refine CALL0.by (c_CheckState ..) rfl ?_; conv => whnf)
        | (refine CALLQ.mk _ _ _ (leL_refl _) (c_CheckState ..) rfl ?_; conv => whnf)
        | (refine CALL0.by (c_checkBlade ..) rfl ?_; conv => whnf)
        | (refine CALLQ.mk _ _ _ (leL_refl _) (c_checkBlade ..) rfl ?_; conv => whnf)
        | (refine CALL0.by (c_when ..) rfl ?_; conv => whnf)
        | (refine CALLQ.mk _ _ _ (leL_refl _) (c_when ..) rfl ?_; conv => whnf)
      refine .mk _ _ _ _ _ (leL_refl _) (c_f3 _ _ _ _ _ rfl rfl rfl) rfl ?_
      conv => whnf
      split
      · rename_i h
        exact Bool.noConfusion ((q).symm.trans h)
      rename_i hN
      clear hN
      conv => whnf
      repeat first
        | (refine DRAW.seek ?_; repeat (first | refine TRYD.take ?_ | refine TRYD.next ?_); conv => whnf)
        | (refine HOLD.mk (by first | exact trivial | exact ⟨⟨rfl, rfl⟩, trivial⟩ | exact ⟨⟨rfl, rfl⟩, ⟨rfl, rfl⟩, trivial⟩) ?_; (conv => whnf))
        | (refine CALL0.by (hp ..) rfl ?_; conv => whnf)
        | (refine CALLQ.mk _ _ _ (leL_refl _) (hp ..) rfl ?_; conv => whnf)
      refine .mk _ _ _ _ _ ?_ (hE _) rfl ?_
      · exact ⟨leV_refl _, ⟨.inl rfl, rfl, rfl, fun i hi => rfl⟩, trivial⟩
      conv => whnf
      repeat first
        | (refine DRAW.seek ?_; repeat (first | refine TRYD.take ?_ | refine TRYD.next ?_); conv => whnf)
        | (refine HOLD.mk (by first | exact trivial | exact ⟨⟨rfl, rfl⟩, trivial⟩ | exact ⟨⟨rfl, rfl⟩, ⟨rfl, rfl⟩, trivial⟩) ?_; (conv => whnf))
        | (refine CALL0.by (c_when ..) rfl ?_; conv => whnf)
        | (refine CALLQ.mk _ _ _ (leL_refl _) (c_when ..) rfl ?_; conv => whnf)
      exact ⟨rfl, rfl⟩
  · have q : (csErr0 s m stuck n != 0) = true := by simpa using h0
    rw [q]
    conv => whnf
    repeat first
      | (refine DRAW.seek ?_; repeat (first | refine TRYD.take ?_ | refine TRYD.next ?_); conv => whnf)
      | (refine HOLD.mk (by first | exact trivial | exact ⟨⟨rfl, rfl⟩, trivial⟩ | exact ⟨⟨rfl, rfl⟩, ⟨rfl, rfl⟩, trivial⟩) ?_; (conv => whnf))
      | (refine CALL0.by (c_CheckState ..) rfl ?_; conv => whnf)
      | (refine CALLQ.mk _ _ _ (leL_refl _) (c_CheckState ..) rfl ?_; conv => whnf)
      | (refine CALL0.by (c_checkBlade ..) rfl ?_; conv => whnf)
      | (refine CALLQ.mk _ _ _ (leL_refl _) (c_checkBlade ..) rfl ?_; conv => whnf)
      | (refine CALL0.by (c_when ..) rfl ?_; conv => whnf)
      | (refine CALLQ.mk _ _ _ (leL_refl _) (c_when ..) rfl ?_; conv => whnf)
    refine .mk _ _ _ _ _ (leL_refl _) (c_f3 _ _ _ _ _ rfl rfl rfl) rfl ?_
    conv => whnf
    split
    rotate_left
    · rename_i h
      exact Bool.noConfusion ((q).symm.trans h)
    rename_i hN
    clear hN
    conv => whnf
    exact ⟨rfl, rfl⟩
end Go.Proofs.YtkdlegfakefjgaaGreatDoor.Ix

namespace Go.Proofs.YtkdlegfakefjgaaGreatDoor.Ix
open Go.Proofs
set_option maxRecDepth 100000
set_option linter.unusedVariables false
set_option linter.unusedSimpArgs false
variable {gl : Nat → IV}
structure Sta.inv (s : Sta) (m : Mc) : Prop where
  rng : s.rng m
  lim : s.speed ≤ m.lim
  stuck : -1 ≤ s.stuck ∧ s.stuck ≤ 2
theorem firstT_zero {f : Nat → Bool} : ∀ {n i : Nat}, firstT f n i = 0 → ∀ j, j < n → f (i + j) = false
  | 0, i, _, j, hj => by omega
  | n + 1, i, h, j, hj => by
    simp only [firstT] at h
    cases hb : f i with
    | true => rw [hb, cond_true] at h; omega
    | false =>
      rw [hb, cond_false] at h
      cases j with
      | zero => exact hb
      | succ j =>
        have := firstT_zero h j (by omega)
        rw [show i + (j + 1) = i + 1 + j by omega]; exact this
theorem inK_eq (x k l : ByteArray) : inK x k l = (eqS x k || eqS x l) := by
  unfold inK idxS idxS idxS
  cases eqS x k <;> cases eqS x l <;> rfl
theorem allowed_zero {s : Sta} {m : Mc} {a : Ac} (h : s.allowedN m a = 0) (i : Nat) (hi : i < 7) : s.ruleB m a (fun k => (s.behindW m a).num m k) i = false := by
  have := firstT_zero h i hi
  rwa [Nat.zero_add] at this
theorem allowed_speed {s : Sta} {m : Mc} {a : Ac} (h : s.allowedN m a = 0) (hk : eqS a.kind sTick = true ∨ eqS a.kind sBrake = true) : (s.behindW m a).speed ≤ m.lim := by
  have h7 := allowed_zero h 6 (by decide)
  have h7 : (inK a.kind sTick sBrake && s.rule7 m a (fun k => (s.behindW m a).num m k)) = false := h7
  rw [inK_eq, show (eqS a.kind sTick || eqS a.kind sBrake) = true by rcases hk with h | h <;> simp [h], Bool.true_and] at h7
  unfold Sta.rule7 at h7
  rw [Bool.or_eq_false_iff] at h7
  have := of_decide_eq_false h7.1
  omega
theorem kinds_ne {x k l : ByteArray} (h : eqS x k = true) (hne : k ≠ l) : eqS x l = false := by
  cases q : eqS x l with
  | false => rfl
  | true => exact absurd ((eqS_iff.1 h).symm.trans (eqS_iff.1 q)) hne
theorem behind_inv {m : Mc} (hm : m.ok) {s : Sta} (hs : s.inv m) {a : Ac} (ha : a.ok m) (h : s.allowedN m a = 0) : (s.behindW m a).inv m := by
  have hsp := fun hk => allowed_speed h hk
  obtain ⟨hr, hl, hst⟩ := hs
  have hlim := hm.lim
  cases q1 : eqS a.kind sStart with
  | true =>
    have e : s.behindW m a = { s with mode := sRun } := by unfold Sta.behindW; rw [q1]; rfl
    rw [e]; exact ⟨⟨hr.1, hr.2, hr.3, hr.4⟩, hl, hst⟩
  | false =>
  cases q2 : eqS a.kind sTick with
  | true =>
    have h1 := hsp (.inl q2)
    refine ⟨tick_rng hm hr ha q2 h1, h1, ?_⟩
    have e : s.behindW m a = Sta.laterW { s.movedW m a.pitch a.stuck with tor := a.tor } a.wind := by unfold Sta.behindW; rw [q1, q2]; rfl
    rw [e]
    show -1 ≤ (bif a.stuck != -1 then a.stuck else s.stuck) ∧ (bif a.stuck != -1 then a.stuck else s.stuck) ≤ 2
    cases (a.stuck != -1)
    · exact hst
    · exact ha.stuck
  | false =>
  cases q3 : eqS a.kind sStop with
  | true =>
    have e : s.behindW m a = { s with mode := sStop, tor := 0 } := by unfold Sta.behindW; rw [q1, q2, q3]; rfl
    rw [e]; exact ⟨⟨hr.1, hr.2, hr.3, hr.4⟩, hl, hst⟩
  | false =>
  cases q4 : eqS a.kind sBrake with
  | true =>
    have h1 := hsp (.inr q4)
    have e : s.behindW m a = s.brakedW m a.wind a.stuck := by unfold Sta.behindW; rw [q1, q2, q3, q4]; rfl
    have hw := hm.wind
    have haw := ha.wind
    rw [e] at h1 ⊢
    have hsr := hr.speed
    refine ⟨step_rng hm hr (by omega) a.wind a.stuck (by omega), h1, ?_⟩
    show -1 ≤ (bif a.stuck != -1 then a.stuck else s.stuck) ∧ (bif a.stuck != -1 then a.stuck else s.stuck) ≤ 2
    cases (a.stuck != -1)
    · exact hst
    · exact ha.stuck
  | false =>
  cases q5 : eqS a.kind sRest with
  | true =>
    have e : s.behindW m a = { s with mode := sIdle } := by unfold Sta.behindW; rw [q1, q2, q3, q4, q5]; rfl
    rw [e]; exact ⟨⟨hr.1, hr.2, hr.3, hr.4⟩, hl, hst⟩
  | false =>
  cases q6 : eqS a.kind sRepair with
  | true =>
    have e : s.behindW m a = { s with p0 := m.fea, p1 := m.fea, p2 := m.fea, stuck := -1 } := by unfold Sta.behindW; rw [q1, q2, q3, q4, q5, q6]; rfl
    have hf := hm.fea
    rw [e]
    exact ⟨⟨hr.1, by show 0 ≤ m.fea ∧ m.fea ≤ m.fea; omega, by show 0 ≤ m.fea ∧ m.fea ≤ m.fea; omega, by show 0 ≤ m.fea ∧ m.fea ≤ m.fea; omega⟩, hl, by show (-1 : Int) ≤ -1 ∧ (-1 : Int) ≤ 2; decide⟩
  | false =>
    have e : s.behindW m a = s := by unfold Sta.behindW; rw [q1, q2, q3, q4, q5, q6]; rfl
    rw [e]; exact ⟨hr, hl, hst⟩
def beginS (m : Mc) : Sta := ⟨sIdle, 0, m.fea, m.fea, m.fea, 0, -1⟩
theorem begin_inv {m : Mc} (hm : m.ok) : (beginS m).inv m := by
  obtain ⟨h1, h2, h3, h4, h5, h6, h7, h8⟩ := hm
  exact ⟨⟨by show (0 : Int) ≤ 0 ∧ (0 : Int) ≤ 1000000; decide, by show 0 ≤ m.fea ∧ m.fea ≤ m.fea; omega, by show 0 ≤ m.fea ∧ m.fea ≤ m.fea; omega, by show 0 ≤ m.fea ∧ m.fea ≤ m.fea; omega⟩, by show (0 : Int) ≤ m.lim; omega, by show (-1 : Int) ≤ -1 ∧ (-1 : Int) ≤ 2; decide⟩
def Ac.cs (a : Ac) : List IV := [.str a.kind, .int .i64 a.wind, .int .i64 a.pitch, .int .i64 a.tor, .int .i64 a.stuck]
def repS (m : Mc) (l : Nat → Ac) : Nat → Sta
  | 0 => beginS m
  | k + 1 => (repS m l k).behindW m (l k)
noncomputable def stepE (m : Mc) (l : Nat → Ac) (k : Nat) : Int := bif (l k).err m == 0 then (bif (repS m l k).allowedN m (l k) != 0 then 19 else 0) else (l k).err m
noncomputable def repE (m : Mc) (l : Nat → Ac) : Nat → Nat → Int × Int
  | 0, _ => (0, 0)
  | n + 1, i => bif stepE m l i != 0 then (((i + 1 : Nat) : Int), stepE m l i) else repE m l n (i + 1)
def repE0 (m : Mc) (n : Nat) : Int := orL [m.err, bif decide ((n : Int) > 1024) then 5 else 0]
noncomputable def repR (m : Mc) (n : Nat) (l : Nat → Ac) : IV :=
  bif repE0 m n != 0 then .tup [.nilS, .int .i64 0, .int .i64 (repE0 m n)] else
  bif (repE m l n 0).2 != 0 then .tup [.nilS, .int .i64 (repE m l n 0).1, .int .i64 (repE m l n 0).2] else
  .tup [.lst (some 56) 7 n fun i => (repS m l (i + 1)).cs, .int .i64 0, .int .i64 0]
set_option maxHeartbeats 16000000 in
theorem c_replay (up : List Ces) (hk : gl g_control_kinds = kindsI) (m : Mc) (n : Nat) (hn : n ≤ 10000000) (l : Nat → Ac) :
    Cs gl n_control_replay up [m.iv, .lst none 5 n fun i => (l i).cs] (repR m n l) up := by
  refine mk h_control_replay rfl rfl ?_
  unfold repR
  have hA := fun up k => c_CheckAct (gl := gl) up hk m (l k)
  by_cases h0 : repE0 m n = 0
  rotate_left
  · have q : (repE0 m n != 0) = true := by simpa using h0
    rw [q]
    conv => whnf
    repeat first
      | (refine DRAW.seek ?_; repeat (first | refine TRYD.take ?_ | refine TRYD.next ?_); conv => whnf)
      | (refine HOLD.mk (by first | exact trivial | exact ⟨⟨rfl, rfl⟩, trivial⟩ | exact ⟨⟨rfl, rfl⟩, ⟨rfl, rfl⟩, trivial⟩) ?_; (conv => whnf))
      | (refine CALL0.by (c_CheckMachine ..) rfl ?_; conv => whnf)
      | (refine CALLQ.mk _ _ _ (leL_refl _) (c_CheckMachine ..) rfl ?_; conv => whnf)
      | (refine CALL0.by (c_when ..) rfl ?_; conv => whnf)
      | (refine CALLQ.mk _ _ _ (leL_refl _) (c_when ..) rfl ?_; conv => whnf)
    refine .mk _ _ _ _ _ (leL_refl _) (c_f2 _ _ _ _ rfl rfl) rfl ?_
    conv => whnf
    split
    rotate_left
    · rename_i h
      exact Bool.noConfusion ((q).symm.trans h)
    rename_i hN
    clear hN
    conv => whnf
    exact ⟨rfl, rfl⟩
  have q : (repE0 m n != 0) = false := by simpa using h0
  rw [q]
  have hm : m.ok := by
    unfold repE0 at h0
    rw [orL_zero] at h0
    exact Mc.err_ok (h0 _ (by simp))
  generalize hR : repE m l n 0 = R
  conv => whnf
  repeat first
    | (refine DRAW.seek ?_; repeat (first | refine TRYD.take ?_ | refine TRYD.next ?_); conv => whnf)
    | (refine HOLD.mk (by first | exact trivial | exact ⟨⟨rfl, rfl⟩, trivial⟩ | exact ⟨⟨rfl, rfl⟩, ⟨rfl, rfl⟩, trivial⟩) ?_; (conv => whnf))
    | (refine CALL0.by (c_CheckMachine ..) rfl ?_; conv => whnf)
    | (refine CALLQ.mk _ _ _ (leL_refl _) (c_CheckMachine ..) rfl ?_; conv => whnf)
    | (refine CALL0.by (c_when ..) rfl ?_; conv => whnf)
    | (refine CALLQ.mk _ _ _ (leL_refl _) (c_when ..) rfl ?_; conv => whnf)
  refine .mk _ _ _ _ _ (leL_refl _) (c_f2 _ _ _ _ rfl rfl) rfl ?_
  conv => whnf
  split
  · rename_i h
    exact Bool.noConfusion ((q).symm.trans h)
  rename_i hN
  clear hN
  conv => whnf
  repeat first
    | (refine DRAW.seek ?_; repeat (first | refine TRYD.take ?_ | refine TRYD.next ?_); conv => whnf)
    | (refine HOLD.mk (by first | exact trivial | exact ⟨⟨rfl, rfl⟩, trivial⟩ | exact ⟨⟨rfl, rfl⟩, ⟨rfl, rfl⟩, trivial⟩) ?_; (conv => whnf))
    | (refine CALL0.by (c_begin ..) rfl ?_; conv => whnf)
    | (refine CALLQ.mk _ _ _ (leL_refl _) (c_begin ..) rfl ?_; conv => whnf)
  let F : Nat → List IV := fun i => (repS m l (i + 1)).cs
  refine .mk (α := {i : Nat // i ≤ n ∧ repE m l (n - i) i = R ∧ (repS m l i).inv m}) (fun i => ⟨[(28, .int .i64 i.1), (27, .int .i64 n), (26, .lst none 5 n fun i => (l i).cs), (8, .lst (some 56) 7 i.1 F), (2, .ptr 0 2 0), (9, .ptr 0 9 0)],
    [(9, (repS m l i.1).cs), (2, m.cs)], up⟩) (fun i => n - i.1) ⟨0, Nat.zero_le _, hR, begin_inv hm⟩ ⟨?_, ?_, rfl, rfl⟩ ?_
  · exact ⟨leV_refl _, leV_refl _, leV_refl _, rfl, leV_refl _, leV_refl _, trivial⟩
  · exact ⟨leL_refl _, leL_refl _, trivial⟩
  rintro ⟨i, hi, he, hs⟩
  have hw : w64 ((i : Int) + 1) = ((i + 1 : Nat) : Int) := by rw [w64, wrap_in] <;> omega
  by_cases hlt : i < n
  · have q : decide ((i : Int) < n) = true := decide_eq_true (by omega)
    have hA := fun up => hA up i
    have hstep : repE m l (n - i) i = bif stepE m l i != 0 then (((i + 1 : Nat) : Int), stepE m l i) else repE m l (n - (i + 1)) (i + 1) := by
      rw [show n - i = (n - (i + 1)) + 1 by omega]; rfl
    by_cases h1 : (l i).err m = 0
    rotate_left
    · have q1 : ((l i).err m == 0) = false := by simpa using h1
      have q2 : ((l i).err m != 0) = true := by simpa using h1
      have hse : stepE m l i = (l i).err m := by unfold stepE; rw [q1]; rfl
      rw [hse, q2, cond_true] at hstep
      have hR1 := hstep.symm.trans he
      have hRa : R.1 = ((i + 1 : Nat) : Int) := by rw [← hR1]
      have hRb : R.2 = (l i).err m := by rw [← hR1]
      have q3 : (R.2 != 0) = true := by rw [hRb]; exact q2
      rw [q3]
      conv => whnf
      split
      rotate_left
      · rename_i h
        exact Bool.noConfusion ((q).symm.trans h)
      rename_i hN
      clear hN
      conv => whnf
      split
      rotate_left
      · rename_i h
        exact Bool.noConfusion ((q).symm.trans h)
      rename_i hN
      clear hN
      conv => whnf
      repeat first
        | (refine DRAW.seek ?_; repeat (first | refine TRYD.take ?_ | refine TRYD.next ?_); conv => whnf)
        | (refine HOLD.mk (by first | exact trivial | exact ⟨⟨rfl, rfl⟩, trivial⟩ | exact ⟨⟨rfl, rfl⟩, ⟨rfl, rfl⟩, trivial⟩) ?_; (conv => whnf))
        | (refine CALL0.by (hA ..) rfl ?_; conv => whnf)
        | (refine CALLQ.mk _ _ _ (leL_refl _) (hA ..) rfl ?_; conv => whnf)
      split
      · rename_i h
        exact Bool.noConfusion ((q1).symm.trans h)
      rename_i hN
      clear hN
      conv => whnf
      split
      rotate_left
      · rename_i h
        exact Bool.noConfusion ((q2).symm.trans h)
      rename_i hN
      clear hN
      conv => whnf
      refine ⟨?_, rfl⟩
      rw [hRa, hRb]
      exact congrArg (fun x => IV.tup [.nilS, .int .i64 x, .int .i64 _]) hw
    · obtain ⟨_, ha, _, _⟩ := Ac.err_ok h1
      rw [h1] at hA
      have hw2 := fun up => c_allowedN (gl := gl) up m (repS m l i) (l i) hm hs.rng ha
      cases q2 : ((repS m l i).allowedN m (l i) != 0) with
      | true =>
        have qt : ((bif ((repS m l i).allowedN m (l i) != 0) then (19 : Int) else 0) != 0) = true := by rw [q2]; rfl
        have hse : stepE m l i = 19 := by unfold stepE; rw [h1, q2]; rfl
        rw [hse] at hstep
        have hR1 := hstep.symm.trans he
        have hRa : R.1 = ((i + 1 : Nat) : Int) := by rw [← hR1]; rfl
        have hRb : R.2 = 19 := by rw [← hR1]; rfl
        have q3 : (R.2 != 0) = true := by rw [hRb]; rfl
        rw [q3]
        conv => whnf
        split
        rotate_left
        · rename_i h
          exact Bool.noConfusion ((q).symm.trans h)
        rename_i hN
        clear hN
        conv => whnf
        split
        rotate_left
        · rename_i h
          exact Bool.noConfusion ((q).symm.trans h)
        rename_i hN
        clear hN
        conv => whnf
        repeat first
          | (refine DRAW.seek ?_; repeat (first | refine TRYD.take ?_ | refine TRYD.next ?_); conv => whnf)
          | (refine HOLD.mk (by first | exact trivial | exact ⟨⟨rfl, rfl⟩, trivial⟩ | exact ⟨⟨rfl, rfl⟩, ⟨rfl, rfl⟩, trivial⟩) ?_; (conv => whnf))
          | (refine CALL0.by (hA ..) rfl ?_; conv => whnf)
          | (refine CALLQ.mk _ _ _ (leL_refl _) (hA ..) rfl ?_; conv => whnf)
          | (refine CALL0.by (hw2 ..) rfl ?_; conv => whnf)
          | (refine CALLQ.mk _ _ _ (leL_refl _) (hw2 ..) rfl ?_; conv => whnf)
          | (refine CALL0.by (c_when ..) rfl ?_; conv => whnf)
          | (refine CALLQ.mk _ _ _ (leL_refl _) (c_when ..) rfl ?_; conv => whnf)
        split
        rotate_left
        · rename_i h
          exact Bool.noConfusion ((qt).symm.trans h)
        rename_i hN
        clear hN
        conv => whnf
        refine ⟨?_, rfl⟩
        rw [hRa, hRb]
        show IV.tup [.nilS, .int .i64 (w64 ((i : Int) + 1)), .int .i64 (bif ((repS m l i).allowedN m (l i) != 0) then (19 : Int) else 0)] = .tup [.nilS, .int .i64 ((i + 1 : Nat) : Int), .int .i64 19]
        rw [hw, q2]; rfl
      | false =>
        have qt : ((bif ((repS m l i).allowedN m (l i) != 0) then (19 : Int) else 0) != 0) = false := by rw [q2]; rfl
        have hse : stepE m l i = 0 := by unfold stepE; rw [h1, q2]; rfl
        rw [hse] at hstep
        have hR1 : repE m l (n - (i + 1)) (i + 1) = R := hstep.symm.trans he
        have hz : (repS m l i).allowedN m (l i) = 0 := by simpa using q2
        have hnx : (repS m l (i + 1)).inv m := behind_inv hm hs ha hz
        conv => whnf
        split
        rotate_left
        · rename_i h
          exact Bool.noConfusion ((q).symm.trans h)
        rename_i hN
        clear hN
        conv => whnf
        split
        rotate_left
        · rename_i h
          exact Bool.noConfusion ((q).symm.trans h)
        rename_i hN
        clear hN
        conv => whnf
        repeat first
          | (refine DRAW.seek ?_; repeat (first | refine TRYD.take ?_ | refine TRYD.next ?_); conv => whnf)
          | (refine HOLD.mk (by first | exact trivial | exact ⟨⟨rfl, rfl⟩, trivial⟩ | exact ⟨⟨rfl, rfl⟩, ⟨rfl, rfl⟩, trivial⟩) ?_; (conv => whnf))
          | (refine CALL0.by (hA ..) rfl ?_; conv => whnf)
          | (refine CALLQ.mk _ _ _ (leL_refl _) (hA ..) rfl ?_; conv => whnf)
          | (refine CALL0.by (hw2 ..) rfl ?_; conv => whnf)
          | (refine CALLQ.mk _ _ _ (leL_refl _) (hw2 ..) rfl ?_; conv => whnf)
          | (refine CALL0.by (c_when ..) rfl ?_; conv => whnf)
          | (refine CALLQ.mk _ _ _ (leL_refl _) (c_when ..) rfl ?_; conv => whnf)
        split
        · rename_i h
          exact Bool.noConfusion ((qt).symm.trans h)
        rename_i hN
        clear hN
        conv => whnf
        repeat first
          | (refine DRAW.seek ?_; repeat (first | refine TRYD.take ?_ | refine TRYD.next ?_); conv => whnf)
          | (refine HOLD.mk (by first | exact trivial | exact ⟨⟨rfl, rfl⟩, trivial⟩ | exact ⟨⟨rfl, rfl⟩, ⟨rfl, rfl⟩, trivial⟩) ?_; (conv => whnf))
          | (refine CALL0.by (c_behind ..) rfl ?_; conv => whnf)
          | (refine CALLQ.mk _ _ _ (leL_refl _) (c_behind ..) rfl ?_; conv => whnf)
        split
        rotate_left
        · rename_i h
          have h' : decide (i + 1 ≤ 1073741824) = false := h
          simp at h' <;> omega
        conv => whnf
        refine ⟨⟨i + 1, hlt, hR1, hnx⟩, ⟨⟨leV_int hw, leV_refl _, leV_refl _, ⟨.inr rfl, rfl, rfl, fun j hj => ?_⟩, leV_refl _, leV_refl _, trivial⟩, ⟨leL_refl _, leL_refl _, trivial⟩, rfl, rfl⟩, ?_⟩
        · show (if j < i then F j else litF 7 (F i) (j - i)) = F j
          split
          · rfl
          · have : j = i := by have : j < i + 1 := hj; omega
            subst this
            rw [Nat.sub_self]
            rfl
        · show n - (i + 1) < n - i
          omega
  · have q : decide ((i : Int) < n) = false := decide_eq_false (by omega)
    have e : i = n := by omega
    subst e
    rw [Nat.sub_self] at he
    have q3 : (R.2 != 0) = false := by rw [← he]; rfl
    rw [q3]
    conv => whnf
    split
    · rename_i h
      exact Bool.noConfusion ((q).symm.trans h)
    rename_i hN
    clear hN
    conv => whnf
    exact ⟨rfl, rfl⟩
def sta0 : Sta := ⟨ByteArray.empty, 0, 0, 0, 0, 0, 0⟩
theorem c_Replay (up : List Ces) (hk : gl g_control_kinds = kindsI) (m : Mc) (n : Nat) (hn : n ≤ 10000000) (l : Nat → Ac) :
    Cs gl n_control_Replay up [m.iv, .lst none 5 n fun i => (l i).cs] (bif repE0 m n != 0 then .tup [sta0.iv, .int .i64 0, .int .i64 (repE0 m n)] else bif (repE m l n 0).2 != 0 then .tup [sta0.iv, .int .i64 (repE m l n 0).1, .int .i64 (repE m l n 0).2] else .tup [(repS m l n).iv, .int .i64 0, .int .i64 0]) up := by
  refine mk h_control_Replay rfl rfl ?_
  have h := fun up => c_replay (gl := gl) up hk m n hn l
  unfold repR at h
  by_cases h0 : repE0 m n = 0
  rotate_left
  · have q : (repE0 m n != 0) = true := by simpa using h0
    rw [q, cond_true] at h
    rw [q, cond_true]
    conv => whnf
    repeat first
      | (refine DRAW.seek ?_; repeat (first | refine TRYD.take ?_ | refine TRYD.next ?_); conv => whnf)
      | (refine HOLD.mk (by first | exact trivial | exact ⟨⟨rfl, rfl⟩, trivial⟩ | exact ⟨⟨rfl, rfl⟩, ⟨rfl, rfl⟩, trivial⟩) ?_; (conv => whnf))
      | (refine CALL0.by (h ..) rfl ?_; conv => whnf)
      | (refine CALLQ.mk _ _ _ (leL_refl _) (h ..) rfl ?_; conv => whnf)
    split
    rotate_left
    · rename_i h
      exact Bool.noConfusion ((q).symm.trans h)
    rename_i hN
    clear hN
    conv => whnf
    exact ⟨rfl, rfl⟩
  have q : (repE0 m n != 0) = false := by simpa using h0
  rw [q, cond_false] at h
  rw [q, cond_false]
  cases q1 : ((repE m l n 0).2 != 0) with
  | true =>
    rw [q1, cond_true] at h
    conv => whnf
    repeat first
      | (refine DRAW.seek ?_; repeat (first | refine TRYD.take ?_ | refine TRYD.next ?_); conv => whnf)
      | (refine HOLD.mk (by first | exact trivial | exact ⟨⟨rfl, rfl⟩, trivial⟩ | exact ⟨⟨rfl, rfl⟩, ⟨rfl, rfl⟩, trivial⟩) ?_; (conv => whnf))
      | (refine CALL0.by (h ..) rfl ?_; conv => whnf)
      | (refine CALLQ.mk _ _ _ (leL_refl _) (h ..) rfl ?_; conv => whnf)
    split
    rotate_left
    · rename_i h
      exact Bool.noConfusion ((q1).symm.trans h)
    rename_i hN
    clear hN
    conv => whnf
    exact ⟨rfl, rfl⟩
  | false =>
    rw [q1, cond_false] at h
    conv => whnf
    repeat first
      | (refine DRAW.seek ?_; repeat (first | refine TRYD.take ?_ | refine TRYD.next ?_); conv => whnf)
      | (refine HOLD.mk (by first | exact trivial | exact ⟨⟨rfl, rfl⟩, trivial⟩ | exact ⟨⟨rfl, rfl⟩, ⟨rfl, rfl⟩, trivial⟩) ?_; (conv => whnf))
      | (refine CALL0.by (h ..) rfl ?_; conv => whnf)
      | (refine CALLQ.mk _ _ _ (leL_refl _) (h ..) rfl ?_; conv => whnf)
    by_cases hz : n = 0
    · subst hz
      conv => whnf
      repeat first
        | (refine DRAW.seek ?_; repeat (first | refine TRYD.take ?_ | refine TRYD.next ?_); conv => whnf)
        | (refine HOLD.mk (by first | exact trivial | exact ⟨⟨rfl, rfl⟩, trivial⟩ | exact ⟨⟨rfl, rfl⟩, ⟨rfl, rfl⟩, trivial⟩) ?_; (conv => whnf))
        | (refine CALL0.by (c_begin ..) rfl ?_; conv => whnf)
        | (refine CALLQ.mk _ _ _ (leL_refl _) (c_begin ..) rfl ?_; conv => whnf)
      exact ⟨rfl, rfl⟩
    · obtain ⟨k, rfl⟩ : ∃ k, n = k + 1 := ⟨n - 1, by omega⟩
      have qz : (((k + 1 : Nat) : Int) == 0) = false := by rw [beq_eq_false_iff_ne]; omega
      have hw : w64 (((k + 1 : Nat) : Int) - 1) = (k : Int) := by rw [w64, wrap_in] <;> omega
      have qa : decide (0 ≤ w64 (((k + 1 : Nat) : Int) - 1)) = true := by rw [hw]; exact decide_eq_true (by omega)
      have qb : decide (w64 (((k + 1 : Nat) : Int) - 1) < ((k + 1 : Nat) : Int)) = true := by rw [hw]; exact decide_eq_true (by omega)
      split
      · rename_i h
        exact Bool.noConfusion ((qz).symm.trans h)
      rename_i hN
      clear hN
      conv => whnf
      split
      rotate_left
      · rename_i h
        exact Bool.noConfusion ((qa).symm.trans h)
      rename_i hN
      clear hN
      conv => whnf
      split
      rotate_left
      · rename_i h
        exact Bool.noConfusion ((qb).symm.trans h)
      rename_i hN
      clear hN
      conv => whnf
      refine ⟨?_, rfl⟩
      show IV.tup [(repS m l ((w64 (((k + 1 : Nat) : Int) - 1)).toNat + 1)).iv, .int .i64 0, .int .i64 0] = _
      rw [hw]
      rfl
theorem c_f93 (up : List Ces) (s : Sta) : Cs gl n_control_Speeds_1 up [s.iv] (.int .i64 s.speed) up := by
  refine mk h_control_Speeds_1 rfl rfl ?_
  conv => whnf
  exact ⟨rfl, rfl⟩
theorem c_mapped (up : List Ces) (n : Nat) (hn : n ≤ 10000000) (f : Nat → Sta) :
    Cs gl n_control_mapped_control_State_int up [.lst none 7 n fun i => (f i).cs, .fn n_control_Speeds_1 [] []] (.lst (some 19) 1 n fun i => [.int .i64 (f i).speed]) up := by
  refine mk h_control_mapped_control_State_int rfl rfl ?_
  conv => whnf
  let F : Nat → List IV := fun i => [.int .i64 (f i).speed]
  refine .mk (α := {i : Nat // i ≤ n}) (fun i => ⟨[(10, .int .i64 i.1), (9, .int .i64 n), (8, .lst none 7 n fun i => (f i).cs), (5, .lst (some 19) 1 i.1 F), (1, .fn n_control_Speeds_1 [] [])], [], up⟩) (fun i => n - i.1) ⟨0, Nat.zero_le _⟩ ⟨?_, ?_, rfl, rfl⟩ ?_
  · exact ⟨leV_refl _, leV_refl _, leV_refl _, rfl, leV_refl _, trivial⟩
  · trivial
  rintro ⟨i, hi⟩
  have hw : w64 ((i : Int) + 1) = ((i + 1 : Nat) : Int) := by rw [w64, wrap_in] <;> omega
  by_cases hlt : i < n
  · have q : decide ((i : Int) < n) = true := decide_eq_true (by omega)
    conv => whnf
    split
    rotate_left
    · rename_i h
      exact Bool.noConfusion ((q).symm.trans h)
    rename_i hN
    clear hN
    conv => whnf
    split
    rotate_left
    · rename_i h
      exact Bool.noConfusion ((q).symm.trans h)
    rename_i hN
    clear hN
    conv => whnf
    repeat first
      | (refine DRAW.seek ?_; repeat (first | refine TRYD.take ?_ | refine TRYD.next ?_); conv => whnf)
      | (refine HOLD.mk (by first | exact trivial | exact ⟨⟨rfl, rfl⟩, trivial⟩ | exact ⟨⟨rfl, rfl⟩, ⟨rfl, rfl⟩, trivial⟩) ?_; (conv => whnf))
      | (refine CALL0.by (c_f93 ..) rfl ?_; conv => whnf)
      | (refine CALLQ.mk _ _ _ (leL_refl _) (c_f93 ..) rfl ?_; conv => whnf)
    split
    rotate_left
    · rename_i h
      have h' : decide (i + 1 ≤ 1073741824) = false := h
      simp at h' <;> omega
    conv => whnf
    refine ⟨⟨i + 1, hlt⟩, ⟨⟨leV_int hw, leV_refl _, leV_refl _, ⟨.inr rfl, rfl, rfl, fun j hj => ?_⟩, leV_refl _, trivial⟩, trivial, rfl, rfl⟩, (by show n - (i + 1) < n - i; omega)⟩
    show (if j < i then F j else litF 1 (F i) (j - i)) = F j
    split
    · rfl
    · have : j = i := by have : j < i + 1 := hj; omega
      subst this; rw [Nat.sub_self]; rfl
  · have q : decide ((i : Int) < n) = false := decide_eq_false (by omega)
    have e : i = n := by omega
    subst e
    conv => whnf
    split
    · rename_i h
      exact Bool.noConfusion ((q).symm.trans h)
    rename_i hN
    clear hN
    conv => whnf
    exact ⟨rfl, rfl⟩
theorem c_Speeds (up : List Ces) (hk : gl g_control_kinds = kindsI) (m : Mc) (n : Nat) (hn : n ≤ 10000000) (l : Nat → Ac) :
    Cs gl n_control_Speeds up [m.iv, .lst none 5 n fun i => (l i).cs] (bif repE0 m n != 0 then .tup [.nilS, .int .i64 (repE0 m n)] else bif (repE m l n 0).2 != 0 then .tup [.nilS, .int .i64 (repE m l n 0).2] else .tup [.lst (some 20) 1 n fun i => [.int .i64 (repS m l (i + 1)).speed], .int .i64 0]) up := by
  refine mk h_control_Speeds rfl rfl ?_
  have h := fun up => c_replay (gl := gl) up hk m n hn l
  unfold repR at h
  by_cases h0 : repE0 m n = 0
  rotate_left
  · have q : (repE0 m n != 0) = true := by simpa using h0
    rw [q, cond_true] at h
    rw [q, cond_true]
    conv => whnf
    repeat first
      | (refine DRAW.seek ?_; repeat (first | refine TRYD.take ?_ | refine TRYD.next ?_); conv => whnf)
      | (refine HOLD.mk (by first | exact trivial | exact ⟨⟨rfl, rfl⟩, trivial⟩ | exact ⟨⟨rfl, rfl⟩, ⟨rfl, rfl⟩, trivial⟩) ?_; (conv => whnf))
      | (refine CALL0.by (h ..) rfl ?_; conv => whnf)
      | (refine CALLQ.mk _ _ _ (leL_refl _) (h ..) rfl ?_; conv => whnf)
    split
    rotate_left
    · rename_i h
      exact Bool.noConfusion ((q).symm.trans h)
    rename_i hN
    clear hN
    conv => whnf
    exact ⟨rfl, rfl⟩
  have q : (repE0 m n != 0) = false := by simpa using h0
  rw [q, cond_false] at h
  rw [q, cond_false]
  cases q1 : ((repE m l n 0).2 != 0) with
  | true =>
    rw [q1, cond_true] at h
    conv => whnf
    repeat first
      | (refine DRAW.seek ?_; repeat (first | refine TRYD.take ?_ | refine TRYD.next ?_); conv => whnf)
      | (refine HOLD.mk (by first | exact trivial | exact ⟨⟨rfl, rfl⟩, trivial⟩ | exact ⟨⟨rfl, rfl⟩, ⟨rfl, rfl⟩, trivial⟩) ?_; (conv => whnf))
      | (refine CALL0.by (h ..) rfl ?_; conv => whnf)
      | (refine CALLQ.mk _ _ _ (leL_refl _) (h ..) rfl ?_; conv => whnf)
    split
    rotate_left
    · rename_i h
      exact Bool.noConfusion ((q1).symm.trans h)
    rename_i hN
    clear hN
    conv => whnf
    exact ⟨rfl, rfl⟩
  | false =>
    rw [q1, cond_false] at h
    conv => whnf
    repeat first
      | (refine DRAW.seek ?_; repeat (first | refine TRYD.take ?_ | refine TRYD.next ?_); conv => whnf)
      | (refine HOLD.mk (by first | exact trivial | exact ⟨⟨rfl, rfl⟩, trivial⟩ | exact ⟨⟨rfl, rfl⟩, ⟨rfl, rfl⟩, trivial⟩) ?_; (conv => whnf))
      | (refine CALL0.by (h ..) rfl ?_; conv => whnf)
      | (refine CALLQ.mk _ _ _ (leL_refl _) (h ..) rfl ?_; conv => whnf)
    refine .mk _ _ _ _ _ ?_ (c_mapped _ n hn (fun i => repS m l (i + 1))) rfl ?_
    · exact ⟨⟨.inl rfl, rfl, rfl, fun _ _ => rfl⟩, leV_refl _, trivial⟩
    conv => whnf
    exact ⟨rfl, rfl⟩
noncomputable def engS (m : Mc) (l : Nat → Ac) : Nat → Int
  | 0 => 0
  | k + 1 => bif eqS (l k).kind sTick then w64 (engS m l k + w64 ((repS m l (k + 1)).tor * (repS m l (k + 1)).speed)) else engS m l k
theorem c_Energy (up : List Ces) (hk : gl g_control_kinds = kindsI) (m : Mc) (n : Nat) (hn : n ≤ 10000000) (l : Nat → Ac) :
    Cs gl n_control_Energy up [m.iv, .lst none 5 n fun i => (l i).cs] (bif repE0 m n != 0 then .tup [.int .i64 0, .int .i64 (repE0 m n)] else bif (repE m l n 0).2 != 0 then .tup [.int .i64 0, .int .i64 (repE m l n 0).2] else .tup [.int .i64 (engS m l n), .int .i64 0]) up := by
  refine mk h_control_Energy rfl rfl ?_
  have h := fun up => c_replay (gl := gl) up hk m n hn l
  unfold repR at h
  by_cases h0 : repE0 m n = 0
  rotate_left
  · have q : (repE0 m n != 0) = true := by simpa using h0
    rw [q, cond_true] at h
    rw [q, cond_true]
    conv => whnf
    repeat first
      | (refine DRAW.seek ?_; repeat (first | refine TRYD.take ?_ | refine TRYD.next ?_); conv => whnf)
      | (refine HOLD.mk (by first | exact trivial | exact ⟨⟨rfl, rfl⟩, trivial⟩ | exact ⟨⟨rfl, rfl⟩, ⟨rfl, rfl⟩, trivial⟩) ?_; (conv => whnf))
      | (refine CALL0.by (h ..) rfl ?_; conv => whnf)
      | (refine CALLQ.mk _ _ _ (leL_refl _) (h ..) rfl ?_; conv => whnf)
    split
    rotate_left
    · rename_i h
      exact Bool.noConfusion ((q).symm.trans h)
    rename_i hN
    clear hN
    conv => whnf
    exact ⟨rfl, rfl⟩
  have q : (repE0 m n != 0) = false := by simpa using h0
  rw [q, cond_false] at h
  rw [q, cond_false]
  cases q1 : ((repE m l n 0).2 != 0) with
  | true =>
    rw [q1, cond_true] at h
    conv => whnf
    repeat first
      | (refine DRAW.seek ?_; repeat (first | refine TRYD.take ?_ | refine TRYD.next ?_); conv => whnf)
      | (refine HOLD.mk (by first | exact trivial | exact ⟨⟨rfl, rfl⟩, trivial⟩ | exact ⟨⟨rfl, rfl⟩, ⟨rfl, rfl⟩, trivial⟩) ?_; (conv => whnf))
      | (refine CALL0.by (h ..) rfl ?_; conv => whnf)
      | (refine CALLQ.mk _ _ _ (leL_refl _) (h ..) rfl ?_; conv => whnf)
    split
    rotate_left
    · rename_i h
      exact Bool.noConfusion ((q1).symm.trans h)
    rename_i hN
    clear hN
    conv => whnf
    exact ⟨rfl, rfl⟩
  | false =>
  rw [q1, cond_false] at h
  rw [cond_false]
  clear q1 q
  let F : Nat → List IV := fun i => (repS m l (i + 1)).cs
  conv => whnf
  repeat first
    | (refine DRAW.seek ?_; repeat (first | refine TRYD.take ?_ | refine TRYD.next ?_); conv => whnf)
    | (refine HOLD.mk (by first | exact trivial | exact ⟨⟨rfl, rfl⟩, trivial⟩ | exact ⟨⟨rfl, rfl⟩, ⟨rfl, rfl⟩, trivial⟩) ?_; (conv => whnf))
    | (refine CALL0.by (h ..) rfl ?_; conv => whnf)
    | (refine CALLQ.mk _ _ _ (leL_refl _) (h ..) rfl ?_; conv => whnf)
  refine .mk (α := {i : Nat // i ≤ n}) (fun i => ⟨[(24, .int .i64 i.1), (23, .int .i64 n), (22, .lst none 7 n F), (9, .int .i64 (engS m l i.1)), (1, .lst none 5 n fun i => (l i).cs)], [], up⟩) (fun i => n - i.1) ⟨0, Nat.zero_le _⟩ ⟨?_, ?_, rfl, rfl⟩ ?_
  · exact ⟨leV_refl _, leV_refl _, ⟨.inl rfl, rfl, rfl, fun _ _ => rfl⟩, leV_refl _, leV_refl _, trivial⟩
  · trivial
  rintro ⟨i, hi⟩
  have hw : w64 ((i : Int) + 1) = ((i + 1 : Nat) : Int) := by rw [w64, wrap_in] <;> omega
  by_cases hlt : i < n
  · have q : decide ((i : Int) < n) = true := decide_eq_true (by omega)
    cases qk : eqS (l i).kind sTick with
    | true =>
      conv => whnf
      split
      rotate_left
      · rename_i h
        exact Bool.noConfusion ((q).symm.trans h)
      rename_i hN
      clear hN
      conv => whnf
      split
      rotate_left
      · rename_i h
        exact Bool.noConfusion ((q).symm.trans h)
      rename_i hN
      clear hN
      conv => whnf
      split
      rotate_left
      · rename_i h
        exact Bool.noConfusion ((q).symm.trans h)
      rename_i hN
      clear hN
      conv => whnf
      split
      rotate_left
      · rename_i h
        exact Bool.noConfusion ((qk).symm.trans h)
      rename_i hN
      clear hN
      conv => whnf
      refine ⟨⟨i + 1, hlt⟩, ⟨⟨leV_int hw, leV_refl _, leV_refl _, leV_int ?_, leV_refl _, trivial⟩, trivial, rfl, rfl⟩, (by show n - (i + 1) < n - i; omega)⟩
      show w64 (engS m l i + w64 ((repS m l (i + 1)).tor * (repS m l (i + 1)).speed)) = engS m l (i + 1)
      conv => rhs; unfold engS
      rw [qk]; rfl
    | false =>
      conv => whnf
      split
      rotate_left
      · rename_i h
        exact Bool.noConfusion ((q).symm.trans h)
      rename_i hN
      clear hN
      conv => whnf
      split
      rotate_left
      · rename_i h
        exact Bool.noConfusion ((q).symm.trans h)
      rename_i hN
      clear hN
      conv => whnf
      split
      rotate_left
      · rename_i h
        exact Bool.noConfusion ((q).symm.trans h)
      rename_i hN
      clear hN
      conv => whnf
      split
      · rename_i h
        exact Bool.noConfusion ((qk).symm.trans h)
      rename_i hN
      clear hN
      conv => whnf
      refine ⟨⟨i + 1, hlt⟩, ⟨⟨leV_int hw, leV_refl _, leV_refl _, leV_int ?_, leV_refl _, trivial⟩, trivial, rfl, rfl⟩, (by show n - (i + 1) < n - i; omega)⟩
      show engS m l i = engS m l (i + 1)
      conv => rhs; unfold engS
      rw [qk]; rfl
  · have q : decide ((i : Int) < n) = false := decide_eq_false (by omega)
    have e : i = n := by omega
    subst e
    conv => whnf
    split
    · rename_i h
      exact Bool.noConfusion ((q).symm.trans h)
    rename_i hN
    clear hN
    conv => whnf
    exact ⟨rfl, rfl⟩
end Go.Proofs.YtkdlegfakefjgaaGreatDoor.Ix

namespace Go.Proofs.YtkdlegfakefjgaaGreatDoor.Ix
open Go.Proofs
set_option maxRecDepth 100000
set_option linter.unusedVariables false
set_option linter.unusedSimpArgs false
variable {gl : Nat → IV}
def srch (P : Nat → Bool) : Nat → Nat → Nat → Nat
  | 0, i, _ => i
  | f + 1, i, j => bif decide (i < j) then (bif P ((i + j) / 2) then srch P f i ((i + j) / 2) else srch P f ((i + j) / 2 + 1) j) else i
theorem half_eq {i j n : Nat} (hn : n ≤ 1000000) (hi : i ≤ n) (hj : j ≤ n) :
    IntKind.i64.wrap ((IntKind.u64.wrap (IntKind.i64.wrap ((i : Int) + (j : Int)))).fdiv (2 ^ min (Int.toNat 1) IntKind.u64.bits)) = (((i + j) / 2 : Nat) : Int) := by
  rw [wrap_in (n := (i : Int) + (j : Int)) (by omega) (by omega)]
  have e : IntKind.u64.wrap ((i : Int) + (j : Int)) = (i : Int) + (j : Int) := by
    unfold IntKind.wrap
    simp [IntKind.bits, IntKind.signed]
    omega
  rw [e, show (2 : Int) ^ min (Int.toNat 1) IntKind.u64.bits = 2 from rfl, Int.fdiv_eq_ediv_of_nonneg _ (by decide), wrap_in (by omega) (by omega)]
  omega
set_option maxHeartbeats 8000000 in
theorem c_Search (B : Ces) (up : List Ces) (n : Nat) (hn : n ≤ 1000000) (P : Nat → Bool) (k d1 d2 : Nat)
    (hk : ∀ i : Nat, i < n → Cs gl k ([] :: B :: up) [.int .i64 i, .ptr 2 d1 0, .ptr 2 d2 0] (.bool (P i)) ([] :: B :: up)) :
    Cs gl n_sort_Search (B :: up) [.int .i64 n, .fn k [] [.ptr 1 d1 0, .ptr 1 d2 0]] (.int .i64 (srch P n 0 n)) (B :: up) := by
  refine mk h_sort_Search rfl rfl ?_
  generalize hR : srch P n 0 n = R
  conv => whnf
  refine .mk (α := {x : Nat × Nat × Nat // x.1 ≤ x.2.1 ∧ x.2.1 ≤ n ∧ x.2.1 - x.1 ≤ x.2.2 ∧ srch P x.2.2 x.1 x.2.1 = R}) (fun x => ⟨[(6, .int .i64 x.1.2.1), (5, .int .i64 x.1.1), (1, .fn k [] [.ptr 1 d1 0, .ptr 1 d2 0])], [], B :: up⟩) (fun x => x.1.2.1 - x.1.1) ⟨(0, n, n), Nat.zero_le _, Nat.le_refl _, Nat.le_refl _, hR⟩ ⟨?_, trivial, rfl, rfl⟩ ?_
  · exact ⟨leV_refl _, leV_refl _, leV_refl _, trivial⟩
  rintro ⟨⟨i, j, f⟩, h1, h2, h3, h4⟩
  replace h1 : i ≤ j := h1
  replace h2 : j ≤ n := h2
  replace h3 : j - i ≤ f := h3
  replace h4 : srch P f i j = R := h4
  by_cases hlt : i < j
  · have q : decide ((i : Int) < (j : Int)) = true := decide_eq_true (by omega)
    obtain ⟨g, rfl⟩ : ∃ g, f = g + 1 := ⟨f - 1, by omega⟩
    unfold srch at h4
    rw [decide_eq_true hlt, cond_true] at h4
    have hv := half_eq (i := i) (j := j) hn (by omega) h2
    generalize hh : (i + j) / 2 = h at h4 hv
    have hw : w64 ((h : Int) + 1) = ((h + 1 : Nat) : Int) := by rw [w64, wrap_in] <;> omega
    have hc := hk h (by omega)
    cases qP : P h with
    | true =>
      rw [qP] at hc
      rw [qP, cond_true] at h4
      conv => whnf
      split
      rotate_left
      · rename_i h
        exact Bool.noConfusion ((q).symm.trans h)
      rename_i hN
      clear hN
      conv => whnf
      refine .mk _ _ _ _ _ ?_ hc rfl ?_
      · exact ⟨leV_int hv, leV_refl _, leV_refl _, trivial⟩
      conv => whnf
      refine ⟨⟨(i, h, g), by show i ≤ h; omega, by show h ≤ n; omega, by show h - i ≤ g; omega, h4⟩, ⟨⟨leV_int hv, leV_refl _, leV_refl _, trivial⟩, trivial, rfl, rfl⟩, ?_⟩
      show h - i < j - i
      omega
    | false =>
      rw [qP] at hc
      rw [qP, cond_false] at h4
      conv => whnf
      split
      rotate_left
      · rename_i h
        exact Bool.noConfusion ((q).symm.trans h)
      rename_i hN
      clear hN
      conv => whnf
      refine .mk _ _ _ _ _ ?_ hc rfl ?_
      · exact ⟨leV_int hv, leV_refl _, leV_refl _, trivial⟩
      conv => whnf
      refine ⟨⟨(h + 1, j, g), by show h + 1 ≤ j; omega, h2, by show j - (h + 1) ≤ g; omega, h4⟩, ⟨⟨leV_refl _, leV_int ?_, leV_refl _, trivial⟩, trivial, rfl, rfl⟩, ?_⟩
      · show w64 (IntKind.i64.wrap ((IntKind.u64.wrap (IntKind.i64.wrap ((i : Int) + (j : Int)))).fdiv (2 ^ min (Int.toNat 1) IntKind.u64.bits)) + 1) = _
        rw [hv, hw]
      · show j - (h + 1) < j - i
        omega
  · have q : decide ((i : Int) < (j : Int)) = false := decide_eq_false (by omega)
    have e : srch P f i j = i := by
      cases f with
      | zero => rfl
      | succ g => unfold srch; rw [decide_eq_false hlt]; rfl
    rw [e] at h4
    subst h4
    conv => whnf
    split
    · rename_i h
      exact Bool.noConfusion ((q).symm.trans h)
    rename_i hN
    clear hN
    conv => whnf
    exact ⟨rfl, rfl⟩
def atS (angle speed : Int) : Sta := ⟨sRun, speed, angle, angle, angle, 0, -1⟩
theorem c_f119 (X Y B : Ces) (up : List Ces) (x a : Int) (d : Nat) (hc : lookC B d = some [.int .i64 a]) : Cs gl n_control_Table_1 (X :: Y :: B :: up) [.int .i64 x, .ptr 3 d 0] (atS a x).iv (X :: Y :: B :: up) := by
  refine mk h_control_Table_1 rfl rfl ?_
  conv => whnf
  split
  rotate_left
  · rename_i h; exact absurd (hc.symm.trans h) nofun
  rename_i c0 h
  obtain rfl := Option.some.inj (hc.symm.trans h)
  clear h
  conv => whnf
  split
  rotate_left
  · rename_i h; exact absurd (hc.symm.trans h) nofun
  rename_i c0 h
  obtain rfl := Option.some.inj (hc.symm.trans h)
  clear h
  conv => whnf
  split
  rotate_left
  · rename_i h; exact absurd (hc.symm.trans h) nofun
  rename_i c0 h
  obtain rfl := Option.some.inj (hc.symm.trans h)
  clear h
  conv => whnf
  exact ⟨rfl, rfl⟩
theorem c_f121 (Y B : Ces) (up : List Ces) (m : Mc) (N : Nat → Nat) (x a : Int) (d1 d2 d : Nat) (h1 : lookC B d1 = some [.fn n_control_Table_1 [] [.ptr 0 d 0]]) (h2 : lookC B d2 = some m.cs) (hc : lookC B d = some [.int .i64 a])
    (hn : ∀ k, k < 3 → (atS a x).takes m (k : Nat) (N k) ∧ N k ≤ 1000000) :
    Cs gl n_control_Table_2 (Y :: B :: up) [.int .i64 x, .ptr 2 d1 0, .ptr 2 d2 0] (.bool (!(atS a x).safeB m N)) (Y :: B :: up) := by
  refine mk h_control_Table_2 rfl rfl ?_
  have hs := fun up => c_safe (gl := gl) up (atS a x) m N hn
  have hf := fun X => c_f119 (gl := gl) X Y B up x a d hc
  conv => whnf
  refine DRAW.seek ?_
  repeat (first | refine TRYD.take ?_ | refine TRYD.next ?_)
  conv => whnf
  split
  rotate_left
  · rename_i h; exact absurd (h1.symm.trans h) nofun
  rename_i c0 h
  obtain rfl := Option.some.inj (h1.symm.trans h)
  clear h
  conv => whnf
  first | refine CALLQ.mk _ _ _ (leL_refl _) (hf _) rfl ?_ | refine CALL0.mk _ _ _ _ _ (leL_refl _) (hf _) rfl ?_
  conv => whnf
  split
  rotate_left
  · rename_i h; exact absurd (h2.symm.trans h) nofun
  rename_i c0 h
  obtain rfl := Option.some.inj (h2.symm.trans h)
  clear h
  conv => whnf
  first | refine CALLQ.mk _ _ _ (leL_refl _) (hs _) rfl ?_ | refine CALL0.mk _ _ _ _ _ (leL_refl _) (hs _) rfl ?_
  conv => whnf
  exact ⟨rfl, rfl⟩
structure Rw where
  pitch : Int
  speed : Int
def Rw.cs (r : Rw) : List IV := [.int .i64 r.pitch, .int .i64 r.speed]
def firstS0 (m : Mc) (N : Int → Int → Nat → Nat) (a : Int) : Nat := srch (fun v => !(atS a v).safeB m (N a v)) (m.lim + 1).toNat 0 (m.lim + 1).toNat
def rowsOf (m : Mc) (N : Int → Int → Nat → Nat) : Nat → List Rw
  | 0 => []
  | k + 1 => bif decide (0 < firstS0 m N k) then rowsOf m N k ++ [⟨k, (firstS0 m N k : Int) - 1⟩] else rowsOf m N k
theorem rowsOf_len (m : Mc) (N : Int → Int → Nat → Nat) : ∀ k, (rowsOf m N k).length ≤ k
  | 0 => Nat.le_refl _
  | k + 1 => by
    have := rowsOf_len m N k
    unfold rowsOf
    cases decide (0 < firstS0 m N k) <;> simp <;> omega
def row0 : Rw := ⟨0, 0⟩
def tableR (m : Mc) (N : Int → Int → Nat → Nat) : IV :=
  bif m.err != 0 then .tup [.nilS, .int .i64 m.err] else .tup [.lst (some 34) 2 (rowsOf m N (m.fea + 1).toNat).length fun i => ((rowsOf m N (m.fea + 1).toNat).getD i row0).cs, .int .i64 0]
theorem srch_le (P : Nat → Bool) : ∀ f i j, i ≤ j → srch P f i j ≤ j
  | 0, i, j, h => h
  | f + 1, i, j, h => by
    unfold srch
    cases q : decide (i < j) with
    | false => exact h
    | true =>
      have := of_decide_eq_true q
      cases P ((i + j) / 2) with
      | true => have := srch_le P f i ((i + j) / 2) (by omega); simp only [cond_true]; omega
      | false => have := srch_le P f ((i + j) / 2 + 1) j (by omega); simp only [cond_true, cond_false]; omega
set_option maxHeartbeats 8000000 in
theorem c_Table (up : List Ces) (m : Mc) (N : Int → Int → Nat → Nat)
    (hn : m.ok → ∀ (a v : Int), 0 ≤ a → a ≤ m.fea → 0 ≤ v → v ≤ m.lim → ∀ k : Nat, k < 3 → (atS a v).takes m k (N a v k) ∧ N a v k ≤ 1000000) :
    Cs gl n_control_Table up [m.iv] (tableR m N) up := by
  refine mk h_control_Table rfl rfl ?_
  unfold tableR
  by_cases h0 : m.err = 0
  rotate_left
  · have q : (m.err != 0) = true := by simpa using h0
    rw [q, cond_true]
    conv => whnf
    repeat first
      | (refine DRAW.seek ?_; repeat (first | refine TRYD.take ?_ | refine TRYD.next ?_); conv => whnf)
      | (refine HOLD.mk (by first | exact trivial | exact ⟨⟨rfl, rfl⟩, trivial⟩ | exact ⟨⟨rfl, rfl⟩, ⟨rfl, rfl⟩, trivial⟩) ?_; (conv => whnf))
      | (refine CALL0.by (c_CheckMachine ..) rfl ?_; conv => whnf)
      | (refine CALLQ.mk _ _ _ (leL_refl _) (c_CheckMachine ..) rfl ?_; conv => whnf)
    split
    rotate_left
    · rename_i h
      exact Bool.noConfusion ((q).symm.trans h)
    rename_i hN
    clear hN
    conv => whnf
    exact ⟨rfl, rfl⟩
  have q : (m.err != 0) = false := by simpa using h0
  have hm : m.ok := Mc.err_ok h0
  rw [q, cond_false]
  replace hn := hn hm
  have hf := hm.fea
  have hl := hm.lim
  conv => whnf
  repeat first
    | (refine DRAW.seek ?_; repeat (first | refine TRYD.take ?_ | refine TRYD.next ?_); conv => whnf)
    | (refine HOLD.mk (by first | exact trivial | exact ⟨⟨rfl, rfl⟩, trivial⟩ | exact ⟨⟨rfl, rfl⟩, ⟨rfl, rfl⟩, trivial⟩) ?_; (conv => whnf))
    | (refine CALL0.by (c_CheckMachine ..) rfl ?_; conv => whnf)
    | (refine CALLQ.mk _ _ _ (leL_refl _) (c_CheckMachine ..) rfl ?_; conv => whnf)
  split
  · rename_i h
    exact Bool.noConfusion ((q).symm.trans h)
  rename_i hN
  clear hN
  conv => whnf
  generalize hF : (m.fea + 1).toNat = F
  generalize hL : (m.lim + 1).toNat = L
  let G : Nat → Nat → List IV := fun k i => ((rowsOf m N k).getD i row0).cs
  have hwF : w64 (m.fea + 1) = (F : Int) := by rw [w64, wrap_in] <;> omega
  have hwL : w64 (m.lim + 1) = (L : Int) := by rw [w64, wrap_in] <;> omega
  refine .mk (α := {k : Nat // k ≤ F}) (fun k => ⟨[(17, .int .i64 k.1), (16, .int .i64 F), (5, .lst (some 34) 2 (rowsOf m N k.1).length (G k.1)), (1, .ptr 0 1 0)], [(1, m.cs)], up⟩) (fun k => F - k.1) ⟨0, Nat.zero_le _⟩ ⟨?_, ⟨leL_refl _, trivial⟩, rfl, rfl⟩ ?_
  · exact ⟨leV_refl _, leV_int hwF, rfl, leV_refl _, trivial⟩
  rintro ⟨k, hk⟩
  have hw : w64 ((k : Int) + 1) = ((k + 1 : Nat) : Int) := by rw [w64, wrap_in] <;> omega
  by_cases hlt : k < F
  · have q : decide ((k : Int) < F) = true := decide_eq_true (by omega)
    have hr : firstS0 m N k ≤ L := by
      unfold firstS0; rw [hL]; exact srch_le _ _ _ _ (Nat.zero_le _)
    have hS := c_Search (gl := gl) [(7, [.fn n_control_Table_1 [] [.ptr 0 6 0]]), (6, [.int .i64 k]), (1, m.cs)] up L (by omega) (fun v => !(atS k v).safeB m (N k v)) n_control_Table_2 7 1
      (fun v hv => c_f121 [] _ up m (N k v) v k 7 1 6 rfl rfl rfl (hn k v (by omega) (by omega) (by omega) (by omega)))
    have e0 : srch (fun v => !(atS k v).safeB m (N k v)) L 0 L = firstS0 m N k := by unfold firstS0; rw [hL]
    rw [e0] at hS
    cases qz : decide (0 < firstS0 m N k) with
    | true =>
      have hz := of_decide_eq_true qz
      have qz' : decide (((firstS0 m N k : Nat) : Int) > 0) = true := decide_eq_true (by omega)
      have e1 : rowsOf m N (k + 1) = rowsOf m N k ++ [⟨k, (firstS0 m N k : Int) - 1⟩] := by
        conv => lhs; unfold rowsOf
        rw [qz]; rfl
      have hlen := rowsOf_len m N k
      have hv : w64 (((firstS0 m N k : Nat) : Int) - 1) = (firstS0 m N k : Int) - 1 := by rw [w64, wrap_in] <;> omega
      conv => whnf
      split
      rotate_left
      · rename_i h
        exact Bool.noConfusion ((q).symm.trans h)
      rename_i hN
      clear hN
      conv => whnf
      refine .mk _ _ _ _ _ ?_ hS rfl ?_
      · exact ⟨leV_int hwL, leV_refl _, trivial⟩
      conv => whnf
      split
      rotate_left
      · rename_i h
        exact Bool.noConfusion ((qz').symm.trans h)
      rename_i hN
      clear hN
      conv => whnf
      split
      rotate_left
      · rename_i h
        have h' : decide ((rowsOf m N k).length + 1 ≤ 1073741824) = false := h
        simp at h' <;> omega
      conv => whnf
      refine ⟨⟨k + 1, hlt⟩, ⟨⟨leV_int hw, leV_refl _, ⟨.inr rfl, rfl, ?_, fun j hj => ?_⟩, leV_refl _, trivial⟩, ⟨leL_refl _, trivial⟩, rfl, rfl⟩, ?_⟩
      · show (rowsOf m N k).length + 1 = (rowsOf m N (k + 1)).length
        rw [e1]; simp
      · show (if j < (rowsOf m N k).length then G k j else litF 2 _ (j - (rowsOf m N k).length)) = ((rowsOf m N (k + 1)).getD j row0).cs
        rw [e1]
        split
        · rename_i hj2
          show ((rowsOf m N k).getD j row0).cs = _
          rw [List.getD_eq_getElem?_getD, List.getD_eq_getElem?_getD, List.getElem?_append_left hj2]
        · have hj' : j < (rowsOf m N k).length + 1 := hj
          have : j = (rowsOf m N k).length := by omega
          subst this
          rw [Nat.sub_self, List.getD_eq_getElem?_getD, List.getElem?_append_right (Nat.le_refl _), Nat.sub_self]
          show [IV.int .i64 k, IV.int .i64 (w64 (((firstS0 m N k : Nat) : Int) - 1))] = [IV.int .i64 k, IV.int .i64 ((firstS0 m N k : Int) - 1)]
          rw [hv]
      · show F - (k + 1) < F - k
        omega
    | false =>
      have hz := of_decide_eq_false qz
      have qz' : decide (((firstS0 m N k : Nat) : Int) > 0) = false := decide_eq_false (by omega)
      have e1 : rowsOf m N (k + 1) = rowsOf m N k := by
        conv => lhs; unfold rowsOf
        rw [qz]; rfl
      conv => whnf
      split
      rotate_left
      · rename_i h
        exact Bool.noConfusion ((q).symm.trans h)
      rename_i hN
      clear hN
      conv => whnf
      refine .mk _ _ _ _ _ ?_ hS rfl ?_
      · exact ⟨leV_int hwL, leV_refl _, trivial⟩
      conv => whnf
      split
      · rename_i h
        exact Bool.noConfusion ((qz').symm.trans h)
      rename_i hN
      clear hN
      conv => whnf
      refine ⟨⟨k + 1, hlt⟩, ⟨⟨leV_int hw, leV_refl _, ⟨.inr rfl, rfl, ?_, fun j hj => ?_⟩, leV_refl _, trivial⟩, ⟨leL_refl _, trivial⟩, rfl, rfl⟩, ?_⟩
      · show (rowsOf m N k).length = (rowsOf m N (k + 1)).length
        rw [e1]
      · show ((rowsOf m N k).getD j row0).cs = ((rowsOf m N (k + 1)).getD j row0).cs
        rw [e1]
      · show F - (k + 1) < F - k
        omega
  · have q : decide ((k : Int) < F) = false := decide_eq_false (by omega)
    have : k = F := by omega
    subst this
    conv => whnf
    split
    · rename_i h
      exact Bool.noConfusion ((q).symm.trans h)
    rename_i hN
    clear hN
    conv => whnf
    exact ⟨rfl, rfl⟩
end Go.Proofs.YtkdlegfakefjgaaGreatDoor.Ix

namespace Go.Proofs.YtkdlegfakefjgaaGreatDoor.Ix
open Go.Proofs
set_option linter.unusedVariables false
set_option linter.unusedSimpArgs false
theorem most_ge (s : Sta) (m : Mc) (stuck : Int) : ∀ n, s.speed ≤ s.most m stuck n
  | 0 => Int.le_refl _
  | n + 1 => by
    have := most_ge s m stuck n
    unfold Sta.most
    rw [maxW_eq]; omega
theorem most_shift (s : Sta) (m : Mc) (stuck : Int) : ∀ n, s.most m stuck (n + 1) = max s.speed ((s.brakedW m m.wind stuck).most m stuck n)
  | 0 => by
    show maxW s.speed (s.stepW m stuck 1).speed = _
    rw [maxW_eq]; rfl
  | n + 1 => by
    have h := most_shift s m stuck n
    rw [Sta.most, h, maxW_eq, stepW_succ]
    show _ = max s.speed (maxW _ _)
    rw [maxW_eq]
    omega
theorem takes_succ {s : Sta} {m : Mc} {stuck : Int} {n : Nat} (h : s.takes m stuck (n + 1)) : s.restB m stuck = false ∧ (s.brakedW m m.wind stuck).takes m stuck n := by
  refine ⟨h.1 0 (by omega), fun k hk => ?_, ?_⟩
  · rw [← stepW_succ]; exact h.1 (k + 1) (by omega)
  · rw [← stepW_succ]; exact h.2
theorem nbeq_ne {a b : Nat} (h : ¬ a = b) : Nat.beq a b = false := by
  cases q : Nat.beq a b with
  | false => rfl
  | true => exact absurd ((beq_iff _ _).1 q) h
def stepQ (k r f i p : Nat) : Nat := bif Nat.beq i k then p else min (p + r) f
def restX (f k v p0 p1 p2 : Nat) : Bool := Nat.beq v 0 && (Nat.beq k 0 || Nat.beq p0 f) && (Nat.beq k 1 || Nat.beq p1 f) && (Nat.beq k 2 || Nat.beq p2 f)
def runX (w f r k : Nat) : Nat → Nat → Nat → Nat → Nat → Nat → Nat × Nat
  | 0, _, _, _, _, b => (b, 0)
  | g + 1, v, p0, p1, p2, b => bif restX f k v p0 p1 p2 then (b, 0) else
    match runX w f r k g (v + w - (stepQ k r f 0 p0 + stepQ k r f 1 p1 + stepQ k r f 2 p2)) (stepQ k r f 0 p0) (stepQ k r f 1 p1) (stepQ k r f 2 p2) (max b (v + w - (stepQ k r f 0 p0 + stepQ k r f 1 p1 + stepQ k r f 2 p2))) with
    | (b, n) => (b, n + 1)
theorem stepQ_eq {m : Mc} {k i p : Nat} {w f r : Nat} (hf : m.fea = f) (hr : m.rate = r) : stepP m (k : Nat) (i : Nat) (p : Nat) = (stepQ k r f i p : Nat) := by
  unfold stepP stepQ
  rw [hf, hr]
  by_cases h : i = k
  · rw [if_pos (by omega), (beq_iff _ _).2 h]; rfl
  · rw [if_neg (by omega), nbeq_ne h, cond_false]
    omega
theorem runX_eq {m : Mc} (hm : m.ok) {w f r k : Nat} (hw : m.wind = w) (hf : m.fea = f) (hr : m.rate = r) (hk : k < 3) : ∀ (n g : Nat) (s : Sta) (v p0 p1 p2 b : Nat), s.rng m → s.speed ≤ 100000 + 100 * (5000 - n) → n ≤ 5000 → s.speed = v → s.p0 = p0 → s.p1 = p1 → s.p2 = p2 → v ≤ b → s.takes m (k : Nat) n → n < g →
    runX w f r k g v p0 p1 p2 b = (max b (s.most m (k : Nat) n).toNat, n) := by
  have rest : ∀ (s : Sta) (v p0 p1 p2 : Nat), s.speed = v → s.p0 = p0 → s.p1 = p1 → s.p2 = p2 → restX f k v p0 p1 p2 = s.restB m (k : Nat) := by
    intro s v p0 p1 p2 h1 h2 h3 h4
    have hb : ∀ a b : Nat, Nat.beq a b = decide (a = b) := fun a b => by
      by_cases h : a = b
      · rw [(beq_iff _ _).2 h, decide_eq_true h]
      · rw [nbeq_ne h, decide_eq_false h]
    unfold restX Sta.restB
    rw [h1, h2, h3, h4, hf]
    simp only [hb]
    rw [Bool.eq_iff_iff]
    obtain rfl | rfl | rfl : k = 0 ∨ k = 1 ∨ k = 2 := by omega
    all_goals
      cases hv : ((v : Int) == 0) <;> simp at hv <;> simp [hv]
    all_goals omega
  intro n
  induction n with
  | zero =>
    intro g s v p0 p1 p2 b hs hsp hn h1 h2 h3 h4 hb ht hg
    obtain ⟨g, rfl⟩ : ∃ x, g = x + 1 := ⟨g - 1, by omega⟩
    have hr0 : s.restB m (k : Nat) = true := ht.2
    unfold runX
    rw [rest s v p0 p1 p2 h1 h2 h3 h4, hr0]
    show (b, 0) = (max b s.speed.toNat, 0)
    congr 1
    omega
  | succ n ih =>
    intro g s v p0 p1 p2 b hs hsp hn h1 h2 h3 h4 hb ht hg
    obtain ⟨g, rfl⟩ : ∃ x, g = x + 1 := ⟨g - 1, by omega⟩
    obtain ⟨hr0, ht'⟩ := takes_succ ht
    have hwb := hm.wind
    have hs' := step_rng hm hs (by omega) m.wind (k : Nat) (by omega)
    have e := braked_eq hm hs m.wind (k : Nat) (by omega)
    have q0 := stepQ_eq (m := m) (k := k) (i := 0) (p := p0) (w := w) hf hr
    have q1 := stepQ_eq (m := m) (k := k) (i := 1) (p := p1) (w := w) hf hr
    have q2 := stepQ_eq (m := m) (k := k) (i := 2) (p := p2) (w := w) hf hr
    rw [← h2] at q0; rw [← h3] at q1; rw [← h4] at q2
    have q0 : stepP m (k : Nat) 0 s.p0 = _ := q0
    have q1 : stepP m (k : Nat) 1 s.p1 = _ := q1
    have q2 : stepP m (k : Nat) 2 s.p2 = _ := q2
    rw [q0, q1, q2] at e
    unfold runX
    rw [rest s v p0 p1 p2 h1 h2 h3 h4, hr0]
    have hih := ih g (s.brakedW m m.wind (k : Nat)) (v + w - (stepQ k r f 0 p0 + stepQ k r f 1 p1 + stepQ k r f 2 p2)) (stepQ k r f 0 p0) (stepQ k r f 1 p1) (stepQ k r f 2 p2) (max b (v + w - (stepQ k r f 0 p0 + stepQ k r f 1 p1 + stepQ k r f 2 p2))) hs'
    generalize stepQ k r f 0 p0 = y0 at e hih ⊢
    generalize stepQ k r f 1 p1 = y1 at e hih ⊢
    generalize stepQ k r f 2 p2 = y2 at e hih ⊢
    have hsp' : (s.brakedW m m.wind (k : Nat)).speed = ((v + w - (y0 + y1 + y2) : Nat) : Int) := by
      rw [e]
      show max 0 (s.speed + m.wind - y0 - y1 - y2) = _
      rw [h1, hw]
      omega
    have hih := hih (by rw [hsp']; have := h1; omega) (by omega) hsp' (by rw [e]) (by rw [e]) (by rw [e]) (by omega) ht' (by omega)
    rw [cond_false, hih]
    have hm1 := most_shift s m (k : Nat) n
    have hm2 := most_ge (s.brakedW m m.wind (k : Nat)) m (k : Nat) n
    rw [hm1]
    show (_, n + 1) = (_, n + 1)
    congr 1
    rw [hsp'] at hm2
    omega
end Go.Proofs.YtkdlegfakefjgaaGreatDoor.Ix

namespace Go.Proofs.YtkdlegfakefjgaaGreatDoor.Ix
open Go.Proofs
set_option linter.unusedVariables false
set_option linter.unusedSimpArgs false
theorem restB_iff (s : Sta) (m : Mc) (stuck : Int) : s.restB m stuck = true ↔ s.speed = 0 ∧ (stuck = 0 ∨ s.p0 = m.fea) ∧ (stuck = 1 ∨ s.p1 = m.fea) ∧ (stuck = 2 ∨ s.p2 = m.fea) := by
  unfold Sta.restB
  cases q : (s.speed == 0) with
  | false =>
    have : ¬ s.speed = 0 := by simpa using q
    simp [this]
  | true =>
    have e : s.speed = 0 := by simpa using q
    simp only [cond_true, Bool.and_eq_true, beq_iff_eq, and_true, e, true_and]
    by_cases a0 : stuck = 0 <;> by_cases a1 : stuck = 1 <;> by_cases a2 : stuck = 2 <;> simp [a0, a1, a2]
theorem far_nonneg {m : Mc} {s : Sta} (hs : s.rng m) (stuck : Int) : 0 ≤ s.far m stuck := by
  obtain ⟨g1, g2, g3, g4⟩ := hs
  unfold Sta.far
  (repeat' split) <;> omega
theorem speed_mu {m : Mc} {s : Sta} (hs : s.rng m) (stuck : Int) : s.speed ≤ s.mu m stuck := by
  have := far_nonneg hs stuck
  unfold Sta.mu
  omega
theorem mu_start {m : Mc} (hm : m.ok) {s : Sta} (hs : s.rng m) (hsp : s.speed ≤ 10000) (stuck : Int) : s.mu m stuck ≤ 20100 := by
  have := hm.fea
  obtain ⟨g1, g2, g3, g4⟩ := hs
  unfold Sta.mu Sta.far
  (repeat' split) <;> omega
theorem rest_stays {m : Mc} (hm : m.ok) {s : Sta} (hs : s.rng m) {stuck : Int} (h1 : -1 ≤ stuck) (h2 : stuck ≤ 2) (hr : s.restB m stuck = true) : (s.brakedW m m.wind stuck).restB m stuck = true ∧ (s.brakedW m m.wind stuck).mu m stuck = 0 := by
  obtain ⟨e, r0, r1, r2⟩ := (restB_iff ..).1 hr
  obtain ⟨w1, w2⟩ := hm.wind
  have hf := hm.fea
  have hra := hm.rate
  have h2w := hm.two
  have hb := braked_eq hm hs m.wind stuck (by omega)
  obtain ⟨g1, g2, g3, g4⟩ := hs
  rw [hb]
  refine ⟨(restB_iff ..).2 ?_, ?_⟩
  · simp only [stepP]
    (repeat' split) <;> omega
  · unfold Sta.mu Sta.far
    simp only [stepP]
    (repeat' split) <;> omega
theorem step_bnd {m : Mc} (hm : m.ok) {s : Sta} {stuck : Int} (h1 : -1 ≤ stuck) (h2 : stuck ≤ 2) (hs : s.rng m) (hmu : s.mu m stuck ≤ 20100) : (s.brakedW m m.wind stuck).rng m ∧ (s.brakedW m m.wind stuck).mu m stuck ≤ 20100 := by
  have hw := hm.wind
  have := speed_mu hs stuck
  refine ⟨step_rng hm hs (by omega) m.wind stuck (by omega), ?_⟩
  cases hr : s.restB m stuck with
  | true => have := (rest_stays hm hs h1 h2 hr).2; omega
  | false => have := mu_falls hm hs h1 h2 hr; omega
theorem stepW_bnd {m : Mc} (hm : m.ok) {s : Sta} {stuck : Int} (h1 : -1 ≤ stuck) (h2 : stuck ≤ 2) (hs : s.rng m) (hmu : s.mu m stuck ≤ 20100) : ∀ k, (s.stepW m stuck k).rng m ∧ (s.stepW m stuck k).mu m stuck ≤ 20100
  | 0 => ⟨hs, hmu⟩
  | k + 1 => by
    obtain ⟨a, b⟩ := stepW_bnd hm h1 h2 hs hmu k
    exact step_bnd hm h1 h2 a b
theorem rest_speed {s : Sta} {m : Mc} {stuck : Int} (h : s.restB m stuck = true) : s.speed = 0 := ((restB_iff ..).1 h).1
theorem most_stable {m : Mc} (hm : m.ok) {s : Sta} {stuck : Int} (h1 : -1 ≤ stuck) (h2 : stuck ≤ 2) (hs : s.rng m) (hmu : s.mu m stuck ≤ 20100) {n : Nat} (ht : s.takes m stuck n) : ∀ j, s.most m stuck (n + j) = s.most m stuck n ∧ (s.stepW m stuck (n + j)).restB m stuck = true
  | 0 => ⟨rfl, ht.2⟩
  | j + 1 => by
    obtain ⟨a, b⟩ := most_stable hm h1 h2 hs hmu ht j
    have hb := (stepW_bnd hm h1 h2 hs hmu (n + j)).1
    obtain ⟨c, _⟩ := rest_stays hm hb h1 h2 b
    refine ⟨?_, c⟩
    have hsp : (s.stepW m stuck (n + j + 1)).speed = 0 := rest_speed c
    show maxW (s.most m stuck (n + j)) (s.stepW m stuck (n + j + 1)).speed = _
    rw [hsp, a, maxW_eq]
    have := most_ge s m stuck n
    have := hs.speed
    omega
structure Sta.le (s t : Sta) : Prop where
  speed : s.speed ≤ t.speed
  p0 : t.p0 ≤ s.p0
  p1 : t.p1 ≤ s.p1
  p2 : t.p2 ≤ s.p2
theorem Sta.le_refl (s : Sta) : s.le s := ⟨Int.le_refl _, Int.le_refl _, Int.le_refl _, Int.le_refl _⟩
theorem step_le {m m' : Mc} (hm : m.ok) (hm' : m'.ok) (hf : m.fea = m'.fea) (hr : m.rate = m'.rate) {s t : Sta} (hs : s.rng m) (ht : t.rng m') (hle : s.le t) {w w' : Int} (hw : 0 ≤ w ∧ w ≤ w' ∧ w' ≤ 100) {k k' : Int} (hk : k = k' ∨ k = -1) : (s.brakedW m w k).le (t.brakedW m' w' k') := by
  have b1 := braked_eq hm hs w k (by omega)
  have b2 := braked_eq hm' ht w' k' (by omega)
  have f1 := hm.fea
  have r1 := hm.rate
  obtain ⟨g1, g2, g3, g4⟩ := hs
  obtain ⟨i1, i2, i3, i4⟩ := ht
  obtain ⟨l1, l2, l3, l4⟩ := hle
  have hp : ∀ (i p q : Int), 0 ≤ i → q ≤ p → p ≤ m.fea → stepP m' k' i q ≤ stepP m k i p := fun i p q hi hqp hp => by
    unfold stepP
    rw [← hf, ← hr]
    rcases hk with rfl | rfl
    · split <;> omega
    · rw [if_neg (show ¬ i = -1 by omega)]
      split <;> omega
  have q0 := hp 0 _ _ (by decide) l2 g2.2
  have q1 := hp 1 _ _ (by decide) l3 g3.2
  have q2 := hp 2 _ _ (by decide) l4 g4.2
  rw [b1, b2]
  refine ⟨?_, q0, q1, q2⟩
  show max 0 (s.speed + w - stepP m k 0 s.p0 - stepP m k 1 s.p1 - stepP m k 2 s.p2) ≤ max 0 (t.speed + w' - stepP m' k' 0 t.p0 - stepP m' k' 1 t.p1 - stepP m' k' 2 t.p2)
  generalize stepP m k 0 s.p0 = a0 at *
  generalize stepP m k 1 s.p1 = a1 at *
  generalize stepP m k 2 s.p2 = a2 at *
  generalize stepP m' k' 0 t.p0 = c0 at *
  generalize stepP m' k' 1 t.p1 = c1 at *
  generalize stepP m' k' 2 t.p2 = c2 at *
  clear b1 b2 hp
  omega
theorem most_le {m m' : Mc} (hm : m.ok) (hm' : m'.ok) (hf : m.fea = m'.fea) (hr : m.rate = m'.rate) (hw : m.wind ≤ m'.wind) {s t : Sta} {k k' : Int} (h1 : -1 ≤ k) (h2 : k ≤ 2) (h1' : -1 ≤ k') (h2' : k' ≤ 2) (hk : k = k' ∨ k = -1)
    (hs : s.rng m) (ht : t.rng m') (hmu : s.mu m k ≤ 20100) (hmu' : t.mu m' k' ≤ 20100) (hle : s.le t) : ∀ n, (s.stepW m k n).le (t.stepW m' k' n) ∧ s.most m k n ≤ t.most m' k' n
  | 0 => ⟨hle, hle.speed⟩
  | n + 1 => by
    obtain ⟨a, b⟩ := most_le hm hm' hf hr hw h1 h2 h1' h2' hk hs ht hmu hmu' hle n
    have w1 := hm.wind
    have w2 := hm'.wind
    have c := step_le hm hm' hf hr (stepW_bnd hm h1 h2 hs hmu n).1 (stepW_bnd hm' h1' h2' ht hmu' n).1 a (w := m.wind) (w' := m'.wind) (by omega) hk
    refine ⟨c, ?_⟩
    show maxW _ (s.stepW m k (n + 1)).speed ≤ maxW _ (t.stepW m' k' (n + 1)).speed
    have c : (s.stepW m k (n + 1)).speed ≤ (t.stepW m' k' (n + 1)).speed := c.speed
    rw [maxW_eq, maxW_eq]
    omega
noncomputable def Sta.pk (s : Sta) (m : Mc) (k : Int) : Int := s.most m k (s.num m k)
theorem pk_at {m : Mc} (hm : m.ok) {s : Sta} (hs : s.rng m) (hsp : s.speed ≤ 10000) {k : Int} (h1 : -1 ≤ k) (h2 : k ≤ 2) {n : Nat} (hn : s.num m k ≤ n) : s.most m k n = s.pk m k := by
  obtain ⟨ht, _⟩ := takes_num hm hs hsp h1 h2
  have := (most_stable hm h1 h2 hs (mu_start hm hs hsp k) ht (n - s.num m k)).1
  rw [show s.num m k + (n - s.num m k) = n by omega] at this
  exact this
theorem pk_le {m m' : Mc} (hm : m.ok) (hm' : m'.ok) (hf : m.fea = m'.fea) (hr : m.rate = m'.rate) (hw : m.wind ≤ m'.wind) {s t : Sta} {k k' : Int} (h1 : -1 ≤ k) (h2 : k ≤ 2) (h1' : -1 ≤ k') (h2' : k' ≤ 2) (hk : k = k' ∨ k = -1)
    (hs : s.rng m) (ht : t.rng m') (hsp : s.speed ≤ 10000) (htp : t.speed ≤ 10000) (hle : s.le t) : s.pk m k ≤ t.pk m' k' := by
  rw [← pk_at hm hs hsp h1 h2 (Nat.le_max_left (s.num m k) (t.num m' k')), ← pk_at hm' ht htp h1' h2' (Nat.le_max_right (s.num m k) (t.num m' k'))]
  exact (most_le hm hm' hf hr hw h1 h2 h1' h2' hk hs ht (mu_start hm hs hsp k) (mu_start hm' ht htp k') hle _).2
theorem safeN_iff {m : Mc} {s : Sta} : s.safeN m = true ↔ ∀ k : Nat, k < 3 → (s.stuck ≠ -1 ∧ s.stuck ≠ k) ∨ s.pk m k ≤ m.lim := by
  unfold Sta.safeN Sta.safeB Sta.safeAt
  have key : ∀ k : Nat, ((((s.stuck != -1) && (s.stuck != (k : Int))) || decide (s.most m k (s.num m k) ≤ m.lim)) = true ↔ ((s.stuck ≠ -1 ∧ s.stuck ≠ k) ∨ s.pk m k ≤ m.lim)) := fun k => by
    unfold Sta.pk
    simp
  rw [Bool.and_eq_true, Bool.and_eq_true, key 0, key 1, key 2]
  constructor
  · rintro ⟨⟨a, b⟩, c⟩ k hk
    obtain rfl | rfl | rfl : k = 0 ∨ k = 1 ∨ k = 2 := by omega
    · exact a
    · exact b
    · exact c
  · exact fun h => ⟨⟨h 0 (by omega), h 1 (by omega)⟩, h 2 (by omega)⟩
end Go.Proofs.YtkdlegfakefjgaaGreatDoor.Ix

namespace Go.Proofs.YtkdlegfakefjgaaGreatDoor.Ix
open Go.Proofs
set_option linter.unusedVariables false
set_option linter.unusedSimpArgs false
def eqD (a b : ByteArray) : Bool := a.data.toList == b.data.toList
theorem eqS_eq (a b : ByteArray) : eqS a b = eqD a b := by
  unfold eqS eqD
  rw [Lib.toList_data, Lib.toList_data]
def Sta.runW (s : Sta) (m : Mc) (k : Nat) : Nat × Nat := runX m.wind.toNat m.fea.toNat m.rate.toNat k 5001 s.speed.toNat s.p0.toNat s.p1.toNat s.p2.toNat s.speed.toNat
theorem pk_run {m : Mc} (hm : m.ok) {k : Nat} (hk : k < 3) {s : Sta} (hs : s.rng m) (hsp : s.speed ≤ 1000) (hmu : s.mu m (k : Nat) ≤ 5000) : s.pk m (k : Nat) = ((s.runW m k).1 : Int) ∧ s.num m (k : Nat) = (s.runW m k).2 := by
  obtain ⟨n, hn, hb⟩ := takes_exists hm (stuck := (k : Nat)) (by omega) (by omega) 5000 s hs hmu (by omega)
  have e := num_eq hn (by omega)
  have w := hm.wind
  have f := hm.fea
  have r := hm.rate
  have g1 := hs.speed
  have g2 := hs.p0
  have g3 := hs.p1
  have g4 := hs.p2
  have hr := runX_eq hm (w := m.wind.toNat) (f := m.fea.toNat) (r := m.rate.toNat) (by omega) (by omega) (by omega) hk n 5001 s s.speed.toNat s.p0.toNat s.p1.toNat s.p2.toNat s.speed.toNat hs (by omega) hb (by omega) (by omega) (by omega) (by omega) (Nat.le_refl _) hn (by omega)
  unfold Sta.runW Sta.pk
  rw [hr, e]
  have := most_ge s m (k : Nat) n
  exact ⟨by show _ = ((max _ _ : Nat) : Int); omega, rfl⟩
def Sta.okX (s : Sta) (m : Mc) (k : Nat) : Bool := ((s.stuck != -1) && (s.stuck != (k : Int))) || Nat.ble (s.runW m k).1 m.lim.toNat
def Sta.safeX (s : Sta) (m : Mc) : Bool := s.okX m 0 && s.okX m 1 && s.okX m 2
theorem mu_small {m : Mc} (hm : m.ok) (hf : m.fea ≤ 20) {s : Sta} (hs : s.rng m) (hsp : s.speed ≤ 1000) (k : Int) : s.mu m k ≤ 5000 := by
  obtain ⟨g1, g2, g3, g4⟩ := hs
  unfold Sta.mu Sta.far
  (repeat' split) <;> omega
theorem safe_run {m : Mc} (hm : m.ok) (hf : m.fea ≤ 20) {s : Sta} (hs : s.rng m) (hsp : s.speed ≤ m.lim) : s.safeN m = s.safeX m := by
  have hl := hm.lim
  have key : ∀ k : Nat, k < 3 → s.safeAt m (fun k => s.num m k) k = s.okX m k := fun k hk => by
    obtain ⟨h, _⟩ := pk_run hm hk hs (by omega) (mu_small hm hf hs (by omega) _)
    unfold Sta.pk at h
    unfold Sta.safeAt Sta.okX
    congr 1
    rw [Bool.eq_iff_iff, decide_eq_true_iff, Nat.ble_eq, h]
    omega
  unfold Sta.safeN Sta.safeB Sta.safeX
  rw [key 0 (by decide), key 1 (by decide), key 2 (by decide)]
def Sta.behindX (s : Sta) (m : Mc) (a : Ac) : Sta :=
  bif eqD a.kind sStart then { s with mode := sRun } else
  bif eqD a.kind sTick then Sta.laterW { s.movedW m a.pitch a.stuck with tor := a.tor } a.wind else
  bif eqD a.kind sStop then { s with mode := sStop, tor := 0 } else
  bif eqD a.kind sBrake then s.brakedW m a.wind a.stuck else
  bif eqD a.kind sRest then { s with mode := sIdle } else
  bif eqD a.kind sRepair then { s with p0 := m.fea, p1 := m.fea, p2 := m.fea, stuck := -1 } else s
theorem behind_run (s : Sta) (m : Mc) (a : Ac) : s.behindW m a = s.behindX m a := by
  unfold Sta.behindW Sta.behindX
  simp only [eqS_eq]
def Sta.ruleX (s : Sta) (m : Mc) (a : Ac) : Nat → Bool
  | 0 => (eqD a.kind sStart || eqD a.kind sRepair) && (!eqD s.mode sIdle)
  | 1 => (eqD a.kind sTick || eqD a.kind sStop) && (!eqD s.mode sRun)
  | 2 => (eqD a.kind sBrake || eqD a.kind sRest) && (!eqD s.mode sStop)
  | 3 => (eqD a.kind sStart || eqD a.kind ByteArray.empty) && s.rule4 m
  | 4 => (eqD a.kind sRest || eqD a.kind ByteArray.empty) && s.rule5 m
  | 5 => (eqD a.kind sTick || eqD a.kind sBrake) && s.rule6 a
  | 6 => (eqD a.kind sTick || eqD a.kind sBrake) && (decide ((s.behindX m a).speed > m.lim) || (eqD a.kind sTick && !(s.behindX m a).safeX m))
  | _ => false
def Sta.allowedX (s : Sta) (m : Mc) (a : Ac) : Int := firstT (s.ruleX m a) 7 0
theorem allowed_run {m : Mc} (hm : m.ok) (hf : m.fea ≤ 20) {s : Sta} (hs : s.rng m) {a : Ac} (ha : a.ok m) : s.allowedN m a = s.allowedX m a := by
  unfold Sta.allowedN Sta.allowedW Sta.allowedX
  congr 1
  funext i
  match i with
  | 0 => unfold Sta.ruleB Sta.ruleX; simp only [inK_eq, eqS_eq]
  | 1 => unfold Sta.ruleB Sta.ruleX; simp only [inK_eq, eqS_eq]
  | 2 => unfold Sta.ruleB Sta.ruleX; simp only [inK_eq, eqS_eq]
  | 3 => unfold Sta.ruleB Sta.ruleX; simp only [inK_eq, eqS_eq]
  | 4 => unfold Sta.ruleB Sta.ruleX; simp only [inK_eq, eqS_eq]
  | 5 => unfold Sta.ruleB Sta.ruleX; simp only [inK_eq, eqS_eq]
  | 6 =>
    unfold Sta.ruleB Sta.ruleX Sta.rule7
    simp only [inK_eq, eqS_eq]
    congr 1
    cases q : decide ((s.behindW m a).speed > m.lim) with
    | true => rw [← behind_run, q]; rfl
    | false =>
      rw [← behind_run, q, Bool.false_or, Bool.false_or]
      cases qt : eqD a.kind sTick with
      | false => rfl
      | true =>
        have hsp : (s.behindW m a).speed ≤ m.lim := by have := of_decide_eq_false q; omega
        have hr := tick_rng hm hs ha (by rw [eqS_eq]; exact qt) hsp
        have := safe_run hm hf hr hsp
        unfold Sta.safeN at this
        rw [this]
  | _ + 7 => rfl
def Sta.proposeX (s : Sta) (m : Mc) (wind : Int) : Ac :=
  bif eqD s.mode sIdle then (bif s.allowedX m (plainA sStart) == 4 then plainA sRepair else plainA sStart) else
  bif eqD s.mode sStop then (bif s.allowedX m (plainA sRest) == 0 then plainA sRest else ⟨sBrake, wind, 0, 0, s.stuck⟩) else
  bif s.allowedX m (s.tickA wind (s.pitchW m) (s.torW m)) == 0 then s.tickA wind (s.pitchW m) (s.torW m) else
  bif s.allowedX m (s.tickA wind m.fea (s.torW m)) == 0 then s.tickA wind m.fea (s.torW m) else plainA sStop
theorem propose_run {m : Mc} (hm : m.ok) (hf : m.fea ≤ 20) {s : Sta} (hs : s.inv m) {wind : Int} (hw : 0 ≤ wind ∧ wind ≤ m.wind) : s.proposeW m wind = s.proposeX m wind := by
  obtain ⟨hr, hl, hst⟩ := hs
  have hlim := hm.lim
  have hfe := hm.fea
  have hsp := hr.speed
  unfold Sta.proposeW Sta.proposeX
  rw [allowed_run hm hf hr (plain_ok hm _), allowed_run hm hf hr (plain_ok hm _), allowed_run hm hf hr (tick_ok hm ⟨hsp.1, by omega⟩ hst hw (pitch_rng hm s)), allowed_run hm hf hr (tick_ok hm ⟨hsp.1, by omega⟩ hst hw ⟨by omega, Int.le_refl _⟩)]
  simp only [eqS_eq]
def idxD (x : ByteArray) : List ByteArray → Int → Int
  | [], _ => -1
  | k :: r, i => bif eqD x k then i else idxD x r (i + 1)
theorem idx_run (x : ByteArray) : ∀ (l : List ByteArray) (i : Int), idxS x l i = idxD x l i
  | [], _ => rfl
  | k :: r, i => by unfold idxS idxD; rw [eqS_eq, idx_run x r]
def repX (m : Mc) (l : Nat → Ac) : Nat → Sta
  | 0 => beginS m
  | k + 1 => (repX m l k).behindX m (l k)
theorem rep_run (m : Mc) (l : Nat → Ac) : ∀ k, repS m l k = repX m l k
  | 0 => rfl
  | k + 1 => by
    show (repS m l k).behindW m (l k) = (repX m l k).behindX m (l k)
    rw [behind_run, rep_run m l k]
def Ac.formX (a : Ac) : Bool := bif eqD a.kind sTick then true else bif !eqD a.kind sBrake then (a.wind == 0 && (a.pitch == 0 && (a.tor == 0 && a.stuck == -1))) else (a.pitch == 0 && a.tor == 0)
def Ac.checkX (a : Ac) (w p t : Int) : Int := orL [bif !decide (idxD a.kind kindsL 0 ≥ 0) then 13 else 0, withinS a.wind 0 w, withinS a.pitch 0 p, withinS a.tor 0 t, withinS a.stuck (-1) 2, bif !a.formX then 2 else 0]
def Ac.errX (a : Ac) (m : Mc) : Int := orL [m.err, a.checkX m.wind m.fea m.tor]
theorem check_run (a : Ac) (w p t : Int) : a.checkE w p t = a.checkX w p t := by
  unfold Ac.checkE Ac.checkX Ac.formB Ac.formX
  simp only [idx_run, eqS_eq]
theorem acErr_run (a : Ac) (m : Mc) : a.err m = a.errX m := by
  unfold Ac.err Ac.errX
  rw [check_run]
def stepX (m : Mc) (l : Nat → Ac) (k : Nat) : Int := bif (l k).errX m == 0 then (bif (repX m l k).allowedX m (l k) != 0 then 19 else 0) else (l k).errX m
def repEX (m : Mc) (l : Nat → Ac) : Nat → Nat → Int × Int
  | 0, _ => (0, 0)
  | n + 1, i => bif stepX m l i != 0 then (((i + 1 : Nat) : Int), stepX m l i) else repEX m l n (i + 1)
theorem repE_run {m : Mc} (hm : m.ok) (hf : m.fea ≤ 20) (l : Nat → Ac) : ∀ n i, (repS m l i).inv m → repE m l n i = repEX m l n i
  | 0, _, _ => rfl
  | n + 1, i, hi => by
    have e : stepE m l i = stepX m l i := by
      unfold stepE stepX
      rw [← acErr_run]
      cases q : (l i).err m == 0 with
      | false => rfl
      | true =>
        have h0 : (l i).err m = 0 := by simpa using q
        rw [allowed_run hm hf hi.rng (Ac.err_ok h0).2.1, rep_run]
    unfold repE repEX
    rw [e]
    cases q : (stepX m l i != 0) with
    | true => rfl
    | false =>
      rw [cond_false, cond_false]
      refine repE_run hm hf l n (i + 1) ?_
      have h0 : stepE m l i = 0 := by rw [e]; simpa using q
      unfold stepE at h0
      cases q2 : (l i).err m == 0 with
      | false =>
        rw [q2, cond_false] at h0
        rw [h0] at q2; cases q2
      | true =>
        have hz : (l i).err m = 0 := by simpa using q2
        rw [q2, cond_true] at h0
        rw [bif_nz (by decide)] at h0
        have h0 : (repS m l i).allowedN m (l i) = 0 := by simpa using h0
        exact behind_inv hm hi (Ac.err_ok hz).2.1 h0
theorem srch_congr {P Q : Nat → Bool} {n : Nat} (h : ∀ v, v < n → P v = Q v) : ∀ f i j, j ≤ n → srch P f i j = srch Q f i j
  | 0, _, _, _ => rfl
  | f + 1, i, j, hj => by
    unfold srch
    cases q : decide (i < j) with
    | false => rfl
    | true =>
      have := of_decide_eq_true q
      rw [h ((i + j) / 2) (by omega), srch_congr h f i _ (by omega), srch_congr h f _ j hj]
def firstX (m : Mc) (a : Int) : Nat := srch (fun v => !(atS a v).safeX m) (m.lim + 1).toNat 0 (m.lim + 1).toNat
def rowsX (m : Mc) : Nat → List Rw
  | 0 => []
  | k + 1 => bif decide (0 < firstX m k) then rowsX m k ++ [⟨k, (firstX m k : Int) - 1⟩] else rowsX m k
noncomputable abbrev numN (m : Mc) : Int → Int → Nat → Nat := fun a v k => (atS a v).num m k
theorem atS_rng {m : Mc} (hm : m.ok) {a v : Int} (ha : 0 ≤ a ∧ a ≤ m.fea) (hv : 0 ≤ v ∧ v ≤ m.lim) : (atS a v).rng m := by
  have := hm.lim
  exact ⟨by show 0 ≤ v ∧ v ≤ 1000000; omega, ha, ha, ha⟩
theorem first_run {m : Mc} (hm : m.ok) (hf : m.fea ≤ 20) {a : Int} (ha : 0 ≤ a ∧ a ≤ m.fea) : firstS0 m (numN m) a = firstX m a := by
  unfold firstS0 firstX
  refine srch_congr (n := (m.lim + 1).toNat) (fun v hv => ?_) _ _ _ (Nat.le_refl _)
  have hr := atS_rng hm ha (v := v) (by omega)
  have := safe_run hm hf hr (by show (v : Int) ≤ m.lim; omega)
  unfold Sta.safeN at this
  rw [← this]
theorem rows_run {m : Mc} (hm : m.ok) (hf : m.fea ≤ 20) : ∀ k : Nat, k ≤ (m.fea + 1).toNat → rowsOf m (numN m) k = rowsX m k
  | 0, _ => rfl
  | k + 1, hk => by
    unfold rowsOf rowsX
    rw [first_run hm hf (by omega), rows_run hm hf k (by omega)]
theorem tab_takes {m : Mc} (hm : m.ok) (a v : Int) (h1 : 0 ≤ a) (h2 : a ≤ m.fea) (h3 : 0 ≤ v) (h4 : v ≤ m.lim) (k : Nat) (hk : k < 3) : (atS a v).takes m k (numN m a v k) ∧ numN m a v k ≤ 1000000 := by
  have := hm.lim
  exact takes_num hm (atS_rng hm ⟨h1, h2⟩ ⟨h3, h4⟩) (by show v ≤ 10000; omega) (by omega) (by omega)
def Sta.knownX (s : Sta) : Bool := eqD s.mode sIdle || (eqD s.mode sRun || (eqD s.mode sStop || false))
def Sta.fitsX (s : Sta) (m : Mc) : Bool := bif eqD s.mode sIdle then (s.speed == 0 && (s.tor == 0 && decide (atA m.fea [s.p0, s.p1, s.p2] ≥ 2))) else bif eqD s.mode sRun then true else bif eqD s.mode sStop then s.tor == 0 else false
def Sta.errX (s : Sta) (m : Mc) : Int := orE (orL [m.err, bif !s.knownX then 13 else 0, withinS s.speed 0 m.lim]) (orL [withinS s.p0 0 m.fea, withinS s.p1 0 m.fea, withinS s.p2 0 m.fea, withinS s.tor 0 m.tor, withinS s.stuck (-1) 2, bif !s.fitsX m then 20 else 0])
theorem staErr_run (s : Sta) (m : Mc) : s.err m = s.errX m := by
  unfold Sta.err Sta.err1 Sta.err2 Sta.errX Sta.known Sta.knownX Sta.fits Sta.fitsX
  simp only [eqS_beq, eqS_eq]
end Go.Proofs.YtkdlegfakefjgaaGreatDoor.Ix

namespace Go.Proofs.YtkdlegfakefjgaaGreatDoor.Ix
open Go.Proofs
set_option maxRecDepth 100000
set_option linter.unusedVariables false
set_option linter.unusedSimpArgs false
variable {gl : Nat → IV}
def Sta.e6 (s : Sta) (m : Mc) : Int := orL [withinS s.speed 0 m.lim, withinS s.p0 0 m.fea, withinS s.p1 0 m.fea, withinS s.p2 0 m.fea, withinS s.tor 0 m.tor, withinS s.stuck (-1) 2]
theorem Sta.err_split (s : Sta) (m : Mc) : s.err m = orE m.err (orE (bif !s.known then 13 else 0) (orE (s.e6 m) (bif !s.fits m then 20 else 0))) := by
  unfold Sta.err Sta.err1 Sta.err2 Sta.e6
  simp only [orL, orE_right, orE_assoc]
def Ac.e5 (a : Ac) (m : Mc) : Int := orL [withinS a.wind 0 m.wind, withinS a.pitch 0 m.fea, withinS a.tor 0 m.tor, withinS a.stuck (-1) 2, bif !a.formB then 2 else 0]
theorem Ac.err_split (a : Ac) (m : Mc) : a.err m = orE m.err (orE (bif !hasW a.kind kindsL then 13 else 0) (a.e5 m)) := by
  unfold Ac.err Ac.checkE Ac.e5
  rw [has_idx _ _ 0 (Int.le_refl _)]
  simp only [orL, orE_right, orE_assoc]
theorem c_machine (up : List Ces) (m : Mc) : Cs gl n_nacellelaw05_machine up [m.iv] m.iv up := by
  refine mk h_nacellelaw05_machine rfl rfl ?_
  conv => whnf
  exact ⟨rfl, rfl⟩
end Go.Proofs.YtkdlegfakefjgaaGreatDoor.Ix

namespace Go.Proofs.YtkdlegfakefjgaaGreatDoor.Ix
open Go.Proofs
set_option maxRecDepth 100000
set_option linter.unusedVariables false
set_option linter.unusedSimpArgs false
variable {gl : Nat → IV}
theorem Comp.res {P : Program} {gl : Nat → IV} {g : Nat} {up up' : List Ces} {args : List IV} {r r' : IV} (h : Comp P gl g up args r up') (hle : leV r r') : Comp P gl g up args r' up' :=
  ⟨h.1, fun vals w I X β σ hm hl ha => (h.2 vals w I X β σ hm hl ha).mono fun e w' ⟨v, I', s, e1, e2, e3⟩ => ⟨v, I', s, e1, leV_sound _ _ _ hle e2, e3⟩⟩
end Go.Proofs.YtkdlegfakefjgaaGreatDoor.Ix

namespace Go.Proofs.YtkdlegfakefjgaaGreatDoor.Ix
open Go.Proofs
set_option maxRecDepth 100000
set_option linter.unusedVariables false
set_option linter.unusedSimpArgs false
variable {gl : Nat → IV}
theorem tagless (t : Nat) (e n : Nat) (f : Nat → List IV) : leV (.lst (some t) e n f) (.lst none e n f) := ⟨.inl rfl, rfl, rfl, fun _ _ => rfl⟩
theorem allB_step {p : Nat → Bool} {n i : Nat} (h : i < n) : allB p (n - i) i = (p i && allB p (n - (i + 1)) (i + 1)) := by
  rw [show n - i = (n - (i + 1)) + 1 by omega]; rfl
end Go.Proofs.YtkdlegfakefjgaaGreatDoor.Ix

namespace Go.Proofs.YtkdlegfakefjgaaGreatDoor.Ix
set_option linter.unusedVariables false
abbrev bytesS (l : List UInt8) : ByteArray := ⟨l.toArray⟩
theorem bytesS_size (l : List UInt8) : (bytesS l).size = l.length := by simp [ByteArray.size]
theorem bytesS_data (l : List UInt8) : (bytesS l).data.toList = l := by simp
theorem bytesS_append (a b : List UInt8) : bytesS a ++ bytesS b = bytesS (a ++ b) := by
  apply ByteArray.ext
  simp [ByteArray.data_append]
theorem bytesS_mk (s : ByteArray) : bytesS s.data.toList = s := by cases s; simp [bytesS]
def numsS (f : Nat → Int) : Nat → List UInt8
  | 0 => []
  | n + 1 => numsS f n ++ 32 :: Go.Lib.itoa (f n)
def lineS (w : List UInt8) (n : Nat) (f : Nat → Int) : List UInt8 := w ++ numsS f n ++ [10]
def i64 (x : Int) : Prop := -9223372036854775808 ≤ x ∧ x ≤ 9223372036854775807
def Bl.ring (b : Bl) (i j : Nat) : Int := [b.r1 i, b.r2 i, b.r3 i, b.r4 i].getD j 0
def Bl.pol (b : Bl) (j : Nat) : Int := if j % 2 = 0 then b.lf (j / 2) else b.df (j / 2)
abbrev polarW : List UInt8 := [112, 111, 108, 97, 114]
abbrev ringW : List UInt8 := [114, 105, 110, 103]
def ringsS (b : Bl) : Nat → List UInt8
  | 0 => []
  | k + 1 => ringsS b k ++ lineS ringW 4 (b.ring k)
def Bl.text (b : Bl) : List UInt8 := lineS polarW (2 * b.nl) b.pol ++ ringsS b b.nr
end Go.Proofs.YtkdlegfakefjgaaGreatDoor.Ix

namespace Go.Proofs.YtkdlegfakefjgaaGreatDoor.Ix
set_option linter.unusedVariables false
inductive Shp where
  | int (k : IntKind)
  | bool
  | str
  | slice (e : Nat) (s : Shp)
  | agg (l : List (Nat × Shp))
def total : List (Nat × Shp) → Nat
  | [] => 0
  | x :: r => x.1 + total r
mutual
def ShpOK (P : Program) : Shp → TypeId → Prop
  | .int k, t => P.underlying t = some (.int k)
  | .bool, t => P.underlying t = some .bool
  | .str, t => P.underlying t = some .string
  | .slice e s, t => ∃ u, P.underlying t = some (.slice u) ∧ P.cellsOf u = e ∧ 0 < e ∧ ShpOK P s u
  | .agg l, t => P.cellsOf t = total l ∧ ((∃ fs, P.underlying t = some (.struct fs) ∧ ShpOKs P l 0 (fs.toList.map fun f => (f.offset, f.type))) ∨
      ∃ n e, P.underlying t = some (.array n e) ∧ ShpOKs P l 0 ((List.range n).map fun i => (i * P.cellsOf e, e)))
def ShpOKs (P : Program) : List (Nat × Shp) → Nat → List (Nat × TypeId) → Prop
  | [], _, [] => True
  | (sz, s) :: l, off, (o, u) :: r => o = off ∧ P.cellsOf u = sz ∧ ShpOK P s u ∧ ShpOKs P l (off + sz) r
  | _, _, _ => False
end
mutual
def Fit : Shp → List IV → Prop
  | .int k, xs => ∃ n, xs = [.int k n] ∧ (Lit.int k n).wf = true
  | .bool, xs => ∃ b, xs = [.bool b]
  | .str, xs => ∃ s : ByteArray, xs = [.str s] ∧ s.size ≤ maxLen
  | .slice e s, xs => ∃ n f, xs = [.lst none e n f] ∧ n ≤ maxLen ∧ ∀ i, i < n → (f i).length = e ∧ Fit s (f i)
  | .agg l, xs => FitL l xs
def FitL : List (Nat × Shp) → List IV → Prop
  | [], xs => xs = []
  | (sz, s) :: l, xs => ∃ ys zs, xs = ys ++ zs ∧ ys.length = sz ∧ Fit s ys ∧ FitL l zs
end
def Tells (I : Imm) (xs : List IV) (cs : List Value) : Prop := xs.length = cs.length ∧ ∀ (j : Nat) y, xs[j]? = some y → D I y (cs.getD j undef) ∧ (cs.getD j undef).oneCell' = true
theorem Tells.one {I : Imm} {x : IV} {v : Value} (h : D I x v) (h1 : v.oneCell' = true) : Tells I [x] [v] := by
  refine ⟨rfl, fun j y hy => ?_⟩
  cases j with
  | zero => simp at hy; subst hy; exact ⟨h, h1⟩
  | succ j => simp at hy
theorem Tells.append {I : Imm} {xs ys : List IV} {cs ds : List Value} (h : Tells I xs cs) (k : Tells I ys ds) : Tells I (xs ++ ys) (cs ++ ds) := by
  refine ⟨by simp [h.1, k.1], fun j y hy => ?_⟩
  by_cases hj : j < xs.length
  · rw [List.getElem?_append_left hj] at hy
    have := h.2 j y hy
    rw [List.getD_eq_getElem?_getD, List.getElem?_append_left (by rw [← h.1]; exact hj), ← List.getD_eq_getElem?_getD]; exact this
  · rw [List.getElem?_append_right (by omega)] at hy
    have := k.2 _ y hy
    rw [List.getD_eq_getElem?_getD, List.getElem?_append_right (by rw [← h.1]; omega), ← h.1, ← List.getD_eq_getElem?_getD]; exact this
section
variable {H : Type} {enc : TypeId × Value → H} {P : Program} {w : World} {spare : Nat → Bool} {held : Bool}
theorem cells_get {base : Nat} {a : Addr} {n : Nat} {cs : List Value} (h : w.cells? base a n = some cs) : cs.length = n ∧ ∀ j, j < n → w.cell? (a.add j) = cs[j]? := by
  unfold World.cells? at h
  split at h
  · exact ⟨by simpa using mapM_some_length h, fun j hj => mapM_some_get h j j (by simp [hj])⟩
  · cases h
theorem cell_spot {a : Addr} {v : Value} (h : w.cell? a = some v) : a.spot = none := by
  unfold World.cell? at h
  split at h
  · cases hs : a.spot with
    | none => rfl
    | some x => simp [hs] at h
  · cases h
mutual
theorem fit_of_trod : ∀ (s : Shp) (t : TypeId), ShpOK P s t → ∀ (fuel : Nat) (cs : List Value) (x : DataW H × List MemPlace), DataW.trod enc P w 0 (fun _ => true) held fuel t cs = some x →
    ∃ xs, Fit s xs ∧ Tells (fun a => w.cell? a) xs cs
  | .int k, t, ht, fuel, cs, x, h => by
    simp only [ShpOK] at ht
    obtain ⟨n, rfl, _, hw⟩ := DataW.trod_int ht h
    exact ⟨_, ⟨n, rfl, hw⟩, .one (.int k n) rfl⟩
  | .bool, t, ht, fuel, cs, x, h => by
    simp only [ShpOK] at ht
    obtain ⟨b, rfl, _⟩ := DataW.trod_bool ht h
    exact ⟨_, ⟨b, rfl⟩, .one (.bool b) rfl⟩
  | .str, t, ht, fuel, cs, x, h => by
    simp only [ShpOK] at ht
    obtain ⟨s, rfl, _, hs⟩ := DataW.trod_string ht h
    exact ⟨_, ⟨s, rfl, hs⟩, .one (.str s) rfl⟩
  | .slice e s, t, ht, fuel, cs, x, h => by
    simp only [ShpOK] at ht
    obtain ⟨u, hu, rfl, he, hs⟩ := ht
    rcases DataW.trod_slice hu h with ⟨rfl, _⟩ | ⟨a, len, cap, elems, rest, n, _, rfl, _, _, hlc, hcm, hlen, hel, hsp, _⟩
    · exact ⟨[.lst none (P.cellsOf u) 0 fun _ => []], ⟨0, _, rfl, Nat.zero_le _, fun i hi => by omega⟩, .one (.lstN _ _) rfl⟩
    · obtain ⟨hr1, hr2⟩ := hsp rfl
      have ex : ∀ i, i < len → ∃ xs, Fit s xs ∧ ∃ vs, w.cells? 0 (a.add (i * P.cellsOf u)) (P.cellsOf u) = some vs ∧ Tells (fun a => w.cell? a) xs vs := by
        intro i hi
        have h1 := hel i hi
        rw [List.getElem?_eq_getElem (by omega), Option.bind_eq_some_iff] at h1
        obtain ⟨vs, hv, ht⟩ := h1
        obtain ⟨xs, k1, k2⟩ := fit_of_trod s u hs n vs _ ht
        exact ⟨xs, k1, vs, hv, k2⟩
      have hspot : 0 < cap → a.spot = none := by
        intro hc
        have : ∃ vs, w.cells? 0 (a.add (0 * P.cellsOf u)) (P.cellsOf u) = some vs := by
          by_cases hl : 0 < len
          · obtain ⟨_, _, vs, hv, _⟩ := ex 0 hl; exact ⟨vs, hv⟩
          · have h1 := hr2 0 (by omega)
            rw [List.getElem?_eq_getElem (by omega), Option.bind_eq_some_iff] at h1
            obtain ⟨vs, hv, _⟩ := h1
            exact ⟨vs, by rw [show len + 0 = 0 by omega] at hv; exact hv⟩
        obtain ⟨vs, hv⟩ := this
        obtain ⟨g1, g2⟩ := cells_get hv
        have := g2 0 he
        rw [List.getElem?_eq_getElem (by omega), Nat.zero_mul] at this
        have h0 : (a.add 0).add 0 = a := by simp [Addr.add]
        rw [h0] at this
        exact cell_spot this
      by_cases hc : cap = 0
      · subst hc
        have : len = 0 := by omega
        subst this
        exact ⟨[.lst none (P.cellsOf u) 0 fun _ => []], ⟨0, _, rfl, Nat.zero_le _, fun i hi => by omega⟩, .one (.lstN _ _) rfl⟩
      · obtain ⟨b, off, spot⟩ := a
        have hs0 := hspot (by omega)
        simp only at hs0
        subst hs0
        let f : Nat → List IV := fun i => if hi : i < len then (ex i hi).choose else []
        have hf : ∀ i (hi : i < len), Fit s (f i) ∧ ∃ vs, w.cells? 0 ((⟨b, off, none⟩ : Addr).add (i * P.cellsOf u)) (P.cellsOf u) = some vs ∧ Tells (fun a => w.cell? a) (f i) vs := by
          intro i hi
          have e : f i = (ex i hi).choose := dif_pos hi
          rw [e]; exact (ex i hi).choose_spec
        have hlen' : ∀ i, i < len → (f i).length = P.cellsOf u := fun i hi => by
          obtain ⟨_, vs, hv, ht⟩ := hf i hi
          rw [ht.1]; exact (cells_get hv).1
        have hcell : ∀ i j, i < len → j < P.cellsOf u → ∃ v, w.cell? ⟨b, off + i * P.cellsOf u + j, none⟩ = some v ∧ v.oneCell' = true ∧ ∀ x, (f i)[j]? = some x → D (fun a => w.cell? a) x v := by
          intro i j hi hj
          obtain ⟨_, vs, hv, ht⟩ := hf i hi
          obtain ⟨g1, g2⟩ := cells_get hv
          have h1 := g2 j hj
          rw [add_none, add_none] at h1
          have hjl : j < (f i).length := by rw [hlen' i hi]; exact hj
          have h3 := ht.2 j _ (List.getElem?_eq_getElem hjl)
          refine ⟨vs.getD j undef, ?_, h3.2, fun x hx => (ht.2 j x hx).1⟩
          rw [h1, List.getD_eq_getElem?_getD, List.getElem?_eq_getElem (by omega)]; rfl
        refine ⟨[.lst none (P.cellsOf u) len f], ⟨len, f, rfl, by omega, fun i hi => ⟨hlen' i hi, (hf i hi).1⟩⟩, .one ?_ rfl⟩
        refine .lst _ len f b off cap (fun i j => (w.cell? ⟨b, off + i * P.cellsOf u + j, none⟩).getD undef) hlc hlen' (fun i j hi hj => ?_) (fun i j hi hj => ?_) (fun i j x hi hx => ?_)
        · obtain ⟨v, hv, _⟩ := hcell i j hi hj
          show w.cell? _ = some ((w.cell? _).getD undef)
          rw [hv]; rfl
        · obtain ⟨v, hv, h1, _⟩ := hcell i j hi hj
          show ((w.cell? _).getD undef).oneCell' = true
          rw [hv]; exact h1
        · have hj : j < P.cellsOf u := by rw [← hlen' i hi]; exact (List.getElem?_eq_some_iff.1 hx).1
          obtain ⟨v, hv, _, hD⟩ := hcell i j hi hj
          show D _ x ((w.cell? _).getD undef)
          rw [hv]; exact hD x hx
  | .agg l, t, ht, fuel, cs, x, h => by
    simp only [ShpOK] at ht
    obtain ⟨hsz, ⟨fs, hu, hfs⟩ | ⟨n, e, hu, hfs⟩⟩ := ht
    · obtain ⟨ys, n, _, _, hcl, hyl, hy⟩ := DataW.trod_struct hu h
      have := fits_of_trod l 0 _ hfs n cs (fun i o u hi => by
        simp only [List.getElem?_map, Option.map_eq_some_iff] at hi
        obtain ⟨f, hf, e⟩ := hi
        simp only [Prod.mk.injEq] at e
        obtain ⟨rfl, rfl⟩ := e
        have hf' : fs[i]? = some f := by simpa using hf
        have hlt : i < ys.length := by rw [hyl]; exact (Array.getElem?_eq_some_iff.1 hf').1
        exact ⟨_, (hy i f hf').trans (List.getElem?_eq_getElem hlt)⟩) (by omega)
      simpa [Fit] using this
    · obtain ⟨ys, m, _, _, hcl, hyl, hy⟩ := DataW.trod_array hu h
      have := fits_of_trod l 0 _ hfs m cs (fun i o u hi => by
        simp only [List.getElem?_map, Option.map_eq_some_iff] at hi
        obtain ⟨f, hf, e⟩ := hi
        simp only [Prod.mk.injEq] at e
        obtain ⟨rfl, rfl⟩ := e
        obtain ⟨hlt, rfl⟩ := List.getElem?_eq_some_iff.1 hf
        simp at hlt ⊢
        have := hy i hlt
        rw [List.getElem?_eq_getElem (by omega)] at this
        exact ⟨_, _, this⟩) (by omega)
      simpa [Fit] using this
theorem fits_of_trod : ∀ (l : List (Nat × Shp)) (off : Nat) (ts : List (Nat × TypeId)), ShpOKs P l off ts → ∀ (fuel : Nat) (cs : List Value),
    (∀ (i : Nat) o u, ts[i]? = some (o, u) → ∃ x, DataW.trod enc P w 0 (fun _ => true) held fuel u ((cs.drop o).take (P.cellsOf u)) = some x) → cs.length = off + total l →
    ∃ xs, FitL l xs ∧ Tells (fun a => w.cell? a) xs (cs.drop off)
  | [], off, ts, h, fuel, cs, hx, hl => ⟨[], rfl, by
      have : cs.drop off = [] := by simp [total] at hl; simp [hl]
      rw [this]; exact ⟨rfl, fun j y hy => by simp at hy⟩⟩
  | (sz, s) :: l, off, [], h, fuel, cs, hx, hl => by simp [ShpOKs] at h
  | (sz, s) :: l, off, (o, u) :: r, h, fuel, cs, hx, hl => by
    simp only [ShpOKs] at h
    obtain ⟨rfl, rfl, h3, h4⟩ := h
    simp only [total] at hl
    obtain ⟨y, hy⟩ := hx 0 o u rfl
    obtain ⟨xs, k1, k2⟩ := fit_of_trod s u h3 fuel _ y hy
    obtain ⟨zs, m1, m2⟩ := fits_of_trod l (o + P.cellsOf u) r h4 fuel cs (fun i o' u' hi => hx (i + 1) o' u' (by simpa using hi)) (by omega)
    have hlen : xs.length = P.cellsOf u := by rw [k2.1]; simp; omega
    refine ⟨xs ++ zs, ?_, ?_⟩
    · simp only [FitL]; exact ⟨xs, zs, rfl, hlen, k1, m1⟩
    · have e : cs.drop o = (cs.drop o).take (P.cellsOf u) ++ cs.drop (o + P.cellsOf u) := by
        rw [← List.drop_drop, List.take_append_drop]
      rw [e]; exact k2.append m2
end
end
end Go.Proofs.YtkdlegfakefjgaaGreatDoor.Ix

namespace Go.Proofs.YtkdlegfakefjgaaGreatDoor.Ix
set_option linter.unusedVariables false
mutual
def shpB (P : Program) : Shp → TypeId → Bool
  | .int k, t => match P.underlying t with
    | some (.int k') => decide (k' = k)
    | _ => false
  | .bool, t => match P.underlying t with
    | some .bool => true
    | _ => false
  | .str, t => match P.underlying t with
    | some .string => true
    | _ => false
  | .slice e s, t => match P.underlying t with
    | some (.slice u) => Nat.beq (P.cellsOf u) e && Nat.blt 0 e && shpB P s u
    | _ => false
  | .agg l, t => Nat.beq (P.cellsOf t) (total l) && match P.underlying t with
    | some (.struct fs) => shpsB P l 0 (fs.toList.map fun f => (f.offset, f.type))
    | some (.array n e) => shpsB P l 0 ((List.range n).map fun i => (i * P.cellsOf e, e))
    | _ => false
def shpsB (P : Program) : List (Nat × Shp) → Nat → List (Nat × TypeId) → Bool
  | [], _, [] => true
  | (sz, s) :: l, off, (o, u) :: r => Nat.beq o off && Nat.beq (P.cellsOf u) sz && shpB P s u && shpsB P l (off + sz) r
  | _, _, _ => false
end
mutual
theorem shp_ok {P : Program} : ∀ (s : Shp) (t : TypeId), shpB P s t = true → ShpOK P s t
  | .int k, t, h => by
    simp only [shpB] at h
    split at h
    · rename_i k' hk; simp at h; subst h; exact hk
    · cases h
  | .bool, t, h => by
    simp only [shpB] at h
    split at h
    · assumption
    · cases h
  | .str, t, h => by
    simp only [shpB] at h
    split at h
    · assumption
    · cases h
  | .slice e s, t, h => by
    simp only [shpB] at h
    split at h
    · rename_i u hu
      simp only [Bool.and_eq_true, beq_iff] at h
      exact ⟨u, hu, h.1.1, blt_lt h.1.2, shp_ok s u h.2⟩
    · cases h
  | .agg l, t, h => by
    simp only [shpB, Bool.and_eq_true, beq_iff] at h
    obtain ⟨h1, h2⟩ := h
    refine ⟨h1, ?_⟩
    split at h2
    · rename_i fs hf; exact .inl ⟨fs, hf, shps_ok l _ _ h2⟩
    · rename_i n e hf; exact .inr ⟨n, e, hf, shps_ok l _ _ h2⟩
    · cases h2
theorem shps_ok {P : Program} : ∀ (l : List (Nat × Shp)) (off : Nat) (ts : List (Nat × TypeId)), shpsB P l off ts = true → ShpOKs P l off ts
  | [], _, [], _ => trivial
  | [], _, _ :: _, h => by simp [shpsB] at h
  | (sz, s) :: l, off, [], h => by simp [shpsB] at h
  | (sz, s) :: l, off, (o, u) :: r, h => by
    simp only [shpsB, Bool.and_eq_true, beq_iff] at h
    exact ⟨h.1.1.1, h.1.1.2, shp_ok s u h.1.2, shps_ok l _ r h.2⟩
end
def FitV : Shp → IV → Prop
  | .agg l, v => ∃ xs, v = .agg xs ∧ FitL l xs
  | s, v => Fit s [v]
section
variable {H : Type} {enc : TypeId × Value → H} {P : Program} {w : World} {held : Bool} {base : Nat}
theorem open_shp {r : Reach} {b0 : Nat} (s : Shp) (t : TypeId) (hs : ShpOK P s t) {v : Value} {d : DataW H} {p : List MemPlace} (hval : Value.okWide P w r b0 t v) (h : DataW.Trod enc P w 0 (fun _ => true) held t v d p) :
    ∃ x, FitV s x ∧ D (fun a => w.cell? a) x v := by
  obtain ⟨fuel, h⟩ := h
  obtain ⟨xs, h1, h2, h3⟩ := fit_of_trod s t hs fuel _ _ h
  have plain : v.cells = #[v] → (∃ x, xs = [x]) → ∃ x, xs = [x] ∧ D (fun a => w.cell? a) x v := fun e hx => by
    obtain ⟨x, rfl⟩ := hx
    refine ⟨x, rfl, ?_⟩
    have := (h3 0 x rfl).1
    rw [e] at this; exact this
  cases s with
  | agg l =>
    simp only [ShpOK] at hs
    have : ∃ cs, v = .agg cs := by
      unfold Value.okWide at hval
      obtain ⟨_, ⟨fs, hu, _⟩ | ⟨n, e, hu, _⟩⟩ := hs
      · rw [hu] at hval; exact ⟨_, hval.choose_spec.1⟩
      · rw [hu] at hval; exact ⟨_, hval.choose_spec.1⟩
    obtain ⟨cs, rfl⟩ := this
    refine ⟨.agg xs, ⟨xs, rfl, h1⟩, .agg xs cs (by simpa [Value.cells] using h2) (fun j u hu => ?_) (fun j x hx => ?_)⟩
    · have hlt : j < xs.length := by rw [h2]; simpa [Value.cells] using (Array.getElem?_eq_some_iff.1 hu).1
      have := (h3 j _ (List.getElem?_eq_getElem hlt)).2
      simp only [Value.cells, List.getD_eq_getElem?_getD, Array.getElem?_toList, hu] at this
      exact this
    · have := (h3 j x hx).1
      simp only [Value.cells, List.getD_eq_getElem?_getD, Array.getElem?_toList] at this
      rw [Array.getD_eq_getD_getElem?]; exact this
  | int k =>
    simp only [ShpOK] at hs
    obtain ⟨n, rfl, hw⟩ := h1
    obtain ⟨m, hm, _, _⟩ := DataW.trod_int hs h
    have e : v.cells = #[v] := by cases v <;> simp_all [Value.cells, Value.okWide, Cell.okWide, Cell.ok]
    obtain ⟨x, hx, hD⟩ := plain e ⟨_, rfl⟩
    cases hx
    exact ⟨_, ⟨n, rfl, hw⟩, hD⟩
  | bool =>
    simp only [ShpOK] at hs
    obtain ⟨n, rfl⟩ := h1
    have e : v.cells = #[v] := by cases v <;> simp_all [Value.cells, Value.okWide, Cell.okWide, Cell.ok]
    obtain ⟨x, hx, hD⟩ := plain e ⟨_, rfl⟩
    cases hx
    exact ⟨_, ⟨n, rfl⟩, hD⟩
  | str =>
    simp only [ShpOK] at hs
    obtain ⟨n, rfl, hn⟩ := h1
    have e : v.cells = #[v] := by cases v <;> simp_all [Value.cells, Value.okWide, Cell.okWide, Cell.ok]
    obtain ⟨x, hx, hD⟩ := plain e ⟨_, rfl⟩
    cases hx
    exact ⟨_, ⟨n, rfl, hn⟩, hD⟩
  | slice e s =>
    simp only [ShpOK] at hs
    obtain ⟨u, hu, _⟩ := hs
    obtain ⟨n, f, rfl, hn⟩ := h1
    have e : v.cells = #[v] := by cases v <;> simp_all [Value.cells, Value.okWide, Cell.okWide, Cell.ok]
    obtain ⟨x, hx, hD⟩ := plain e ⟨_, rfl⟩
    cases hx
    exact ⟨_, ⟨n, f, rfl, hn⟩, hD⟩
theorem open_shps {r : Reach} {b0 : Nat} : ∀ (ss : List Shp) (ts : List TypeId) (vs : List Value) (ds : List (DataW H)) (p : List MemPlace), ss.length = ts.length → (∀ (j : Nat) s t, ss[j]? = some s → ts[j]? = some t → ShpOK P s t) →
    (∀ (j : Nat) t v, ts[j]? = some t → vs[j]? = some v → Value.okWide P w r b0 t v) → DataW.TrodAll enc P w 0 (fun _ => true) held ts vs ds p →
    ∃ xs : List IV, xs.length = vs.length ∧ vs.length = ss.length ∧ (∀ (j : Nat) s x, ss[j]? = some s → xs[j]? = some x → FitV s x) ∧ ∀ (j : Nat) x, xs[j]? = some x → D (fun a => w.cell? a) x (vs.getD j undef)
  | [], [], vs, ds, p, _, _, _, h => by
    cases vs <;> cases ds <;> simp [DataW.TrodAll] at h
    exact ⟨[], rfl, rfl, fun j s x h => by simp at h, fun j x h => by simp at h⟩
  | [], _ :: _, _, _, _, hl, _, _, _ => by simp at hl
  | _ :: _, [], _, _, _, hl, _, _, _ => by simp at hl
  | s :: ss, t :: ts, vs, ds, p, hl, hs, hv, h => by
    obtain ⟨v, vs', d, ds', p1, p2, rfl, rfl, rfl, h1, h2⟩ := Go.ChangeShapes.trodAll_cons h
    obtain ⟨x, g1, g2⟩ := open_shp s t (hs 0 s t rfl rfl) (hv 0 t v rfl rfl) h1
    obtain ⟨xs, k0, k1, k2, k3⟩ := open_shps ss ts vs' ds' p2 (by simpa using hl) (fun j s t a b => hs (j + 1) s t (by simpa using a) (by simpa using b)) (fun j t v a b => hv (j + 1) t v (by simpa using a) (by simpa using b)) h2
    refine ⟨x :: xs, by simp [k0], by simp [k1], fun j s' x' a b => ?_, fun j x' b => ?_⟩
    · cases j with
      | zero => simp at a b; subst a b; exact g1
      | succ j => exact k2 j s' x' (by simpa using a) (by simpa using b)
    · cases j with
      | zero => simp at b; subst b; simpa using g2
      | succ j => simpa using k3 j x' (by simpa using b)
theorem trodAll_len : ∀ (ts : List TypeId) (vs : List Value) (ds : List (DataW H)) (p : List MemPlace) {spare : Nat → Bool}, DataW.TrodAll enc P w base spare held ts vs ds p → ds.length = ts.length
  | [], vs, ds, p, _, h => by
    cases vs <;> cases ds <;> simp [DataW.TrodAll] at h
    rfl
  | t :: ts, vs, ds, p, _, h => by
    obtain ⟨v, vs', d, ds', p1, p2, rfl, rfl, rfl, h1, h2⟩ := Go.ChangeShapes.trodAll_cons h
    simp [trodAll_len ts vs' ds' p2 h2]
theorem shut_all (hl : laidOutB P = true) {W W' : World} (hb : Go.RowKit.Below W.heap.size W W') : ∀ (ts : List TypeId) (vs : List Value) (ds : List (DataW H)) (p : List MemPlace), ts.all (fun t => P.readableRec t && Nat.blt t P.types.size) = true →
    DataW.TrodAll enc P W 0 (fun _ => true) true ts vs ds p → DataW.TrodAll enc P W' 0 (fun b => decide (b < W.heap.size)) true ts vs ds p
  | [], vs, ds, p, _, h => by
    cases vs <;> cases ds <;> simp [DataW.TrodAll] at h ⊢
    exact h
  | t :: ts, vs, ds, p, ht, h => by
    obtain ⟨v, vs', d, ds', p1, p2, rfl, rfl, rfl, h1, h2⟩ := Go.ChangeShapes.trodAll_cons h
    simp only [List.all_cons, Bool.and_eq_true] at ht
    have lt : ∀ x ∈ p1, x.block < W.heap.size := by
      obtain ⟨m, hm⟩ := h1; exact DataW.trod_lt m _ _ _ hm
    exact ⟨_, _, (Go.RowKit.Below.trod hl ht.1.1 (blt_lt ht.1.2) h1 hb lt), shut_all hl hb ts vs' ds' p2 ht.2 h2, rfl⟩
end
theorem Comp.runG {P : Program} {gl : Nat → IV} {g : Nat} {args : List IV} {r : IV} {up' : List Ces} (h : Comp P gl g [] args r up') {vals : Array Value} {W : World} (hg : ∀ g, D (fun a => W.cell? a) (gl g) (.pointer (some ⟨g, 0, none⟩))) (hz : Gsz gl W) (hl : args.length = vals.size)
    (ha : ∀ (j : Nat) x, args[j]? = some x → D (fun a => W.cell? a) x (vals.getD j undef)) :
    Calls P g vals W fun e W' => ∃ v, e = .returned v ∧ (∃ I s, V I (under fun _ _ => none) s r v) ∧ Go.RowKit.Below W.heap.size W W' := by
  have hm : MemR gl [] W (fun a => W.cell? a) (fun b => b < W.heap.size) (fun _ _ => none) (fun _ => noSig) := by
    refine ⟨fun l d c hc => ?_, fun l d l' d' b h1 => (by cases h1), fun l d b h1 => (by cases h1), fun a v h => h, hg, fun b h => h, hz⟩
    simp [upC, lookC] at hc
  refine (h.2 vals W (fun a => W.cell? a) (fun b => b < W.heap.size) (fun _ _ => none) (fun _ => noSig) hm hl (fun j x hx => .data (ha j x hx))).mono fun e W' hh => ?_
  obtain ⟨v, I', s, e1, e2, _, _, e5⟩ := hh
  exact ⟨v, e1, ⟨I', s, e2⟩, ⟨e5.os, e5.tape, e5.output, e5.size, fun k hk => e5.keep k hk⟩⟩
theorem Comp.run {P : Program} {g : Nat} {args : List IV} {r : IV} {up' : List Ces} (h : Comp P (fun _ => .dead) g [] args r up') {vals : Array Value} {W : World} (hl : args.length = vals.size)
    (ha : ∀ (j : Nat) x, args[j]? = some x → D (fun a => W.cell? a) x (vals.getD j undef)) :
    Calls P g vals W fun e W' => ∃ v, e = .returned v ∧ (∃ I s, V I (under fun _ _ => none) s r v) ∧ Go.RowKit.Below W.heap.size W W' := h.runG (fun _ => .dead _) (fun _ _ _ _ _ _ h => by cases h) hl ha
mutual
def flatD {H : Type} : DataW H → List Value
  | .lit (.int k n) => [.int k n]
  | .lit (.string bs) => [.string ⟨bs.toArray⟩]
  | .agg parts => flatDs parts
  | _ => []
def flatDs {H : Type} : List (DataW H) → List Value
  | [] => []
  | d :: r => flatD d ++ flatDs r
end
mutual
def flatS : Shp → Bool
  | .int _ => true
  | .str => true
  | .agg l => flatSs l
  | _ => false
def flatSs : List (Nat × Shp) → Bool
  | [] => true
  | (_, s) :: r => flatS s && flatSs r
end
section
variable {H : Type} {enc : TypeId × Value → H} {P : Program} {w : World} {held : Bool} {spare : Nat → Bool}
theorem shps_len : ∀ (l : List (Nat × Shp)) (off : Nat) (ts : List (Nat × TypeId)), ShpOKs P l off ts → ts.length = l.length
  | [], off, [], h => rfl
  | [], off, _ :: _, h => by simp [ShpOKs] at h
  | (sz, s) :: l, off, [], h => by simp [ShpOKs] at h
  | (sz, s) :: l, off, (o, u) :: r, h => by
    simp only [ShpOKs] at h
    simp [shps_len l _ r h.2.2.2]
mutual
theorem flat_of_trod : ∀ (s : Shp) (t : TypeId), ShpOK P s t → flatS s = true → ∀ (fuel : Nat) (cs : List Value) (x : DataW H × List MemPlace), DataW.trod enc P w 0 spare held fuel t cs = some x → flatD x.1 = cs
  | .int k, t, ht, _, fuel, cs, x, h => by
    simp only [ShpOK] at ht
    obtain ⟨n, rfl, rfl, hw⟩ := DataW.trod_int ht h
    rfl
  | .bool, t, ht, hf, fuel, cs, x, h => by simp [flatS] at hf
  | .str, t, ht, hf, fuel, cs, x, h => by
    simp only [ShpOK] at ht
    obtain ⟨s, rfl, rfl, hs⟩ := DataW.trod_string ht h
    simp [flatD]
  | .slice e s, t, ht, hf, fuel, cs, x, h => by simp [flatS] at hf
  | .agg l, t, ht, hf, fuel, cs, x, h => by
    simp only [ShpOK] at ht
    simp only [flatS] at hf
    obtain ⟨hsz, ⟨fs, hu, hfs⟩ | ⟨n, e, hu, hfs⟩⟩ := ht
    · obtain ⟨ys, n, _, rfl, hcl, hyl, hy⟩ := DataW.trod_struct hu h
      have hlen := shps_len l 0 _ hfs
      simp only [List.length_map, Array.length_toList] at hlen
      have := flats_of_trod l 0 _ hfs hf n cs ys (fun i o u hi => by
        simp only [List.getElem?_map, Option.map_eq_some_iff] at hi
        obtain ⟨f, hf, e⟩ := hi
        simp only [Prod.mk.injEq] at e
        obtain ⟨rfl, rfl⟩ := e
        exact hy i f (by simpa using hf)) (by simp [hyl]) (by omega)
      simpa [flatD] using this
    · obtain ⟨ys, m, _, rfl, hcl, hyl, hy⟩ := DataW.trod_array hu h
      have := flats_of_trod l 0 _ hfs hf m cs ys (fun i o u hi => by
        simp only [List.getElem?_map, Option.map_eq_some_iff] at hi
        obtain ⟨f, hf, e⟩ := hi
        simp only [Prod.mk.injEq] at e
        obtain ⟨rfl, rfl⟩ := e
        obtain ⟨hlt, rfl⟩ := List.getElem?_eq_some_iff.1 hf
        simp at hlt ⊢
        exact hy i hlt) (by simp [hyl]) (by omega)
      simpa [flatD] using this
theorem flats_of_trod : ∀ (l : List (Nat × Shp)) (off : Nat) (ts : List (Nat × TypeId)), ShpOKs P l off ts → flatSs l = true → ∀ (fuel : Nat) (cs : List Value) (xs : List (DataW H × List MemPlace)),
    (∀ (i : Nat) o u, ts[i]? = some (o, u) → DataW.trod enc P w 0 spare held fuel u ((cs.drop o).take (P.cellsOf u)) = xs[i]?) → xs.length = ts.length → cs.length = off + total l → flatDs (xs.map (·.1)) = cs.drop off
  | [], off, ts, h, _, fuel, cs, xs, hx, hxl, hl => by
    have h0 := shps_len [] off ts h
    have : xs = [] := by simpa using hxl.trans h0
    subst this
    simp [total] at hl
    simp [flatDs, hl]
  | (sz, s) :: l, off, [], h, _, fuel, cs, xs, hx, hxl, hl => by simp [ShpOKs] at h
  | (sz, s) :: l, off, (o, u) :: r, h, hf, fuel, cs, xs, hx, hxl, hl => by
    simp only [ShpOKs] at h
    obtain ⟨rfl, rfl, h3, h4⟩ := h
    simp only [total] at hl
    simp only [flatSs, Bool.and_eq_true] at hf
    cases xs with
    | nil => simp at hxl
    | cons y ys =>
      have hy := hx 0 o u rfl
      have k1 := flat_of_trod s u h3 hf.1 fuel _ y hy
      have k2 := flats_of_trod l (o + P.cellsOf u) r h4 hf.2 fuel cs ys (fun i o' u' hi => by have := hx (i + 1) o' u' (by simpa using hi); simpa using this) (by simpa using hxl) (by omega)
      simp only [List.map_cons, flatDs, k1, k2]
      rw [← List.drop_drop, List.take_append_drop]
end
end
end Go.Proofs.YtkdlegfakefjgaaGreatDoor.Ix

namespace Go.Proofs.YtkdlegfakefjgaaGreatDoor.Ix
set_option linter.unusedVariables false
theorem Below_cells {w w' : World} (h : Go.RowKit.Below w.heap.size w w') {k : Nat} {o : Obj} (hk : w.heap[k]? = some o) : w'.heap[k]? = some o := by
  rw [h.block k (heap_lt hk)]; exact hk
theorem MemR.below {gl : Nat → IV} {cs : List Ces} {w w' : World} {I : Imm} {X : Nat → Prop} {β : Beta} {σ : Nat → Sig} (m : MemR gl cs w I X β σ) (h : Go.RowKit.Below w.heap.size w w') : MemR gl cs w' I X β σ := by
  refine ⟨fun l d c hc => ?_, m.inj, m.keys, fun x v hx => ?_, m.glo, fun b hb => Nat.lt_of_lt_of_le (m.xb b hb) h.size, m.gz.of fun g arr el mm hg => ⟨arr, el, mm, Below_cells h hg, rfl⟩⟩
  · obtain ⟨b, arr, el, h1, h2, h3⟩ := m.cell l d c hc
    exact ⟨b, arr, el, h1, Below_cells h h2, h3⟩
  · have h1 := m.im x v hx
    rw [World.cell?_of_block (h.block x.block (World.block_lt_of_cell? w _ h1))]; exact h1
theorem comp_of_below {P : Program} {gl : Nat → IV} {g : Nat} {up : List Ces} {args : List IV} {r : IV} {fn : Func} {c : Code} (hf : P.funcs[g]? = some fn) (hb : fn.body = some c) (hn : (fn.name == "runtime.NumGoroutine") = false)
    (h : ∀ (vals : Array Value) (w : World) (I : Imm) (X : Nat → Prop) (β : Beta) (σ : Nat → Sig), MemR gl up w I X β σ → args.length = vals.size →
      (∀ (j : Nat) x, args[j]? = some x → V I (under β) noSig x (vals.getD j undef)) → Calls P g vals w fun e w' => ∃ v, e = .returned v ∧ D I r v ∧ Go.RowKit.Below w.heap.size w w') : Comp P gl g up args r up := by
  refine ⟨⟨fn, c, hf, hb, hn⟩, fun vals w I X β σ m hl ha => (h vals w I X β σ m hl ha).mono ?_⟩
  rintro e w' ⟨v, he, hd, bel⟩
  exact ⟨v, I, noSig, he, .data hd, ⟨fun t g h => (by cases h), fun t t' g g' h => (by cases h)⟩, m.below bel,
    ⟨bel.os, bel.tape, bel.output, bel.size, fun b hb => bel.block b (m.xb b hb), fun _ _ h => h, fun _ _ => rfl, fun k o hk _ => Below_cells bel hk⟩⟩
theorem noSig_str {I : Imm} {β : Beta} {s : ByteArray} {v : Value} (h : V I β noSig (.str s) v) : v = .string s := by
  cases h with
  | data h => cases h; rfl
theorem noSig_int {I : Imm} {β : Beta} {k : IntKind} {n : Int} {v : Value} (h : V I β noSig (.int k n) v) : v = .int k n := by
  cases h with
  | data h => cases h; rfl
theorem noSig_strs {I : Imm} {β : Beta} {n : Nat} {f : Nat → List IV} (s : Nat → ByteArray) (hf : ∀ i, i < n → f i = [.str (s i)]) {v : Value} (h : V I β noSig (.lst none 1 n f) v) :
    (n = 0 ∧ ∃ p, v = .slice p 0 0) ∨ ∃ b o c, v = .slice (some ⟨b, o, none⟩) n c ∧ n ≤ c ∧ ∀ i, i < n → I ⟨b, o + i, none⟩ = some (.string (s i)) := by
  cases h with
  | data h =>
    cases h with
    | lstN e f => exact .inl ⟨rfl, _, rfl⟩
    | lst e n f b off c g hc hl hI h1 h =>
      refine .inr ⟨b, off, c, rfl, hc, fun i hi => ?_⟩
      have hd := h i 0 _ hi (by rw [hf i hi]; rfl)
      have hs : g i 0 = .string (s i) := by generalize g i 0 = u at hd; cases hd; rfl
      have := hI i 0 hi (by decide)
      rw [hs] at this
      simpa using this
theorem tab_of {P : Program} {gl : Nat → IV} {cs : List Ces} {w : World} {I : Imm} {X : Nat → Prop} {β : Beta} {σ : Nat → Sig} (m : MemR gl cs w I X β σ) {name : String} {g : Nat} {k : IntKind} {zs : List Int} (hg : P.globalNamed name = some g)
    (h : gl g = .vptr zs.length 1 (fun _ => zs.map fun z => .int k z) 0 0) (hz : 0 < zs.length) : Go.Lib.TabIs P w name k zs := by
  obtain ⟨arr, el, mm, h1, h2⟩ := m.gz g _ _ _ _ _ h (by decide) hz
  have hd := m.glo g
  rw [h] at hd
  generalize hv : Value.pointer (some ⟨g, 0, none⟩) = v at hd
  cases hd with
  | vptr e n f i j b off gg hi hl hI h1' hD =>
    simp at hv
    obtain ⟨rfl, hoff⟩ := hv
    subst hoff
    unfold Go.Lib.TabIs World.var?
    rw [hg]
    simp only [Option.bind_some, h1]
    congr 1
    apply Array.ext
    · simp [h2]
    · intro j hj hj'
      have hj2 : j < zs.length := by simpa using hj'
      have hx := m.im _ _ (hI 0 j (by decide) hj2)
      have hd := hD 0 j (.int k zs[j]) (by decide) (by simp [hj2])
      have hs : gg 0 j = .int k zs[j] := by generalize gg 0 j = u at hd; cases hd; rfl
      rw [hs] at hx
      simp [World.cell?, h1] at hx
      rw [Array.getElem?_eq_getElem hj] at hx
      simpa using hx
end Go.Proofs.YtkdlegfakefjgaaGreatDoor.Ix

namespace Go.Proofs.YtkdlegfakefjgaaGreatDoor.Ix
open Go.Proofs Go.Shelf
def laysItoa_ren : Go.Shelf.Ren := ⟨fun | 171 => 108 | 243 => 133 | 246 => 150 | 283 => 157 | 284 => 158 | 285 => 159 | 286 => 160 | 129 => 167 | 317 => 166 | 318 => 168 | 319 => 169 | 320 => 170 | 337 => 175 | 338 => 176 | n => n, fun | 3 => 3 | 9 => 9 | 2 => 2 | 4 => 4 | 171 => 223 | 0 => 0 | 53 => 224 | 37 => 63 | 5 => 5 | 173 => 227 | 212 => 233 | 51 => 234 | 20 => 20 | 213 => 235 | 46 => 213 | 232 => 241 | 233 => 242 | n => n, fun | 17 => 1 | 18 => 3 | 19 => 4 | n => n⟩
theorem laysItoa : Go.Proofs.LaysM.n171 Tryz.prog laysItoa_ren := {
  mixed := by kernel_rfl
  f129 := Tryz.func167.trans (congrArg some (by kernel_rfl))
  f171 := Tryz.func108.trans (congrArg some (by kernel_rfl))
  f243 := Tryz.func133.trans (congrArg some (by kernel_rfl))
  f246 := Tryz.func150.trans (congrArg some (by kernel_rfl))
  f283 := Tryz.func157.trans (congrArg some (by kernel_rfl))
  f284 := Tryz.func158.trans (congrArg some (by kernel_rfl))
  f285 := Tryz.func159.trans (congrArg some (by kernel_rfl))
  f286 := Tryz.func160.trans (congrArg some (by kernel_rfl))
  f317 := Tryz.func166.trans (congrArg some (by kernel_rfl))
  f318 := Tryz.func168.trans (congrArg some (by kernel_rfl))
  f319 := Tryz.func169.trans (congrArg some (by kernel_rfl))
  f320 := Tryz.func170.trans (congrArg some (by kernel_rfl))
  f337 := Tryz.func175.trans (congrArg some (by kernel_rfl))
  f338 := Tryz.func176.trans (congrArg some (by kernel_rfl))
  t0 := Tryz.underlying0
  a0 := Tryz.isAgg0
  z0 := Tryz.sizeOf0
  v0 := Tryz.zeroValue0
  t2 := Tryz.underlying2
  a2 := Tryz.isAgg2
  z2 := Tryz.sizeOf2
  v2 := Tryz.zeroValue2
  t3 := Tryz.underlying3
  a3 := Tryz.isAgg3
  z3 := Tryz.sizeOf3
  v3 := Tryz.zeroValue3
  t4 := Tryz.underlying4
  a4 := Tryz.isAgg4
  z4 := Tryz.sizeOf4
  v4 := Tryz.zeroValue4
  t5 := Tryz.underlying5
  a5 := Tryz.isAgg5
  z5 := Tryz.sizeOf5
  v5 := Tryz.zeroValue5
  t9 := Tryz.underlying9
  a9 := Tryz.isAgg9
  z9 := Tryz.sizeOf9
  v9 := Tryz.zeroValue9
  t20 := Tryz.underlying20
  a20 := Tryz.isAgg20
  z20 := Tryz.sizeOf20
  v20 := Tryz.zeroValue20
  t37 := Tryz.underlying63
  a37 := Tryz.isAgg63
  z37 := Tryz.sizeOf63
  v37 := Tryz.zeroValue63
  t46 := Tryz.underlying213
  a46 := Tryz.isAgg213
  z46 := Tryz.sizeOf213
  v46 := Tryz.zeroValue213
  t51 := Tryz.underlying234
  a51 := Tryz.isAgg234
  z51 := Tryz.sizeOf234
  v51 := Tryz.zeroValue234
  t53 := Tryz.underlying224
  a53 := Tryz.isAgg224
  z53 := Tryz.sizeOf224
  v53 := Tryz.zeroValue224
  t171 := Tryz.underlying223
  a171 := Tryz.isAgg223
  z171 := Tryz.sizeOf223
  v171 := Tryz.zeroValue223
  t173 := Tryz.underlying227
  a173 := Tryz.isAgg227
  z173 := Tryz.sizeOf227
  v173 := Tryz.zeroValue227
  t212 := Tryz.underlying233
  a212 := Tryz.isAgg233
  z212 := Tryz.sizeOf233
  v212 := Tryz.zeroValue233
  t213 := Tryz.underlying235
  a213 := Tryz.isAgg235
  z213 := Tryz.sizeOf235
  t232 := Tryz.underlying241
  a232 := Tryz.isAgg241
  z232 := Tryz.sizeOf241
  v232 := Tryz.zeroValue241
  t233 := Tryz.underlying242
  a233 := Tryz.isAgg242
  z233 := Tryz.sizeOf242
  v233 := Tryz.zeroValue242
  g17 := by kernel_rfl
  g18 := by kernel_rfl
  g19 := by kernel_rfl
  i0 := by kernel_rfl
  i2 := by kernel_rfl
  i3 := by kernel_rfl
  i4 := by kernel_rfl
  i5 := by kernel_rfl
  i9 := by kernel_rfl
  i20 := by kernel_rfl
  i37 := by kernel_rfl
  i46 := by kernel_rfl
  i51 := by kernel_rfl
  i53 := by kernel_rfl
  i171 := by kernel_rfl
  i173 := by kernel_rfl
  i212 := by kernel_rfl
  i232 := by kernel_rfl
  i233 := by kernel_rfl
  m17 := by kernel_rfl
  m18 := by kernel_rfl
  m19 := by kernel_rfl }
def laysJoin_ren : Go.Shelf.Ren := ⟨fun | 156 => 110 | 165 => 135 | 166 => 109 | 169 => 111 | 240 => 134 | 241 => 152 | 276 => 151 | 277 => 161 | n => n, fun | 31 => 86 | 9 => 9 | 3 => 3 | 4 => 4 | 0 => 0 | 20 => 20 | 72 => 168 | 76 => 173 | 70 => 166 | 37 => 63 | 75 => 172 | 127 => 206 | 164 => 219 | 5 => 5 | 80 => 176 | n => n, fun | n => n⟩
theorem laysJoin : Go.Proofs.Lays.n156 Tryz.prog laysJoin_ren := {
  mixed := by kernel_rfl
  f156 := Tryz.func110.trans (congrArg some (by kernel_rfl))
  f165 := Tryz.func135.trans (congrArg some (by kernel_rfl))
  f166 := Tryz.func109.trans (congrArg some (by kernel_rfl))
  f169 := Tryz.func111.trans (congrArg some (by kernel_rfl))
  f240 := Tryz.func134.trans (congrArg some (by kernel_rfl))
  f241 := Tryz.func152.trans (congrArg some (by kernel_rfl))
  f276 := Tryz.func151.trans (congrArg some (by kernel_rfl))
  f277 := Tryz.func161.trans (congrArg some (by kernel_rfl))
  t0 := Tryz.underlying0
  a0 := Tryz.isAgg0
  z0 := Tryz.sizeOf0
  v0 := Tryz.zeroValue0
  t3 := Tryz.underlying3
  a3 := Tryz.isAgg3
  z3 := Tryz.sizeOf3
  v3 := Tryz.zeroValue3
  t4 := Tryz.underlying4
  a4 := Tryz.isAgg4
  z4 := Tryz.sizeOf4
  v4 := Tryz.zeroValue4
  t9 := Tryz.underlying9
  a9 := Tryz.isAgg9
  z9 := Tryz.sizeOf9
  v9 := Tryz.zeroValue9
  t20 := Tryz.underlying20
  a20 := Tryz.isAgg20
  z20 := Tryz.sizeOf20
  v20 := Tryz.zeroValue20
  t31 := Tryz.underlying86
  a31 := Tryz.isAgg86
  z31 := Tryz.sizeOf86
  v31 := Tryz.zeroValue86
  t37 := Tryz.underlying63
  a37 := Tryz.isAgg63
  z37 := Tryz.sizeOf63
  v37 := Tryz.zeroValue63
  t70 := Tryz.underlying166
  a70 := Tryz.isAgg166
  z70 := Tryz.sizeOf166
  v70 := Tryz.zeroValue166
  t72 := Tryz.underlying168
  a72 := Tryz.isAgg168
  z72 := Tryz.sizeOf168
  v72 := Tryz.zeroValue168
  t75 := Tryz.underlying172
  a75 := Tryz.isAgg172
  z75 := Tryz.sizeOf172
  v75 := Tryz.zeroValue172
  t76 := Tryz.underlying173
  a76 := Tryz.isAgg173
  z76 := Tryz.sizeOf173
  v76 := Tryz.zeroValue173
  t127 := Tryz.underlying206
  a127 := Tryz.isAgg206
  z127 := Tryz.sizeOf206
  v127 := Tryz.zeroValue206
  t164 := Tryz.underlying219
  a164 := Tryz.isAgg219
  z164 := Tryz.sizeOf219
  v164 := Tryz.zeroValue219 }
def laysIndexByte_ren : Go.Shelf.Ren := ⟨fun | 137 => 137 | 217 => 153 | 266 => 162 | n => n, fun | 9 => 9 | 5 => 5 | 3 => 3 | n => n, fun | n => n⟩
theorem laysIndexByte : Go.Proofs.Lays.n137 Tryz.prog laysIndexByte_ren := {
  mixed := by kernel_rfl
  f137 := Tryz.func137.trans (congrArg some (by kernel_rfl))
  f217 := Tryz.func153.trans (congrArg some (by kernel_rfl))
  f266 := Tryz.func162.trans (congrArg some (by kernel_rfl))
  t3 := Tryz.underlying3
  a3 := Tryz.isAgg3
  z3 := Tryz.sizeOf3
  v3 := Tryz.zeroValue3
  t5 := Tryz.underlying5
  a5 := Tryz.isAgg5
  z5 := Tryz.sizeOf5
  v5 := Tryz.zeroValue5
  t9 := Tryz.underlying9
  a9 := Tryz.isAgg9
  z9 := Tryz.sizeOf9
  v9 := Tryz.zeroValue9 }
def laysGenSplit_ren : Go.Shelf.Ren := ⟨fun | 221 => 155 | 268 => 163 | 138 => 164 | 143 => 165 | 195 => 171 | 197 => 172 | 218 => 173 | 219 => 174 | 260 => 177 | 217 => 153 | 225 => 178 | 224 => 179 | 267 => 180 | 266 => 162 | 314 => 181 | n => n, fun | 9 => 9 | 3 => 3 | 31 => 86 | 4 => 4 | 0 => 0 | 105 => 238 | 21 => 21 | 5 => 5 | 46 => 213 | 119 => 243 | 139 => 246 | 138 => 245 | 146 => 247 | 51 => 234 | n => n, fun | 1 => 2 | 3 => 5 | 4 => 6 | n => n⟩
theorem laysGenSplit : Go.Proofs.Lays.n221 Tryz.prog laysGenSplit_ren := {
  mixed := by kernel_rfl
  f138 := Tryz.func164.trans (congrArg some (by kernel_rfl))
  f143 := Tryz.func165.trans (congrArg some (by kernel_rfl))
  f195 := Tryz.func171.trans (congrArg some (by kernel_rfl))
  f197 := Tryz.func172.trans (congrArg some (by kernel_rfl))
  f217 := Tryz.func153.trans (congrArg some (by kernel_rfl))
  f218 := Tryz.func173.trans (congrArg some (by kernel_rfl))
  f219 := Tryz.func174.trans (congrArg some (by kernel_rfl))
  f221 := Tryz.func155.trans (congrArg some (by kernel_rfl))
  f224 := Tryz.func179.trans (congrArg some (by kernel_rfl))
  f225 := Tryz.func178.trans (congrArg some (by kernel_rfl))
  f260 := Tryz.func177.trans (congrArg some (by kernel_rfl))
  f266 := Tryz.func162.trans (congrArg some (by kernel_rfl))
  f267 := Tryz.func180.trans (congrArg some (by kernel_rfl))
  f268 := Tryz.func163.trans (congrArg some (by kernel_rfl))
  f314 := Tryz.func181.trans (congrArg some (by kernel_rfl))
  t0 := Tryz.underlying0
  a0 := Tryz.isAgg0
  z0 := Tryz.sizeOf0
  v0 := Tryz.zeroValue0
  t3 := Tryz.underlying3
  a3 := Tryz.isAgg3
  z3 := Tryz.sizeOf3
  v3 := Tryz.zeroValue3
  t4 := Tryz.underlying4
  a4 := Tryz.isAgg4
  z4 := Tryz.sizeOf4
  v4 := Tryz.zeroValue4
  t5 := Tryz.underlying5
  a5 := Tryz.isAgg5
  z5 := Tryz.sizeOf5
  v5 := Tryz.zeroValue5
  t9 := Tryz.underlying9
  a9 := Tryz.isAgg9
  z9 := Tryz.sizeOf9
  v9 := Tryz.zeroValue9
  t21 := Tryz.underlying21
  a21 := Tryz.isAgg21
  z21 := Tryz.sizeOf21
  v21 := Tryz.zeroValue21
  t31 := Tryz.underlying86
  a31 := Tryz.isAgg86
  z31 := Tryz.sizeOf86
  v31 := Tryz.zeroValue86
  t46 := Tryz.underlying213
  a46 := Tryz.isAgg213
  z46 := Tryz.sizeOf213
  v46 := Tryz.zeroValue213
  t51 := Tryz.underlying234
  a51 := Tryz.isAgg234
  z51 := Tryz.sizeOf234
  v51 := Tryz.zeroValue234
  t105 := Tryz.underlying238
  a105 := Tryz.isAgg238
  z105 := Tryz.sizeOf238
  v105 := Tryz.zeroValue238
  t119 := Tryz.underlying243
  a119 := Tryz.isAgg243
  z119 := Tryz.sizeOf243
  t138 := Tryz.underlying245
  a138 := Tryz.isAgg245
  z138 := Tryz.sizeOf245
  v138 := Tryz.zeroValue245
  t139 := Tryz.underlying246
  a139 := Tryz.isAgg246
  z139 := Tryz.sizeOf246
  v139 := Tryz.zeroValue246
  t146 := Tryz.underlying247
  a146 := Tryz.isAgg247
  z146 := Tryz.sizeOf247
  v146 := Tryz.zeroValue247
  g1 := by kernel_rfl
  g3 := by kernel_rfl
  g4 := by kernel_rfl }
theorem extraJoin : Builder.Extra Tryz.prog laysJoin_ren := {
  sizeBuilder := by kernel_rfl
  liesBuilder := by kernel_rfl
  t5 := Tryz.underlying5
  a5 := Tryz.isAgg5
  z5 := Tryz.sizeOf5
  v5 := Tryz.zeroValue5
  infoByte := by kernel_rfl
  cellsByte := by kernel_rfl
  sizeByte := by kernel_rfl
  neB5 := by decide }
end Go.Proofs.YtkdlegfakefjgaaGreatDoor.Ix

namespace Go.Proofs.YtkdlegfakefjgaaGreatDoor.Ix
open Go.Proofs
set_option maxRecDepth 100000
set_option linter.unusedVariables false
set_option linter.unusedSimpArgs false
variable {gl : Nat → IV}
noncomputable abbrev powI : IV := .vptr Go.Lib.pow10Tab.length 1 (fun _ => Go.Lib.pow10Tab.map fun z => .int .u64 z) 0 0
theorem gPow : prog.globalNamed "internal/strconv.uint64pow10" = some g_internal_strconv_uint64pow10 := by kernel_rfl
theorem one_arg {vals : Array Value} (h : 1 = vals.size) : ∃ v, vals = #[v] := by
  rcases vals with ⟨l⟩
  match l, h with
  | [v], _ => exact ⟨v, rfl⟩
theorem two_args {vals : Array Value} (h : 2 = vals.size) : ∃ v u, vals = #[v, u] := by
  rcases vals with ⟨l⟩
  match l, h with
  | [v, u], _ => exact ⟨v, u, rfl⟩
theorem c_Itoa (up : List Ces) (hg : gl g_internal_strconv_uint64pow10 = powI) (n : Int) (hn : i64 n) : Cs gl n_strconv_Itoa up [.int .i64 n] (.str (bytesS (Go.Lib.itoa n))) up := by
  refine comp_of_below h_strconv_Itoa rfl rfl fun vals w I X β σ m hl ha => ?_
  obtain ⟨v, rfl⟩ := one_arg hl
  have hv := noSig_int (ha 0 _ rfl)
  have hv : v = .int .i64 n := hv
  subst hv
  refine (Any.strconv_Itoa laysItoa n hn.1 hn.2 w (tab_of m gPow hg (by rw [Go.Lib.pow10Tab_length]; decide))).mono ?_
  rintro e w' ⟨rfl, k, os, rfl⟩
  refine ⟨_, rfl, .str _, rfl, rfl, rfl, by simp [Go.Sort.grow, World.drewN], fun k hk => ?_⟩
  simp only [Go.Sort.grow, World.drewN]
  rw [Array.getElem?_append_left hk]
theorem c_Join (up : List Ces) (n : Nat) (f : Nat → List IV) (s : Nat → List UInt8) (sep : List UInt8) (hf : ∀ i, i < n → f i = [.str (bytesS (s i))]) (hn : n ≤ 1000000) (hl : (Go.Lib.join ((List.range n).map s) sep).length ≤ 140737488355328) :
    Cs gl n_strings_Join up [.lst none 1 n f, .str (bytesS sep)] (.str (bytesS (Go.Lib.join ((List.range n).map s) sep))) up := by
  refine comp_of_below h_strings_Join rfl rfl fun vals w I X β σ m hlen ha => ?_
  obtain ⟨v, u, rfl⟩ := two_args hlen
  have hu : u = .string (bytesS sep) := noSig_str (ha 1 _ rfl)
  subst hu
  rcases noSig_strs (fun i => bytesS (s i)) hf (ha 0 _ rfl) with ⟨rfl, p, hv⟩ | ⟨b, o, c, hv, hc, hI⟩
  · have hv : v = .slice p 0 0 := hv
    subst hv
    refine (Any.strings_Join_none laysJoin extraJoin p 0 (bytesS sep) w).mono ?_
    rintro e w' ⟨rfl, rfl⟩
    exact ⟨_, rfl, .str _, Go.RowKit.Below.refl _ _⟩
  · have hv : v = .slice (some ⟨b, o, none⟩) n c := hv
    subst hv
    by_cases h0 : n = 0
    · subst h0
      refine (Any.strings_Join_none laysJoin extraJoin (some ⟨b, o, none⟩) c (bytesS sep) w).mono ?_
      rintro e w' ⟨rfl, rfl⟩
      exact ⟨_, rfl, .str _, Go.RowKit.Below.refl _ _⟩
    · have hcell : ∀ (j : Nat) x, ((List.range n).map fun i => bytesS (s i))[j]? = some x → w.cell? ⟨b, o + j, none⟩ = some (.string x) := fun j x hx => by
        rw [List.getElem?_map] at hx
        by_cases hj : j < n
        · rw [List.getElem?_range hj] at hx
          cases hx
          exact m.im _ _ (hI j hj)
        · rw [List.getElem?_eq_none (by simp; omega)] at hx; cases hx
      have e : ((List.range n).map fun i => bytesS (s i)).map (fun x => x.data.toList) = (List.range n).map s := by
        rw [List.map_map]
        exact List.map_congr_left fun i _ => bytesS_data (s i)
      have hb : b < w.heap.size := World.block_lt_of_cell? w _ (m.im _ _ (hI 0 (by omega)))
      have hJ := Any.strings_Join laysJoin extraJoin b o c ((List.range n).map fun i => bytesS (s i)) (bytesS sep) w hcell hb (by simp; omega) (by simpa using hc) (by rw [e, bytesS_data]; exact hl)
      rw [e, bytesS_data] at hJ
      have hsz : ((List.range n).map fun i => bytesS (s i)).length = n := by simp
      rw [hsz] at hJ
      refine hJ.mono ?_
      rintro e w' ⟨rfl, bel⟩
      exact ⟨_, rfl, .str _, bel⟩
theorem c_mappedS (up : List Ces) (n : Nat) (hn : n ≤ 1000000) (f : Nat → Int) (φ : Nat → ByteArray) (k : Nat) (hk : ∀ up i, i < n → Cs gl k up [.int .i64 (f i)] (.str (φ i)) up) :
    Cs gl n_control_mapped_int_string up [.lst none 1 n fun i => [.int .i64 (f i)], .fn k [] []] (.lst (some 19) 1 n fun i => [.str (φ i)]) up := by
  refine mk h_control_mapped_int_string rfl rfl ?_
  conv => whnf
  refine .mk (α := {i : Nat // i ≤ n}) (fun i => ⟨[(10, .int .i64 i.1), (9, .int .i64 n), (8, .lst none 1 n fun i => [.int .i64 (f i)]), (5, .lst (some 19) 1 i.1 fun i => [.str (φ i)]), (1, .fn k [] [])], [], up⟩) (fun i => n - i.1) ⟨0, Nat.zero_le _⟩ ⟨?_, trivial, rfl, rfl⟩ ?_
  · exact ⟨leV_refl _, leV_refl _, leV_refl _, rfl, leV_refl _, trivial⟩
  · rintro ⟨i, hi⟩
    conv => whnf
    split
    · rename_i hb
      have hlt : i < n := by simpa using hb
      conv => whnf
      split
      · conv => whnf
        refine .mk _ _ _ _ _ (leL_refl _) (hk _ i hlt) rfl ?_
        conv => whnf
        split
        · conv => whnf
          refine ⟨⟨i + 1, hlt⟩, ⟨?_, trivial, rfl, rfl⟩, ?_⟩
          · have hw : IntKind.i64.wrap ((i : Int) + 1) = ((i + 1 : Nat) : Int) := by
              rw [wrap_in] <;> omega
            refine ⟨leV_int hw, leV_refl _, leV_refl _, ⟨.inr rfl, rfl, rfl, fun j hj => ?_⟩, leV_refl _, trivial⟩
            show (if j < i then [IV.str (φ j)] else litF 1 [.str (φ i)] (j - i)) = [IV.str (φ j)]
            split
            · rfl
            · have : j = i := by have : j < i + 1 := hj; omega
              subst this; rw [Nat.sub_self]; rfl
          · show n - (i + 1) < n - i
            omega
        · rename_i h2
          have h2' : decide (i + 1 ≤ 1073741824) = false := h2
          simp at h2'; omega
      · rename_i h2; rw [hb] at h2; cases h2
    · rename_i hb
      have : i = n := by simp at hb; omega
      subst this
      conv => whnf
      exact ⟨rfl, rfl⟩
theorem c_printable1 (up : List Ces) (hk : gl g_control_kinds = kindsI) (a : Ac) : Cs gl n_control_printable_1 up [a.iv] (.int .i64 (a.checkE 100 100 100)) up := by
  refine mk h_control_printable_1 rfl rfl ?_
  have h := fun up => c_check (gl := gl) up hk a 100 100 100
  conv => whnf
  repeat first
    | (refine DRAW.seek ?_; repeat (first | refine TRYD.take ?_ | refine TRYD.next ?_); conv => whnf)
    | (refine HOLD.mk (by first | exact trivial | exact ⟨⟨rfl, rfl⟩, trivial⟩ | exact ⟨⟨rfl, rfl⟩, ⟨rfl, rfl⟩, trivial⟩) ?_; (conv => whnf))
    | (refine CALL0.by (h ..) rfl ?_; conv => whnf)
    | (refine CALLQ.mk _ _ _ (leL_refl _) (h ..) rfl ?_; conv => whnf)
  exact ⟨rfl, rfl⟩
theorem c_mappedA (up : List Ces) (hk : gl g_control_kinds = kindsI) (n : Nat) (hn : n ≤ 10000000) (l : Nat → Ac) :
    Cs gl n_control_mapped_control_Act_api_Errno up [.lst none 5 n fun i => (l i).cs, .fn n_control_printable_1 [] []] (.lst (some 19) 1 n fun i => [.int .i64 ((l i).checkE 100 100 100)]) up := by
  refine mk h_control_mapped_control_Act_api_Errno rfl rfl ?_
  let F : Nat → List IV := fun i => [.int .i64 ((l i).checkE 100 100 100)]
  have hp := fun up i => c_printable1 (gl := gl) up hk (l i)
  conv => whnf
  refine .mk (α := {i : Nat // i ≤ n}) (fun i => ⟨[(10, .int .i64 i.1), (9, .int .i64 n), (8, .lst none 5 n fun i => (l i).cs), (5, .lst (some 19) 1 i.1 F), (1, .fn n_control_printable_1 [] [])], [], up⟩) (fun i => n - i.1) ⟨0, Nat.zero_le _⟩ ⟨?_, ?_, rfl, rfl⟩ ?_
  · exact ⟨leV_refl _, leV_refl _, leV_refl _, rfl, leV_refl _, trivial⟩
  · trivial
  rintro ⟨i, hi⟩
  have hw : w64 ((i : Int) + 1) = ((i + 1 : Nat) : Int) := by rw [w64, wrap_in] <;> omega
  by_cases hlt : i < n
  · have q : decide ((i : Int) < n) = true := decide_eq_true (by omega)
    have hp := fun up => hp up i
    conv => whnf
    split
    rotate_left
    · rename_i h
      exact Bool.noConfusion ((q).symm.trans h)
    rename_i hN
    clear hN
    conv => whnf
    split
    rotate_left
    · rename_i h
      exact Bool.noConfusion ((q).symm.trans h)
    rename_i hN
    clear hN
    conv => whnf
    repeat first
      | (refine DRAW.seek ?_; repeat (first | refine TRYD.take ?_ | refine TRYD.next ?_); conv => whnf)
      | (refine HOLD.mk (by first | exact trivial | exact ⟨⟨rfl, rfl⟩, trivial⟩ | exact ⟨⟨rfl, rfl⟩, ⟨rfl, rfl⟩, trivial⟩) ?_; (conv => whnf))
      | (refine CALL0.by (hp ..) rfl ?_; conv => whnf)
      | (refine CALLQ.mk _ _ _ (leL_refl _) (hp ..) rfl ?_; conv => whnf)
    split
    rotate_left
    · rename_i h
      have h' : decide (i + 1 ≤ 1073741824) = false := h
      simp at h' <;> omega
    conv => whnf
    refine ⟨⟨i + 1, hlt⟩, ⟨⟨leV_int hw, leV_refl _, leV_refl _, ⟨.inr rfl, rfl, rfl, fun j hj => ?_⟩, leV_refl _, trivial⟩, trivial, rfl, rfl⟩, (by show n - (i + 1) < n - i; omega)⟩
    show (if j < i then F j else litF 1 (F i) (j - i)) = F j
    split
    · rfl
    · have : j = i := by have : j < i + 1 := hj; omega
      subst this; rw [Nat.sub_self]; rfl
  · have q : decide ((i : Int) < n) = false := decide_eq_false (by omega)
    have e : i = n := by omega
    subst e
    conv => whnf
    split
    · rename_i h
      exact Bool.noConfusion ((q).symm.trans h)
    rename_i hN
    clear hN
    conv => whnf
    exact ⟨rfl, rfl⟩
def actsE (n : Nat) (l : Nat → Ac) : Int := bif decide ((n : Int) > 1024) then 5 else firstS (fun i => (l i).checkE 100 100 100) n 0
theorem c_printable (up : List Ces) (hk : gl g_control_kinds = kindsI) (n : Nat) (hn : n ≤ 10000000) (l : Nat → Ac) :
    Cs gl n_control_printable up [.lst none 5 n fun i => (l i).cs] (.int .i64 (actsE n l)) up := by
  refine mk h_control_printable rfl rfl ?_
  unfold actsE
  have hm := fun up => c_mappedA (gl := gl) up hk n hn l
  cases q : decide ((n : Int) > 1024) with
  | true =>
    conv => whnf
    split
    rotate_left
    · rename_i h
      exact Bool.noConfusion ((q).symm.trans h)
    rename_i hN
    clear hN
    conv => whnf
    exact ⟨rfl, rfl⟩
  | false =>
    conv => whnf
    split
    · rename_i h
      exact Bool.noConfusion ((q).symm.trans h)
    rename_i hN
    clear hN
    conv => whnf
    repeat first
      | (refine DRAW.seek ?_; repeat (first | refine TRYD.take ?_ | refine TRYD.next ?_); conv => whnf)
      | (refine HOLD.mk (by first | exact trivial | exact ⟨⟨rfl, rfl⟩, trivial⟩ | exact ⟨⟨rfl, rfl⟩, ⟨rfl, rfl⟩, trivial⟩) ?_; (conv => whnf))
      | (refine CALL0.by (hm ..) rfl ?_; conv => whnf)
      | (refine CALLQ.mk _ _ _ (leL_refl _) (hm ..) rfl ?_; conv => whnf)
    refine .mk _ _ _ _ _ ?_ (c_first _ n (by omega) fun i => (l i).checkE 100 100 100) rfl ?_
    · exact ⟨⟨.inl rfl, rfl, rfl, fun _ _ => rfl⟩, trivial⟩
    conv => whnf
    exact ⟨rfl, rfl⟩
def Ac.blade (a : Ac) : List UInt8 := bif a.stuck != -1 then Go.Lib.itoa a.stuck else [45]
def Ac.line (a : Ac) : List UInt8 := a.kind.data.toList ++ (32 :: Go.Lib.itoa a.wind ++ (32 :: Go.Lib.itoa a.pitch ++ (32 :: Go.Lib.itoa a.tor ++ (32 :: a.blade ++ [10]))))
def actsS (l : Nat → Ac) : Nat → List UInt8
  | 0 => []
  | k + 1 => actsS l k ++ (l k).line
structure Ac.plainOk (a : Ac) : Prop where
  kind : idxS a.kind kindsL 0 ≥ 0
  wind : 0 ≤ a.wind ∧ a.wind ≤ 100
  pitch : 0 ≤ a.pitch ∧ a.pitch ≤ 100
  tor : 0 ≤ a.tor ∧ a.tor ≤ 100
  stuck : -1 ≤ a.stuck ∧ a.stuck ≤ 2
  formed : a.formB = true
theorem checkE_ok {a : Ac} (h : a.checkE 100 100 100 = 0) : a.plainOk := by
  unfold Ac.checkE at h
  rw [orL_zero] at h
  simp only [List.mem_cons, List.not_mem_nil, or_false, forall_eq_or_imp, forall_eq, withinS_zero] at h
  obtain ⟨a1, a2, a3, a4, a5, a6⟩ := h
  rw [bif_nz (by decide)] at a1 a6
  exact ⟨by simpa using a1, a2, a3, a4, a5, by simpa using a6⟩
theorem actsE_ok {n : Nat} {l : Nat → Ac} (h : actsE n l = 0) : n ≤ 1024 ∧ ∀ i, i < n → (l i).plainOk := by
  unfold actsE at h
  cases q : decide ((n : Int) > 1024) with
  | true => rw [q] at h; cases h
  | false =>
    rw [q, cond_false, firstS_zero] at h
    have := of_decide_eq_false q
    exact ⟨by omega, fun i hi => checkE_ok (h i (Nat.zero_le _) (by omega))⟩
theorem idxS_mem {x : ByteArray} : ∀ {L : List ByteArray} {i : Int}, 0 ≤ i → idxS x L i ≥ 0 → x ∈ L
  | [], i, _, h => by simp [idxS] at h
  | k :: r, i, hi, h => by
    unfold idxS at h
    cases q : eqS x k with
    | true => rw [eqS_iff.1 q]; exact List.mem_cons_self ..
    | false =>
      rw [q, cond_false] at h
      exact List.mem_cons_of_mem _ (idxS_mem (by omega) h)
theorem kind_len {x : ByteArray} (h : idxS x kindsL 0 ≥ 0) : x.data.toList.length ≤ 6 := by
  have := idxS_mem (by decide) h
  unfold kindsL at this
  simp only [List.mem_cons, List.not_mem_nil, or_false] at this
  rcases this with rfl | rfl | rfl | rfl | rfl | rfl <;> decide
theorem line_len {a : Ac} (h : a.plainOk) : a.line.length ≤ 110 := by
  have h1 := kind_len h.kind
  have h2 := Go.Lib.itoa_length_le a.wind (by have := h.wind; omega) (by have := h.wind; omega)
  have h3 := Go.Lib.itoa_length_le a.pitch (by have := h.pitch; omega) (by have := h.pitch; omega)
  have h4 := Go.Lib.itoa_length_le a.tor (by have := h.tor; omega) (by have := h.tor; omega)
  have h5 : a.blade.length ≤ 21 := by
    unfold Ac.blade
    cases (a.stuck != -1)
    · show 1 ≤ 21
      decide
    · exact Go.Lib.itoa_length_le a.stuck (by have := h.stuck; omega) (by have := h.stuck; omega)
  unfold Ac.line
  simp only [List.length_append, List.length_cons, List.length_nil]
  omega
theorem actsS_len {l : Nat → Ac} : ∀ k, (∀ i, i < k → (l i).plainOk) → (actsS l k).length ≤ 110 * k
  | 0, _ => Nat.le_refl _
  | k + 1, h => by
    have h1 := actsS_len k fun i hi => h i (by omega)
    have h2 := line_len (h k (by omega))
    simp only [actsS, List.length_append]
    omega
def Ac.words (a : Ac) : List (List UInt8) := [a.kind.data.toList, Go.Lib.itoa a.wind, Go.Lib.itoa a.pitch, Go.Lib.itoa a.tor, a.blade]
theorem line_eq (a : Ac) : a.line = Go.Lib.join a.words [32] ++ [10] := by
  unfold Ac.line Ac.words
  rw [Go.Lib.join_cons]
  simp [Go.Lib.joinTail]
end Go.Proofs.YtkdlegfakefjgaaGreatDoor.Ix
