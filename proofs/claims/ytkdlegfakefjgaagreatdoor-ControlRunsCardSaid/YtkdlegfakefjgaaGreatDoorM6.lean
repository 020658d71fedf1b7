/-
  Ca1: contracts of the functions of the package control, the first part: machines, states, acts and their errors.
-/
import Derived.Test.YtkdlegfakefjgaaGreatDoorM5
import Derived.Lib.Strings
namespace Go.Proofs.YtkdlegfakefjgaaGreatDoor.Ix
open Go.Proofs
set_option maxRecDepth 100000
set_option linter.unusedVariables false
set_option linter.unusedSimpArgs false

noncomputable abbrev Γs (gl : Nat → IV) : Env := ⟨prog, T, gl, 0, Vis prog gl, none, none⟩
noncomputable abbrev Cs (gl : Nat → IV) : Con := Comp prog gl
variable {gl : Nat → IV}

theorem mk {g : Nat} {fn : Func} {c : Code} {up up2 : List Ces} {args : List IV} {rv : IV} (hf : prog.funcs[g]? = some fn) (hb : fn.body = some c) (hn : (fn.name == "runtime.NumGoroutine") = false)
    (h : ibody (Cs gl) (Γs gl) fn up args (fun r up' => r = rv ∧ up' = up2)) : Comp prog gl g up args rv up2 :=
  comp_of_body (Γ := Γs gl) mixed0 tok0 (fun _ _ _ _ _ h => h) (fun _ _ _ _ h => h) hf hb hn h

def sIdle : ByteArray := ⟨#[105, 100, 108, 101]⟩
def sRun : ByteArray := ⟨#[114, 117, 110]⟩
def sStop : ByteArray := ⟨#[115, 116, 111, 112]⟩

/-- A machine. -/
structure Mc where
  wind : Int
  fea : Int
  rate : Int
  tor : Int
  lim : Int
  rated : Int
  gain : Int
def Mc.cs (m : Mc) : List IV := [.int .i64 m.wind, .int .i64 m.fea, .int .i64 m.rate, .int .i64 m.tor, .int .i64 m.lim, .int .i64 m.rated, .int .i64 m.gain]
def Mc.iv (m : Mc) : IV := .agg [.int .i64 m.wind, .int .i64 m.fea, .int .i64 m.rate, .int .i64 m.tor, .int .i64 m.lim, .int .i64 m.rated, .int .i64 m.gain]
/-- A state. -/
structure Sta where
  mode : ByteArray
  speed : Int
  p0 : Int
  p1 : Int
  p2 : Int
  tor : Int
  stuck : Int
def Sta.iv (s : Sta) : IV := .agg [.str s.mode, .int .i64 s.speed, .int .i64 s.p0, .int .i64 s.p1, .int .i64 s.p2, .int .i64 s.tor, .int .i64 s.stuck]
/-- An act. -/
structure Ac where
  kind : ByteArray
  wind : Int
  pitch : Int
  tor : Int
  stuck : Int
def Ac.iv (a : Ac) : IV := .agg [.str a.kind, .int .i64 a.wind, .int .i64 a.pitch, .int .i64 a.tor, .int .i64 a.stuck]

def orL : List Int → Int
  | [] => 0
  | a :: r => orE a (orL r)

theorem orL_first (l : List Int) : ∀ (f : Nat → Int) (k : Nat), (∀ i, i < l.length → f (k + i) = l.getD i 0) → firstS f l.length k = orL l := by
  induction l with
  | nil => intro f k _; rfl
  | cons a r ih =>
    intro f k h
    show firstS f (r.length + 1) k = orE a (orL r)
    rw [firstS_step, ih f (k + 1) (fun i hi => by
      have := h (i + 1) (by simp; omega)
      rw [show k + 1 + i = k + (i + 1) by omega, this]; rfl)]
    have := h 0 (by simp)
    rw [show k + 0 = k by omega] at this
    rw [this]; rfl

theorem c_when (up : List Ces) (b : Bool) (e : Int) : Cs gl n_control_when up [.bool b, .int .i64 e] (.int .i64 (bif b then e else 0)) up := by
  refine mk h_control_when rfl rfl ?_
  cases b <;> (conv => whnf) <;> exact ⟨rfl, rfl⟩

theorem c_within (up : List Ces) (n lo hi : Int) : Cs gl n_control_within up [.int .i64 n, .int .i64 lo, .int .i64 hi] (.int .i64 (withinS n lo hi)) up := by
  refine mk h_control_within rfl rfl ?_
  conv => whnf
  split
  · rename_i h1
    conv => whnf
    refine .mk _ _ _ _ _ (leL_refl _) (c_when _ _ _) rfl ?_
    conv => whnf
    simp [withinS, h1]
  · rename_i h1
    conv => whnf
    refine .mk _ _ _ _ _ (leL_refl _) (c_when _ _ _) rfl ?_
    conv => whnf
    simp [withinS, h1]

theorem c_first (up : List Ces) (n : Nat) (hn : n ≤ 4611686018427387904) (f : Nat → Int) : Cs gl n_control_first up [.lst none 1 n fun i => [.int .i64 (f i)]] (.int .i64 (firstS f n 0)) up := by
  refine mk h_control_first rfl rfl ?_
  conv => whnf
  refine .mk (α := {i : Nat // i ≤ n ∧ firstS f n 0 = firstS f (n - i) i}) (fun i => ⟨[(7, .int .i64 i.1), (6, .int .i64 n), (5, .lst none 1 n fun i => [.int .i64 (f i)])], [], up⟩) (fun i => n - i.1) ⟨0, Nat.zero_le _, rfl⟩ ⟨?_, trivial, rfl, rfl⟩ ?_
  · exact ⟨leV_refl _, leV_refl _, leV_refl _, trivial⟩
  · rintro ⟨i, hi, hf⟩
    by_cases hlt : i < n
    · have q : decide ((i : Int) < n) = true := decide_eq_true (by omega)
      have hstep : firstS f (n - i) i = bif f i != 0 then f i else firstS f (n - (i + 1)) (i + 1) := by
        rw [show n - i = (n - (i + 1)) + 1 by omega]; rfl
      conv => whnf
      split
      rotate_left
      · rename_i h
        exact Bool.noConfusion ((q).symm.trans h)
      rename_i hN
      clear hN
      conv => whnf
      split
      rotate_left
      · rename_i h
        exact Bool.noConfusion ((q).symm.trans h)
      rename_i hN
      clear hN
      conv => whnf
      split
      · rename_i h2
        have h2' : (f i != 0) = true := h2
        conv => whnf
        refine ⟨?_, rfl⟩
        show IV.int .i64 (f i) = .int .i64 (firstS f n 0)
        rw [hf, hstep, h2']; rfl
      · rename_i h2
        have h2' : (f i != 0) = false := h2
        conv => whnf
        have hw : w64 ((i : Int) + 1) = ((i + 1 : Nat) : Int) := by rw [w64, wrap_in] <;> omega
        exact ⟨⟨i + 1, hlt, by rw [hf, hstep, h2']; rfl⟩, ⟨⟨leV_int hw, leV_refl _, leV_refl _, trivial⟩, trivial, rfl, rfl⟩, (by show n - (i + 1) < n - i; omega)⟩
    · have q : decide ((i : Int) < n) = false := decide_eq_false (by omega)
      have : i = n := by omega
      conv => whnf
      split
      · rename_i h
        exact Bool.noConfusion ((q).symm.trans h)
      rename_i hN
      clear hN
      conv => whnf
      refine ⟨?_, rfl⟩
      show IV.int .i64 0 = .int .i64 (firstS f n 0)
      rw [hf, this, Nat.sub_self]; rfl

/-- The first error of a list laid out. -/
theorem c_fl (up : List Ces) (l : List Int) (hl : l.length ≤ 100) (f : Nat → List IV) (h : ∀ i, i < l.length → f i = [.int .i64 (l.getD i 0)]) : Cs gl n_control_first up [.lst none 1 l.length f] (.int .i64 (orL l)) up := by
  have := c_first (gl := gl) up l.length (by omega) fun i => l.getD i 0
  rw [orL_first l _ 0 (fun i _ => by rw [Nat.zero_add])] at this
  refine Comp.le ?_ this
  exact ⟨⟨.inl rfl, rfl, rfl, fun i hi => h i hi⟩, trivial⟩
theorem c_f2 (up : List Ces) (f : Nat → List IV) (a b : Int) (h0 : f 0 = [.int .i64 a]) (h1 : f 1 = [.int .i64 b]) : Cs gl n_control_first up [.lst none 1 2 f] (.int .i64 (orL [a, b])) up :=
  c_fl up [a, b] (by simp) f fun i hi => by
    match i, hi with
    | 0, _ => exact h0
    | 1, _ => exact h1
theorem c_f3 (up : List Ces) (f : Nat → List IV) (a b c : Int) (h0 : f 0 = [.int .i64 a]) (h1 : f 1 = [.int .i64 b]) (h2 : f 2 = [.int .i64 c]) : Cs gl n_control_first up [.lst none 1 3 f] (.int .i64 (orL [a, b, c])) up :=
  c_fl up [a, b, c] (by simp) f fun i hi => by
    match i, hi with
    | 0, _ => exact h0
    | 1, _ => exact h1
    | 2, _ => exact h2
theorem c_f6 (up : List Ces) (f : Nat → List IV) (a b c d e g : Int) (h0 : f 0 = [.int .i64 a]) (h1 : f 1 = [.int .i64 b]) (h2 : f 2 = [.int .i64 c]) (h3 : f 3 = [.int .i64 d]) (h4 : f 4 = [.int .i64 e]) (h5 : f 5 = [.int .i64 g]) : Cs gl n_control_first up [.lst none 1 6 f] (.int .i64 (orL [a, b, c, d, e, g])) up :=
  c_fl up [a, b, c, d, e, g] (by simp) f fun i hi => by
    match i, hi with
    | 0, _ => exact h0
    | 1, _ => exact h1
    | 2, _ => exact h2
    | 3, _ => exact h3
    | 4, _ => exact h4
    | 5, _ => exact h5
theorem c_f9 (up : List Ces) (f : Nat → List IV) (a b c d e g p q r : Int) (h0 : f 0 = [.int .i64 a]) (h1 : f 1 = [.int .i64 b]) (h2 : f 2 = [.int .i64 c]) (h3 : f 3 = [.int .i64 d]) (h4 : f 4 = [.int .i64 e]) (h5 : f 5 = [.int .i64 g]) (h6 : f 6 = [.int .i64 p]) (h7 : f 7 = [.int .i64 q]) (h8 : f 8 = [.int .i64 r]) : Cs gl n_control_first up [.lst none 1 9 f] (.int .i64 (orL [a, b, c, d, e, g, p, q, r])) up :=
  c_fl up [a, b, c, d, e, g, p, q, r] (by simp) f fun i hi => by
    match i, hi with
    | 0, _ => exact h0
    | 1, _ => exact h1
    | 2, _ => exact h2
    | 3, _ => exact h3
    | 4, _ => exact h4
    | 5, _ => exact h5
    | 6, _ => exact h6
    | 7, _ => exact h7
    | 8, _ => exact h8

/-- The error of a machine. -/
def Mc.err (m : Mc) : Int := orL [withinS m.wind 1 100, withinS m.fea 1 100, withinS m.rate 1 100, withinS m.tor 0 100, withinS m.lim 1 1000, withinS m.rated 1 1000, withinS m.gain 1 16,
  bif decide (m.rate > m.fea) || decide (m.rated > m.lim) then 4 else 0, bif decide (w64 (2 * m.fea) ≤ m.wind) then 24 else 0]

theorem c_CheckMachine (up : List Ces) (m : Mc) : Cs gl n_control_CheckMachine up [m.iv] (.int .i64 m.err) up := by
  refine mk h_control_CheckMachine rfl rfl ?_
  cases q : decide (m.rate > m.fea) with
  | true =>
    conv => whnf
    repeat first
      | (refine DRAW.seek ?_; repeat (first | refine TRYD.take ?_ | refine TRYD.next ?_); conv => whnf)
      | (refine HOLD.mk (by first | exact trivial | exact ⟨⟨rfl, rfl⟩, trivial⟩ | exact ⟨⟨rfl, rfl⟩, ⟨rfl, rfl⟩, trivial⟩) ?_; (conv => whnf))
      | (refine CALL0.by (c_within ..) rfl ?_; conv => whnf)
      | (refine CALLQ.mk _ _ _ (leL_refl _) (c_within ..) rfl ?_; conv => whnf)
    split
    rotate_left
    · rename_i h
      exact Bool.noConfusion ((q).symm.trans h)
    rename_i hN
    clear hN
    conv => whnf
    repeat first
      | (refine DRAW.seek ?_; repeat (first | refine TRYD.take ?_ | refine TRYD.next ?_); conv => whnf)
      | (refine HOLD.mk (by first | exact trivial | exact ⟨⟨rfl, rfl⟩, trivial⟩ | exact ⟨⟨rfl, rfl⟩, ⟨rfl, rfl⟩, trivial⟩) ?_; (conv => whnf))
      | (refine CALL0.by (c_within ..) rfl ?_; conv => whnf)
      | (refine CALLQ.mk _ _ _ (leL_refl _) (c_within ..) rfl ?_; conv => whnf)
      | (refine CALL0.by (c_when ..) rfl ?_; conv => whnf)
      | (refine CALLQ.mk _ _ _ (leL_refl _) (c_when ..) rfl ?_; conv => whnf)
    refine .mk _ _ _ _ _ (leL_refl _) (c_f9 _ _ _ _ _ _ _ _ _ _ _ rfl rfl rfl rfl rfl rfl rfl rfl rfl) rfl ?_
    conv => whnf
    refine ⟨?_, rfl⟩
    unfold Mc.err
    rw [q]; rfl
  | false =>
    conv => whnf
    repeat first
      | (refine DRAW.seek ?_; repeat (first | refine TRYD.take ?_ | refine TRYD.next ?_); conv => whnf)
      | (refine HOLD.mk (by first | exact trivial | exact ⟨⟨rfl, rfl⟩, trivial⟩ | exact ⟨⟨rfl, rfl⟩, ⟨rfl, rfl⟩, trivial⟩) ?_; (conv => whnf))
      | (refine CALL0.by (c_within ..) rfl ?_; conv => whnf)
      | (refine CALLQ.mk _ _ _ (leL_refl _) (c_within ..) rfl ?_; conv => whnf)
    split
    · rename_i h
      exact Bool.noConfusion ((q).symm.trans h)
    rename_i hN
    clear hN
    conv => whnf
    repeat first
      | (refine DRAW.seek ?_; repeat (first | refine TRYD.take ?_ | refine TRYD.next ?_); conv => whnf)
      | (refine HOLD.mk (by first | exact trivial | exact ⟨⟨rfl, rfl⟩, trivial⟩ | exact ⟨⟨rfl, rfl⟩, ⟨rfl, rfl⟩, trivial⟩) ?_; (conv => whnf))
      | (refine CALL0.by (c_within ..) rfl ?_; conv => whnf)
      | (refine CALLQ.mk _ _ _ (leL_refl _) (c_within ..) rfl ?_; conv => whnf)
      | (refine CALL0.by (c_when ..) rfl ?_; conv => whnf)
      | (refine CALLQ.mk _ _ _ (leL_refl _) (c_when ..) rfl ?_; conv => whnf)
    refine .mk _ _ _ _ _ (leL_refl _) (c_f9 _ _ _ _ _ _ _ _ _ _ _ rfl rfl rfl rfl rfl rfl rfl rfl rfl) rfl ?_
    conv => whnf
    refine ⟨?_, rfl⟩
    unfold Mc.err
    rw [q]; rfl

theorem c_checkBlade (up : List Ces) (n : Int) : Cs gl n_control_checkBlade up [.int .i64 n] (.int .i64 (withinS n (-1) 2)) up := by
  refine mk h_control_checkBlade rfl rfl ?_
  conv => whnf
  refine .mk _ _ _ _ _ (leL_refl _) (c_within _ _ _ _) rfl ?_
  conv => whnf
  exact ⟨rfl, rfl⟩

/-- How many of the first 'k' pitches are at an angle. -/
def atA (a : Int) : List Int → Int
  | [] => 0
  | p :: r => (if p = a then 1 else 0) + atA a r

theorem c_feathered (up : List Ces) (s : Sta) (a : Int) : Cs gl n_control_State_feathered up [s.iv, .int .i64 a] (.int .i64 (atA a [s.p0, s.p1, s.p2])) up := by
  refine mk h_control_State_feathered rfl rfl ?_
  conv => whnf
  refine .mk (α := {k : Nat // k ≤ 3}) (fun k => ⟨[(10, .int .i64 k.1), (9, .agg [.int .i64 s.p0, .int .i64 s.p1, .int .i64 s.p2]), (5, .int .i64 (atA a ([s.p0, s.p1, s.p2].take k.1))), (1, .int .i64 a)], [], up⟩) (fun k => 3 - k.1) ⟨0, Nat.zero_le _⟩ ⟨?_, trivial, rfl, rfl⟩ ?_
  · exact ⟨leV_refl _, leV_refl _, leV_refl _, leV_refl _, trivial⟩
  rintro ⟨k, hk⟩
  obtain rfl | rfl | rfl | rfl : k = 0 ∨ k = 1 ∨ k = 2 ∨ k = 3 := by omega
  · cases q : (s.p0 == a) with
    | true =>
      have e : s.p0 = a := by simpa using q
      conv => whnf
      split
      rotate_left
      · rename_i h
        exact Bool.noConfusion ((q).symm.trans h)
      rename_i hN
      clear hN
      conv => whnf
      refine ⟨⟨1, by omega⟩, ⟨⟨leV_refl _, leV_refl _, leV_int ?_, leV_refl _, trivial⟩, trivial, rfl, rfl⟩, by simp⟩
      show w64 (atA a ([s.p0, s.p1, s.p2].take 0) + 1) = atA a ([s.p0, s.p1, s.p2].take 1)
      simp only [List.take, atA, e, if_true]
      rw [w64, wrap_in (by repeat (first | omega | split)) (by repeat (first | omega | split))]
      omega
    | false =>
      have e : ¬ s.p0 = a := by simpa using q
      conv => whnf
      split
      · rename_i h
        exact Bool.noConfusion ((q).symm.trans h)
      rename_i hN
      clear hN
      conv => whnf
      refine ⟨⟨1, by omega⟩, ⟨⟨leV_refl _, leV_refl _, leV_int ?_, leV_refl _, trivial⟩, trivial, rfl, rfl⟩, by simp⟩
      simp only [List.take, atA, if_neg e]
      omega
  · cases q : (s.p1 == a) with
    | true =>
      have e : s.p1 = a := by simpa using q
      conv => whnf
      split
      rotate_left
      · rename_i h
        exact Bool.noConfusion ((q).symm.trans h)
      rename_i hN
      clear hN
      conv => whnf
      refine ⟨⟨2, by omega⟩, ⟨⟨leV_refl _, leV_refl _, leV_int ?_, leV_refl _, trivial⟩, trivial, rfl, rfl⟩, by simp⟩
      show w64 (atA a ([s.p0, s.p1, s.p2].take 1) + 1) = atA a ([s.p0, s.p1, s.p2].take 2)
      simp only [List.take, atA, e, if_true]
      rw [w64, wrap_in (by repeat (first | omega | split)) (by repeat (first | omega | split))]
      omega
    | false =>
      have e : ¬ s.p1 = a := by simpa using q
      conv => whnf
      split
      · rename_i h
        exact Bool.noConfusion ((q).symm.trans h)
      rename_i hN
      clear hN
      conv => whnf
      refine ⟨⟨2, by omega⟩, ⟨⟨leV_refl _, leV_refl _, leV_int ?_, leV_refl _, trivial⟩, trivial, rfl, rfl⟩, by simp⟩
      simp only [List.take, atA, if_neg e]
      omega
  · cases q : (s.p2 == a) with
    | true =>
      have e : s.p2 = a := by simpa using q
      conv => whnf
      split
      rotate_left
      · rename_i h
        exact Bool.noConfusion ((q).symm.trans h)
      rename_i hN
      clear hN
      conv => whnf
      refine ⟨⟨3, by omega⟩, ⟨⟨leV_refl _, leV_refl _, leV_int ?_, leV_refl _, trivial⟩, trivial, rfl, rfl⟩, by simp⟩
      show w64 (atA a ([s.p0, s.p1, s.p2].take 2) + 1) = atA a ([s.p0, s.p1, s.p2].take 3)
      simp only [List.take, atA, e, if_true]
      rw [w64, wrap_in (by repeat (first | omega | split)) (by repeat (first | omega | split))]
      omega
    | false =>
      have e : ¬ s.p2 = a := by simpa using q
      conv => whnf
      split
      · rename_i h
        exact Bool.noConfusion ((q).symm.trans h)
      rename_i hN
      clear hN
      conv => whnf
      refine ⟨⟨3, by omega⟩, ⟨⟨leV_refl _, leV_refl _, leV_int ?_, leV_refl _, trivial⟩, trivial, rfl, rfl⟩, by simp⟩
      simp only [List.take, atA, if_neg e]
      omega
  · conv => whnf
    exact ⟨rfl, rfl⟩
end Go.Proofs.YtkdlegfakefjgaaGreatDoor.Ix

/-
  Ca2: contracts of the functions of the package control, the second part: the error of a state.
-/
namespace Go.Proofs.YtkdlegfakefjgaaGreatDoor.Ix
open Go.Proofs
set_option maxRecDepth 100000
set_option linter.unusedVariables false
set_option linter.unusedSimpArgs false
variable {gl : Nat → IV}

theorem c_CheckState1 (A B : Ces) (up : List Ces) (d : Nat) (m : Mc) (hc : lookC B d = some m.cs) (x : Int) : Cs gl n_control_CheckState_1 (A :: B :: up) [.int .i64 x, .ptr 2 d 0] (.int .i64 (withinS x 0 m.fea)) (A :: B :: up) := by
  refine mk h_control_CheckState_1 rfl rfl ?_
  conv => whnf
  split
  rotate_left
  · rename_i h; exact absurd (hc.symm.trans h) nofun
  rename_i c0 h
  obtain rfl := Option.some.inj (hc.symm.trans h)
  clear h
  conv => whnf
  refine .mk _ _ _ _ _ (leL_refl _) (c_within _ _ _ _) rfl ?_
  conv => whnf
  exact ⟨rfl, rfl⟩

/-- 'mapped' by a function that looks into a cell of the caller. -/
theorem c_mappedI (B : Ces) (up : List Ces) (n : Nat) (hn : n ≤ 1000000) (f φ : Nat → Int) (k d : Nat) (hk : ∀ i, i < n → Cs gl k ([] :: B :: up) [.int .i64 (f i), .ptr 2 d 0] (.int .i64 (φ i)) ([] :: B :: up)) :
    Cs gl n_control_mapped_int_api_Errno (B :: up) [.lst none 1 n fun i => [.int .i64 (f i)], .fn k [] [.ptr 1 d 0]] (.lst (some 19) 1 n fun i => [.int .i64 (φ i)]) (B :: up) := by
  refine mk h_control_mapped_int_api_Errno rfl rfl ?_
  conv => whnf
  refine .mk (α := {i : Nat // i ≤ n}) (fun i => ⟨[(10, .int .i64 i.1), (9, .int .i64 n), (8, .lst none 1 n fun i => [.int .i64 (f i)]), (5, .lst (some 19) 1 i.1 fun i => [.int .i64 (φ i)]), (1, .fn k [] [.ptr 1 d 0])], [], B :: up⟩) (fun i => n - i.1) ⟨0, Nat.zero_le _⟩ ⟨?_, trivial, rfl, rfl⟩ ?_
  · exact ⟨leV_refl _, leV_refl _, leV_refl _, rfl, leV_refl _, trivial⟩
  rintro ⟨i, hi⟩
  have hw : w64 ((i : Int) + 1) = ((i + 1 : Nat) : Int) := by rw [w64, wrap_in] <;> omega
  by_cases hlt : i < n
  · have q : decide ((i : Int) < n) = true := decide_eq_true (by omega)
    conv => whnf
    split
    rotate_left
    · rename_i h
      exact Bool.noConfusion ((q).symm.trans h)
    rename_i hN
    clear hN
    conv => whnf
    split
    rotate_left
    · rename_i h
      exact Bool.noConfusion ((q).symm.trans h)
    rename_i hN
    clear hN
    conv => whnf
    refine .mk _ _ _ _ _ (leL_refl _) (hk i hlt) rfl ?_
    conv => whnf
    split
    rotate_left
    · rename_i h
      have h' : decide (i + 1 ≤ 1073741824) = false := h
      simp at h' <;> omega
    conv => whnf
    refine ⟨⟨i + 1, hlt⟩, ⟨⟨leV_int hw, leV_refl _, leV_refl _, ⟨.inr rfl, rfl, rfl, fun j hj => ?_⟩, leV_refl _, trivial⟩, trivial, rfl, rfl⟩, (by show n - (i + 1) < n - i; omega)⟩
    show (if j < i then [IV.int .i64 (φ j)] else litF 1 [.int .i64 (φ i)] (j - i)) = [IV.int .i64 (φ j)]
    split
    · rfl
    · have : j = i := by have : j < i + 1 := hj; omega
      subst this; rw [Nat.sub_self]; rfl
  · have q : decide ((i : Int) < n) = false := decide_eq_false (by omega)
    have : i = n := by omega
    subst this
    conv => whnf
    split
    · rename_i h
      exact Bool.noConfusion ((q).symm.trans h)
    rename_i hN
    clear hN
    conv => whnf
    exact ⟨rfl, rfl⟩

/-- Which modes there are; and whether the state fits its mode. -/
def Sta.known (s : Sta) : Bool := s.mode == sIdle || (s.mode == sRun || (s.mode == sStop || false))
def Sta.fits (s : Sta) (m : Mc) : Bool := bif s.mode == sIdle then (s.speed == 0 && (s.tor == 0 && decide (atA m.fea [s.p0, s.p1, s.p2] ≥ 2))) else bif s.mode == sRun then true else bif s.mode == sStop then s.tor == 0 else false

/-- The error of a state. -/
def Sta.err1 (s : Sta) (m : Mc) : Int := orL [m.err, bif !s.known then 13 else 0, withinS s.speed 0 m.lim]
def Sta.err2 (s : Sta) (m : Mc) : Int := orL [withinS s.p0 0 m.fea, withinS s.p1 0 m.fea, withinS s.p2 0 m.fea, withinS s.tor 0 m.tor, withinS s.stuck (-1) 2, bif !s.fits m then 20 else 0]
def Sta.err (s : Sta) (m : Mc) : Int := orE (s.err1 m) (s.err2 m)

set_option maxHeartbeats 8000000 in
theorem c_CheckState (up : List Ces) (m : Mc) (s : Sta) : Cs gl n_control_CheckState up [m.iv, s.iv] (.int .i64 (s.err m)) up := by
  refine mk h_control_CheckState rfl rfl ?_
  cases q1 : s.speed == 0 with
  | false =>
    have q2 : True := trivial
    conv => whnf
    refine DRAW.seek ?_
    repeat (first | refine TRYD.take ?_ | refine TRYD.next ?_)
    conv => whnf
    split
    · rename_i h
      exact Bool.noConfusion ((q1).symm.trans h)
    rename_i hN
    clear hN
    conv => whnf
    repeat first
      | (refine DRAW.seek ?_; repeat (first | refine TRYD.take ?_ | refine TRYD.next ?_); conv => whnf)
      | (refine HOLD.mk (by first | exact trivial | exact ⟨⟨rfl, rfl⟩, trivial⟩ | exact ⟨⟨rfl, rfl⟩, ⟨rfl, rfl⟩, trivial⟩) ?_; (conv => whnf))
      | (refine CALL0.by (c_CheckMachine ..) rfl ?_; conv => whnf)
      | (refine CALLQ.mk _ _ _ (leL_refl _) (c_CheckMachine ..) rfl ?_; conv => whnf)
      | (refine CALL0.by (c_when ..) rfl ?_; conv => whnf)
      | (refine CALLQ.mk _ _ _ (leL_refl _) (c_when ..) rfl ?_; conv => whnf)
      | (refine CALL0.by (c_within ..) rfl ?_; conv => whnf)
      | (refine CALLQ.mk _ _ _ (leL_refl _) (c_within ..) rfl ?_; conv => whnf)
    refine .mk _ _ _ _ _ (leL_refl _) (c_f3 _ _ _ _ _ rfl rfl rfl) rfl ?_
    conv => whnf
    split
    · rename_i h
      have h' : (s.err1 m != 0) = true := h
      conv => whnf
      refine ⟨?_, rfl⟩
      show IV.int .i64 (s.err1 m) = .int .i64 (s.err m)
      unfold Sta.err orE
      rw [h']; rfl
    · rename_i h
      have h' : (s.err1 m != 0) = false := h
      conv => whnf
      refine .mk _ _ _ _ _ ?_ (c_mappedI _ up 3 (by decide) (fun i => [s.p0, s.p1, s.p2].getD i 0) (fun i => withinS ([s.p0, s.p1, s.p2].getD i 0) 0 m.fea) n_control_CheckState_1 2 (fun i hi => c_CheckState1 [] _ up 2 m rfl _)) rfl ?_
      · refine ⟨⟨.inl rfl, rfl, rfl, fun i hi => ?_⟩, leV_refl _, trivial⟩
        match i, hi with
        | 0, _ => rfl
        | 1, _ => rfl
        | 2, _ => rfl
      conv => whnf
      repeat first
        | (refine DRAW.seek ?_; repeat (first | refine TRYD.take ?_ | refine TRYD.next ?_); conv => whnf)
        | (refine HOLD.mk (by first | exact trivial | exact ⟨⟨rfl, rfl⟩, trivial⟩ | exact ⟨⟨rfl, rfl⟩, ⟨rfl, rfl⟩, trivial⟩) ?_; (conv => whnf))
        | (refine CALL0.by (c_within ..) rfl ?_; conv => whnf)
        | (refine CALLQ.mk _ _ _ (leL_refl _) (c_within ..) rfl ?_; conv => whnf)
        | (refine CALL0.by (c_checkBlade ..) rfl ?_; conv => whnf)
        | (refine CALLQ.mk _ _ _ (leL_refl _) (c_checkBlade ..) rfl ?_; conv => whnf)
        | (refine CALL0.by (c_when ..) rfl ?_; conv => whnf)
        | (refine CALLQ.mk _ _ _ (leL_refl _) (c_when ..) rfl ?_; conv => whnf)
      refine .mk _ _ _ _ _ (leL_refl _) (c_f6 _ _ _ _ _ _ _ _ rfl rfl rfl rfl rfl rfl) rfl ?_
      conv => whnf
      refine ⟨?_, rfl⟩
      unfold Sta.err orE
      rw [h']
      show _ = IV.int .i64 (s.err2 m)
      unfold Sta.err2 Sta.fits
      simp only [q1, q2]
      rfl
  | true =>
    cases q2 : s.tor == 0 with
    | false =>
      conv => whnf
      refine DRAW.seek ?_
      repeat (first | refine TRYD.take ?_ | refine TRYD.next ?_)
      conv => whnf
      split
      rotate_left
      · rename_i h
        exact Bool.noConfusion ((q1).symm.trans h)
      rename_i hN
      clear hN
      conv => whnf
      split
      · rename_i h
        exact Bool.noConfusion ((q2).symm.trans h)
      rename_i hN
      clear hN
      conv => whnf
      repeat first
        | (refine DRAW.seek ?_; repeat (first | refine TRYD.take ?_ | refine TRYD.next ?_); conv => whnf)
        | (refine HOLD.mk (by first | exact trivial | exact ⟨⟨rfl, rfl⟩, trivial⟩ | exact ⟨⟨rfl, rfl⟩, ⟨rfl, rfl⟩, trivial⟩) ?_; (conv => whnf))
        | (refine CALL0.by (c_CheckMachine ..) rfl ?_; conv => whnf)
        | (refine CALLQ.mk _ _ _ (leL_refl _) (c_CheckMachine ..) rfl ?_; conv => whnf)
        | (refine CALL0.by (c_when ..) rfl ?_; conv => whnf)
        | (refine CALLQ.mk _ _ _ (leL_refl _) (c_when ..) rfl ?_; conv => whnf)
        | (refine CALL0.by (c_within ..) rfl ?_; conv => whnf)
        | (refine CALLQ.mk _ _ _ (leL_refl _) (c_within ..) rfl ?_; conv => whnf)
      refine .mk _ _ _ _ _ (leL_refl _) (c_f3 _ _ _ _ _ rfl rfl rfl) rfl ?_
      conv => whnf
      split
      · rename_i h
        have h' : (s.err1 m != 0) = true := h
        conv => whnf
        refine ⟨?_, rfl⟩
        show IV.int .i64 (s.err1 m) = .int .i64 (s.err m)
        unfold Sta.err orE
        rw [h']; rfl
      · rename_i h
        have h' : (s.err1 m != 0) = false := h
        conv => whnf
        refine .mk _ _ _ _ _ ?_ (c_mappedI _ up 3 (by decide) (fun i => [s.p0, s.p1, s.p2].getD i 0) (fun i => withinS ([s.p0, s.p1, s.p2].getD i 0) 0 m.fea) n_control_CheckState_1 2 (fun i hi => c_CheckState1 [] _ up 2 m rfl _)) rfl ?_
        · refine ⟨⟨.inl rfl, rfl, rfl, fun i hi => ?_⟩, leV_refl _, trivial⟩
          match i, hi with
          | 0, _ => rfl
          | 1, _ => rfl
          | 2, _ => rfl
        conv => whnf
        repeat first
          | (refine DRAW.seek ?_; repeat (first | refine TRYD.take ?_ | refine TRYD.next ?_); conv => whnf)
          | (refine HOLD.mk (by first | exact trivial | exact ⟨⟨rfl, rfl⟩, trivial⟩ | exact ⟨⟨rfl, rfl⟩, ⟨rfl, rfl⟩, trivial⟩) ?_; (conv => whnf))
          | (refine CALL0.by (c_within ..) rfl ?_; conv => whnf)
          | (refine CALLQ.mk _ _ _ (leL_refl _) (c_within ..) rfl ?_; conv => whnf)
          | (refine CALL0.by (c_checkBlade ..) rfl ?_; conv => whnf)
          | (refine CALLQ.mk _ _ _ (leL_refl _) (c_checkBlade ..) rfl ?_; conv => whnf)
          | (refine CALL0.by (c_when ..) rfl ?_; conv => whnf)
          | (refine CALLQ.mk _ _ _ (leL_refl _) (c_when ..) rfl ?_; conv => whnf)
        refine .mk _ _ _ _ _ (leL_refl _) (c_f6 _ _ _ _ _ _ _ _ rfl rfl rfl rfl rfl rfl) rfl ?_
        conv => whnf
        refine ⟨?_, rfl⟩
        unfold Sta.err orE
        rw [h']
        show _ = IV.int .i64 (s.err2 m)
        unfold Sta.err2 Sta.fits
        simp only [q1, q2]
        rfl
    | true =>
      conv => whnf
      refine DRAW.seek ?_
      repeat (first | refine TRYD.take ?_ | refine TRYD.next ?_)
      conv => whnf
      split
      rotate_left
      · rename_i h
        exact Bool.noConfusion ((q1).symm.trans h)
      rename_i hN
      clear hN
      conv => whnf
      split
      rotate_left
      · rename_i h
        exact Bool.noConfusion ((q2).symm.trans h)
      rename_i hN
      clear hN
      conv => whnf
      repeat first
        | (refine DRAW.seek ?_; repeat (first | refine TRYD.take ?_ | refine TRYD.next ?_); conv => whnf)
        | (refine HOLD.mk (by first | exact trivial | exact ⟨⟨rfl, rfl⟩, trivial⟩ | exact ⟨⟨rfl, rfl⟩, ⟨rfl, rfl⟩, trivial⟩) ?_; (conv => whnf))
        | (refine CALL0.by (c_feathered ..) rfl ?_; conv => whnf)
        | (refine CALLQ.mk _ _ _ (leL_refl _) (c_feathered ..) rfl ?_; conv => whnf)
      repeat first
        | (refine DRAW.seek ?_; repeat (first | refine TRYD.take ?_ | refine TRYD.next ?_); conv => whnf)
        | (refine HOLD.mk (by first | exact trivial | exact ⟨⟨rfl, rfl⟩, trivial⟩ | exact ⟨⟨rfl, rfl⟩, ⟨rfl, rfl⟩, trivial⟩) ?_; (conv => whnf))
        | (refine CALL0.by (c_CheckMachine ..) rfl ?_; conv => whnf)
        | (refine CALLQ.mk _ _ _ (leL_refl _) (c_CheckMachine ..) rfl ?_; conv => whnf)
        | (refine CALL0.by (c_when ..) rfl ?_; conv => whnf)
        | (refine CALLQ.mk _ _ _ (leL_refl _) (c_when ..) rfl ?_; conv => whnf)
        | (refine CALL0.by (c_within ..) rfl ?_; conv => whnf)
        | (refine CALLQ.mk _ _ _ (leL_refl _) (c_within ..) rfl ?_; conv => whnf)
      refine .mk _ _ _ _ _ (leL_refl _) (c_f3 _ _ _ _ _ rfl rfl rfl) rfl ?_
      conv => whnf
      split
      · rename_i h
        have h' : (s.err1 m != 0) = true := h
        conv => whnf
        refine ⟨?_, rfl⟩
        show IV.int .i64 (s.err1 m) = .int .i64 (s.err m)
        unfold Sta.err orE
        rw [h']; rfl
      · rename_i h
        have h' : (s.err1 m != 0) = false := h
        conv => whnf
        refine .mk _ _ _ _ _ ?_ (c_mappedI _ up 3 (by decide) (fun i => [s.p0, s.p1, s.p2].getD i 0) (fun i => withinS ([s.p0, s.p1, s.p2].getD i 0) 0 m.fea) n_control_CheckState_1 2 (fun i hi => c_CheckState1 [] _ up 2 m rfl _)) rfl ?_
        · refine ⟨⟨.inl rfl, rfl, rfl, fun i hi => ?_⟩, leV_refl _, trivial⟩
          match i, hi with
          | 0, _ => rfl
          | 1, _ => rfl
          | 2, _ => rfl
        conv => whnf
        repeat first
          | (refine DRAW.seek ?_; repeat (first | refine TRYD.take ?_ | refine TRYD.next ?_); conv => whnf)
          | (refine HOLD.mk (by first | exact trivial | exact ⟨⟨rfl, rfl⟩, trivial⟩ | exact ⟨⟨rfl, rfl⟩, ⟨rfl, rfl⟩, trivial⟩) ?_; (conv => whnf))
          | (refine CALL0.by (c_within ..) rfl ?_; conv => whnf)
          | (refine CALLQ.mk _ _ _ (leL_refl _) (c_within ..) rfl ?_; conv => whnf)
          | (refine CALL0.by (c_checkBlade ..) rfl ?_; conv => whnf)
          | (refine CALLQ.mk _ _ _ (leL_refl _) (c_checkBlade ..) rfl ?_; conv => whnf)
          | (refine CALL0.by (c_when ..) rfl ?_; conv => whnf)
          | (refine CALLQ.mk _ _ _ (leL_refl _) (c_when ..) rfl ?_; conv => whnf)
        refine .mk _ _ _ _ _ (leL_refl _) (c_f6 _ _ _ _ _ _ _ _ rfl rfl rfl rfl rfl rfl) rfl ?_
        conv => whnf
        refine ⟨?_, rfl⟩
        unfold Sta.err orE
        rw [h']
        show _ = IV.int .i64 (s.err2 m)
        unfold Sta.err2 Sta.fits
        simp only [q1, q2]
        rfl
end Go.Proofs.YtkdlegfakefjgaaGreatDoor.Ix

/-
  Ca3: contracts of the functions of the package control, the third part: steps of time, stops.
-/
namespace Go.Proofs.YtkdlegfakefjgaaGreatDoor.Ix
open Go.Proofs
set_option maxRecDepth 100000
set_option linter.unusedVariables false
set_option linter.unusedSimpArgs false
variable {gl : Nat → IV}

theorem c_begin (up : List Ces) (m : Mc) : Cs gl n_control_begin up [m.iv] (Sta.iv ⟨sIdle, 0, m.fea, m.fea, m.fea, 0, -1⟩) up := by
  refine mk h_control_begin rfl rfl ?_
  conv => whnf
  exact ⟨rfl, rfl⟩

/-- A blade's move. -/
def mvW (m : Mc) (a p : Int) : Int := maxW (w64 (p - m.rate)) (minW (w64 (p + m.rate)) a)

def Sta.movedW (s : Sta) (m : Mc) (a stuck : Int) : Sta :=
  ⟨s.mode, s.speed, bif (0 : Int) != stuck then mvW m a s.p0 else s.p0, bif (1 : Int) != stuck then mvW m a s.p1 else s.p1, bif (2 : Int) != stuck then mvW m a s.p2 else s.p2, s.tor, bif stuck != -1 then stuck else s.stuck⟩

set_option maxHeartbeats 8000000 in
theorem c_moved (up : List Ces) (m : Mc) (s : Sta) (a stuck : Int) : Cs gl n_control_State_moved up [s.iv, m.iv, .int .i64 a, .int .i64 stuck] (s.movedW m a stuck).iv up := by
  refine mk h_control_State_moved rfl rfl ?_
  conv => whnf
  refine .mk (α := {k : Nat // k ≤ 3}) (fun k => ⟨[(10, .int .i64 k.1), (2, .int .i64 a), (3, .int .i64 stuck), (4, .ptr 0 4 0), (5, .ptr 0 5 0), (8, .ptr 0 8 0)],
    [(8, [.str ByteArray.empty, .int .i64 0, .int .i64 0, .int .i64 0, .int .i64 0, .int .i64 0, .int .i64 0]), (5, m.cs),
     (4, [.str s.mode, .int .i64 s.speed, .int .i64 (bif decide (0 < k.1) && (0 : Int) != stuck then mvW m a s.p0 else s.p0), .int .i64 (bif decide (1 < k.1) && (1 : Int) != stuck then mvW m a s.p1 else s.p1), .int .i64 (bif decide (2 < k.1) && (2 : Int) != stuck then mvW m a s.p2 else s.p2), .int .i64 s.tor, .int .i64 s.stuck])], up⟩) (fun k => 3 - k.1) ⟨0, Nat.zero_le _⟩ ⟨?_, ?_, rfl, rfl⟩ ?_
  · exact ⟨leV_refl _, leV_refl _, leV_refl _, leV_refl _, leV_refl _, leV_refl _, trivial⟩
  · exact ⟨leL_refl _, leL_refl _, leL_refl _, trivial⟩
  rintro ⟨k, hk⟩
  obtain rfl | rfl | rfl | rfl : k = 0 ∨ k = 1 ∨ k = 2 ∨ k = 3 := by omega
  · cases q : ((0 : Int) != stuck) with
    | true =>
      conv => whnf
      split
      rotate_left
      · rename_i h
        exact Bool.noConfusion ((q).symm.trans h)
      rename_i hN
      clear hN
      conv => whnf
      refine DRAW.seek ?_
      repeat (first | refine TRYD.take ?_ | refine TRYD.next ?_)
      conv => whnf
      exact ⟨⟨1, by omega⟩, ⟨⟨leV_refl _, leV_refl _, leV_refl _, leV_refl _, leV_refl _, leV_refl _, trivial⟩, ⟨leL_refl _, leL_refl _, ⟨leV_refl _, leV_refl _, leV_int rfl, leV_refl _, leV_refl _, leV_refl _, leV_refl _, trivial⟩, trivial⟩, rfl, rfl⟩, by simp⟩
    | false =>
      conv => whnf
      split
      · rename_i h
        exact Bool.noConfusion ((q).symm.trans h)
      rename_i hN
      clear hN
      conv => whnf
      exact ⟨⟨1, by omega⟩, ⟨⟨leV_refl _, leV_refl _, leV_refl _, leV_refl _, leV_refl _, leV_refl _, trivial⟩, ⟨leL_refl _, leL_refl _, ⟨leV_refl _, leV_refl _, leV_int rfl, leV_refl _, leV_refl _, leV_refl _, leV_refl _, trivial⟩, trivial⟩, rfl, rfl⟩, by simp⟩
  · cases q : ((1 : Int) != stuck) with
    | true =>
      conv => whnf
      split
      rotate_left
      · rename_i h
        exact Bool.noConfusion ((q).symm.trans h)
      rename_i hN
      clear hN
      conv => whnf
      refine DRAW.seek ?_
      repeat (first | refine TRYD.take ?_ | refine TRYD.next ?_)
      conv => whnf
      exact ⟨⟨2, by omega⟩, ⟨⟨leV_refl _, leV_refl _, leV_refl _, leV_refl _, leV_refl _, leV_refl _, trivial⟩, ⟨leL_refl _, leL_refl _, ⟨leV_refl _, leV_refl _, leV_refl _, leV_int rfl, leV_refl _, leV_refl _, leV_refl _, trivial⟩, trivial⟩, rfl, rfl⟩, by simp⟩
    | false =>
      conv => whnf
      split
      · rename_i h
        exact Bool.noConfusion ((q).symm.trans h)
      rename_i hN
      clear hN
      conv => whnf
      exact ⟨⟨2, by omega⟩, ⟨⟨leV_refl _, leV_refl _, leV_refl _, leV_refl _, leV_refl _, leV_refl _, trivial⟩, ⟨leL_refl _, leL_refl _, ⟨leV_refl _, leV_refl _, leV_refl _, leV_int rfl, leV_refl _, leV_refl _, leV_refl _, trivial⟩, trivial⟩, rfl, rfl⟩, by simp⟩
  · cases q : ((2 : Int) != stuck) with
    | true =>
      conv => whnf
      split
      rotate_left
      · rename_i h
        exact Bool.noConfusion ((q).symm.trans h)
      rename_i hN
      clear hN
      conv => whnf
      refine DRAW.seek ?_
      repeat (first | refine TRYD.take ?_ | refine TRYD.next ?_)
      conv => whnf
      exact ⟨⟨3, by omega⟩, ⟨⟨leV_refl _, leV_refl _, leV_refl _, leV_refl _, leV_refl _, leV_refl _, trivial⟩, ⟨leL_refl _, leL_refl _, ⟨leV_refl _, leV_refl _, leV_refl _, leV_refl _, leV_int rfl, leV_refl _, leV_refl _, trivial⟩, trivial⟩, rfl, rfl⟩, by simp⟩
    | false =>
      conv => whnf
      split
      · rename_i h
        exact Bool.noConfusion ((q).symm.trans h)
      rename_i hN
      clear hN
      conv => whnf
      exact ⟨⟨3, by omega⟩, ⟨⟨leV_refl _, leV_refl _, leV_refl _, leV_refl _, leV_refl _, leV_refl _, trivial⟩, ⟨leL_refl _, leL_refl _, ⟨leV_refl _, leV_refl _, leV_refl _, leV_refl _, leV_int rfl, leV_refl _, leV_refl _, trivial⟩, trivial⟩, rfl, rfl⟩, by simp⟩
  · cases q : (stuck != -1) with
    | true =>
      conv => whnf
      split
      rotate_left
      · rename_i h
        exact Bool.noConfusion ((q).symm.trans h)
      rename_i hN
      clear hN
      conv => whnf
      refine ⟨?_, rfl⟩
      unfold Sta.movedW Sta.iv
      rw [q]; rfl
    | false =>
      conv => whnf
      split
      · rename_i h
        exact Bool.noConfusion ((q).symm.trans h)
      rename_i hN
      clear hN
      conv => whnf
      refine ⟨?_, rfl⟩
      unfold Sta.movedW Sta.iv
      rw [q]; rfl

def Sta.laterW (s : Sta) (wind : Int) : Sta := { s with speed := maxW 0 (w64 (w64 (w64 (w64 (s.speed + w64 (wind - s.tor)) - s.p0) - s.p1) - s.p2)) }

theorem c_later (up : List Ces) (s : Sta) (wind : Int) : Cs gl n_control_State_later up [s.iv, .int .i64 wind] (s.laterW wind).iv up := by
  refine mk h_control_State_later rfl rfl ?_
  conv => whnf
  refine .mk (α := {k : Nat // k ≤ 3}) (fun k => ⟨[(17, .int .i64 k.1), (16, .agg [.int .i64 s.p0, .int .i64 s.p1, .int .i64 s.p2]), (2, .ptr 0 2 0), (4, .ptr 0 4 0)],
    [(4, [.str ByteArray.empty, .int .i64 0, .int .i64 0, .int .i64 0, .int .i64 0, .int .i64 0, .int .i64 0]),
     (2, [.str s.mode, .int .i64 ([s.p0, s.p1, s.p2].take k.1 |>.foldl (fun a p => w64 (a - p)) (w64 (s.speed + w64 (wind - s.tor)))), .int .i64 s.p0, .int .i64 s.p1, .int .i64 s.p2, .int .i64 s.tor, .int .i64 s.stuck])], up⟩) (fun k => 3 - k.1) ⟨0, Nat.zero_le _⟩ ⟨?_, ?_, rfl, rfl⟩ ?_
  · exact ⟨leV_refl _, leV_refl _, leV_refl _, leV_refl _, trivial⟩
  · exact ⟨leL_refl _, leL_refl _, trivial⟩
  rintro ⟨k, hk⟩
  obtain rfl | rfl | rfl | rfl : k = 0 ∨ k = 1 ∨ k = 2 ∨ k = 3 := by omega
  · conv => whnf
    exact ⟨⟨1, by omega⟩, ⟨⟨leV_refl _, leV_refl _, leV_refl _, leV_refl _, trivial⟩, ⟨leL_refl _, ⟨leV_refl _, leV_int rfl, leV_refl _, leV_refl _, leV_refl _, leV_refl _, leV_refl _, trivial⟩, trivial⟩, rfl, rfl⟩, by simp⟩
  · conv => whnf
    exact ⟨⟨2, by omega⟩, ⟨⟨leV_refl _, leV_refl _, leV_refl _, leV_refl _, trivial⟩, ⟨leL_refl _, ⟨leV_refl _, leV_int rfl, leV_refl _, leV_refl _, leV_refl _, leV_refl _, leV_refl _, trivial⟩, trivial⟩, rfl, rfl⟩, by simp⟩
  · conv => whnf
    exact ⟨⟨3, by omega⟩, ⟨⟨leV_refl _, leV_refl _, leV_refl _, leV_refl _, trivial⟩, ⟨leL_refl _, ⟨leV_refl _, leV_int rfl, leV_refl _, leV_refl _, leV_refl _, leV_refl _, leV_refl _, trivial⟩, trivial⟩, rfl, rfl⟩, by simp⟩
  · conv => whnf
    exact ⟨rfl, rfl⟩

def Sta.brakedW (s : Sta) (m : Mc) (wind stuck : Int) : Sta := (Sta.movedW { s with mode := sStop, tor := 0 } m m.fea stuck).laterW wind

theorem c_braked (up : List Ces) (m : Mc) (s : Sta) (wind stuck : Int) : Cs gl n_control_State_braked up [s.iv, m.iv, .int .i64 wind, .int .i64 stuck] (s.brakedW m wind stuck).iv up := by
  refine mk h_control_State_braked rfl rfl ?_
  conv => whnf
  refine .mk _ _ _ _ _ (leL_refl _) (c_moved _ m { s with mode := sStop, tor := 0 } m.fea stuck) rfl ?_
  conv => whnf
  refine .mk _ _ _ _ _ (leL_refl _) (c_later _ (Sta.movedW { s with mode := sStop, tor := 0 } m m.fea stuck) wind) rfl ?_
  conv => whnf
  exact ⟨rfl, rfl⟩

/-- Whether a stop takes no further step. -/
def Sta.restB (s : Sta) (m : Mc) (stuck : Int) : Bool :=
  bif s.speed == 0 then (s.p0 == (if stuck = 0 then s.p0 else m.fea) && (s.p1 == (if stuck = 1 then s.p1 else m.fea) && (s.p2 == (if stuck = 2 then s.p2 else m.fea) && true))) else false

theorem c_resting (up : List Ces) (m : Mc) (s : Sta) (stuck : Int) (h1 : -1 ≤ stuck) (h2 : stuck ≤ 2) : Cs gl n_control_State_resting up [s.iv, m.iv, .int .i64 stuck] (.bool (s.restB m stuck)) up := by
  refine mk h_control_State_resting rfl rfl ?_
  cases q : s.speed == 0 with
  | true =>
    obtain rfl | rfl | rfl | rfl : stuck = -1 ∨ stuck = 0 ∨ stuck = 1 ∨ stuck = 2 := by omega
    · conv => whnf
      split
      rotate_left
      · rename_i h
        exact Bool.noConfusion ((q).symm.trans h)
      rename_i hN
      clear hN
      conv => whnf
      refine ⟨?_, rfl⟩
      unfold Sta.restB
      rw [q]; rfl
    · conv => whnf
      split
      rotate_left
      · rename_i h
        exact Bool.noConfusion ((q).symm.trans h)
      rename_i hN
      clear hN
      conv => whnf
      refine ⟨?_, rfl⟩
      unfold Sta.restB
      rw [q]; rfl
    · conv => whnf
      split
      rotate_left
      · rename_i h
        exact Bool.noConfusion ((q).symm.trans h)
      rename_i hN
      clear hN
      conv => whnf
      refine ⟨?_, rfl⟩
      unfold Sta.restB
      rw [q]; rfl
    · conv => whnf
      split
      rotate_left
      · rename_i h
        exact Bool.noConfusion ((q).symm.trans h)
      rename_i hN
      clear hN
      conv => whnf
      refine ⟨?_, rfl⟩
      unfold Sta.restB
      rw [q]; rfl
  | false =>
    obtain rfl | rfl | rfl | rfl : stuck = -1 ∨ stuck = 0 ∨ stuck = 1 ∨ stuck = 2 := by omega
    · conv => whnf
      split
      · rename_i h
        exact Bool.noConfusion ((q).symm.trans h)
      rename_i hN
      clear hN
      conv => whnf
      refine ⟨?_, rfl⟩
      unfold Sta.restB
      rw [q]; rfl
    · conv => whnf
      split
      · rename_i h
        exact Bool.noConfusion ((q).symm.trans h)
      rename_i hN
      clear hN
      conv => whnf
      refine ⟨?_, rfl⟩
      unfold Sta.restB
      rw [q]; rfl
    · conv => whnf
      split
      · rename_i h
        exact Bool.noConfusion ((q).symm.trans h)
      rename_i hN
      clear hN
      conv => whnf
      refine ⟨?_, rfl⟩
      unfold Sta.restB
      rw [q]; rfl
    · conv => whnf
      split
      · rename_i h
        exact Bool.noConfusion ((q).symm.trans h)
      rename_i hN
      clear hN
      conv => whnf
      refine ⟨?_, rfl⟩
      unfold Sta.restB
      rw [q]; rfl
end Go.Proofs.YtkdlegfakefjgaaGreatDoor.Ix

/-
  Ca4: contracts of the functions of the package control, the fourth part: the steps of a stop, its peak.
-/
namespace Go.Proofs.YtkdlegfakefjgaaGreatDoor.Ix
open Go.Proofs
set_option maxRecDepth 100000
set_option linter.unusedVariables false
set_option linter.unusedSimpArgs false
variable {gl : Nat → IV}

def Sta.cs (s : Sta) : List IV := [.str s.mode, .int .i64 s.speed, .int .i64 s.p0, .int .i64 s.p1, .int .i64 s.p2, .int .i64 s.tor, .int .i64 s.stuck]
/-- The state behind 'k' steps of a stop. -/
def Sta.stepW (s : Sta) (m : Mc) (stuck : Int) : Nat → Sta
  | 0 => s
  | k + 1 => (s.stepW m stuck k).brakedW m m.wind stuck

/-- A stop takes 'n' steps. -/
def Sta.takes (s : Sta) (m : Mc) (stuck : Int) (n : Nat) : Prop := (∀ k, k < n → (s.stepW m stuck k).restB m stuck = false) ∧ (s.stepW m stuck n).restB m stuck = true

/-- Contracts that leave the levels as they are. -/
abbrev CsL (gl : Nat → IV) : Con := fun g up args r up' => Cs gl g up args r up' ∧ up'.length = up.length

def stepsC (s : Sta) (m : Mc) (stuck : Int) : List IV := [.vptr 7 1 (fun _ => s.cs) 0 0, .vptr 7 1 (fun _ => m.cs) 0 0, .vptr 1 1 (fun _ => [.int .i64 stuck]) 0 0]

set_option maxHeartbeats 8000000 in
theorem steps_ivis (s : Sta) (m : Mc) (stuck : Int) (h1 : -1 ≤ stuck) (h2 : stuck ≤ 2) (n : Nat) (hn : s.takes m stuck n) :
    ivis (CsL gl) (Γs gl) f_control_State_steps_1 (stepsC s m stuck) n (fun k => [(s.stepW m stuck (k + 1)).iv]) := by
  conv => whnf
  intro l
  conv => whnf
  refine .mk (α := {i : Nat // i ≤ n}) (fun i => ⟨[(5, .ptr 0 5 0), (3, .vptr 1 1 (fun _ => [.int .i64 stuck]) 0 0), (2, .vptr 7 1 (fun _ => m.cs) 0 0), (1, .vptr 7 1 (fun _ => s.cs) 0 0), (0, .lit (.func (.yield l) #[] #[]))],
    [(5, (s.stepW m stuck i.1).cs)], List.replicate i.1 []⟩) (fun i => n - i.1) ⟨0, Nat.zero_le _⟩ ⟨?_, ?_, rfl, rfl⟩ ?_
  · exact ⟨leV_refl _, leV_refl _, leV_refl _, leV_refl _, leV_refl _, trivial⟩
  · exact ⟨leL_refl _, trivial⟩
  rintro ⟨i, hi⟩
  have hr := fun up => c_resting (gl := gl) up m (s.stepW m stuck i) stuck h1 h2
  have hb := fun up => c_braked (gl := gl) up m (s.stepW m stuck i) m.wind stuck
  by_cases hlt : i < n
  · have q := hn.1 i hlt
    rw [q] at hr
    conv => whnf
    refine .mk _ _ _ _ _ (leL_refl _) ⟨hr _, rfl⟩ rfl ?_
    conv => whnf
    refine .mk _ _ _ _ _ (leL_refl _) ⟨hb _, rfl⟩ rfl ?_
    conv => whnf
    refine .mk rfl (by simp) (by simpa using hlt) (by simp; rfl) rfl ?_
    intro bb
    cases bb
    · conv => whnf
      show n ≤ (List.replicate (n + 1) [] ++ List.replicate i []).length
      simp; omega
    · conv => whnf
      exact ⟨⟨i + 1, hlt⟩, ⟨⟨leV_refl _, leV_refl _, leV_refl _, leV_refl _, leV_refl _, trivial⟩, ⟨leL_refl _, trivial⟩, rfl, rfl⟩, (by show n - (i + 1) < n - i; omega)⟩
  · have : i = n := by omega
    subst this
    rw [hn.2] at hr
    conv => whnf
    refine .mk _ _ _ _ _ (leL_refl _) ⟨hr _, rfl⟩ rfl ?_
    conv => whnf
    show i ≤ (List.replicate i []).length
    simp

theorem v_steps (s : Sta) (m : Mc) (stuck : Int) (h1 : -1 ≤ stuck) (h2 : stuck ≤ 2) (n : Nat) (hn : s.takes m stuck n) : Vis prog gl n_control_State_steps_1 (stepsC s m stuck) n (fun k => [(s.stepW m stuck (k + 1)).iv]) :=
  vis_of_body (Γ := Γs gl) (C := CsL gl) tok0 (fun _ _ _ _ _ h => h.1) (fun _ _ _ _ _ h => h.2) h_control_State_steps_1 rfl rfl (by kernel_rfl) (by kernel_rfl) (steps_ivis s m stuck h1 h2 n hn)

theorem c_steps (up : List Ces) (s : Sta) (m : Mc) (stuck : Int) : Cs gl n_control_State_steps up [s.iv, m.iv, .int .i64 stuck] (.fn n_control_State_steps_1 [] (stepsC s m stuck)) up := by
  refine mk h_control_State_steps rfl rfl ?_
  conv => whnf
  exact ⟨rfl, rfl⟩

/-- The greatest speed of the first 'k' steps. -/
def Sta.most (s : Sta) (m : Mc) (stuck : Int) : Nat → Int
  | 0 => s.speed
  | k + 1 => maxW (s.most m stuck k) (s.stepW m stuck (k + 1)).speed

set_option maxHeartbeats 8000000 in
theorem c_peak (up : List Ces) (s : Sta) (m : Mc) (stuck : Int) (h1 : -1 ≤ stuck) (h2 : stuck ≤ 2) (n : Nat) (hn : s.takes m stuck n) (hn2 : n ≤ 1000000) :
    Cs gl n_control_State_peak up [s.iv, m.iv, .int .i64 stuck] (.tup [.int .i64 (s.most m stuck n), .int .i64 n]) up := by
  refine mk h_control_State_peak rfl rfl ?_
  conv => whnf
  refine .mk _ _ _ _ _ (leL_refl _) (c_steps _ _ _ _) rfl ?_
  conv => whnf
  refine .mk n_control_State_steps_1 _ n (fun k => [(s.stepW m stuck (k + 1)).iv]) rfl rfl (v_steps s m stuck h1 h2 n hn) (by kernel_rfl) (fun _ _ => rfl)
    (α := {k : Nat // k ≤ n}) (fun k => ⟨[(8, .ptr 0 8 0), (9, .ptr 0 9 0)], [(9, [.int .i64 k.1]), (8, [.int .i64 (s.most m stuck k.1)])], up⟩) (fun k => k.1) ⟨0, Nat.zero_le _⟩ ⟨?_, ?_, rfl, rfl⟩ rfl (fun _ => rfl) ?_ ?_
  · exact ⟨leV_refl _, leV_refl _, trivial⟩
  · exact ⟨leL_refl _, leL_refl _, trivial⟩
  · rintro ⟨k, hk⟩ hlt
    replace hlt : k < n := hlt
    have hw : w64 ((k : Int) + 1) = ((k + 1 : Nat) : Int) := by rw [w64, wrap_in] <;> omega
    conv => whnf
    exact ⟨⟨k + 1, hlt⟩, rfl, ⟨⟨leV_refl _, leV_refl _, trivial⟩, ⟨⟨leV_int hw, trivial⟩, ⟨leV_int rfl, trivial⟩, trivial⟩, rfl, rfl⟩⟩
  · rintro ⟨k, hk⟩ heq
    have : k = n := heq
    subst this
    conv => whnf
    refine DRAW.mkH 2 [8, 9] [1] [] (by decide +kernel) ?_
    conv => whnf
    repeat first
      | (refine DRAW.seek ?_; repeat (first | refine TRYD.take ?_ | refine TRYD.next ?_); conv => whnf)
      | (refine HOLD.mk (by first | exact trivial | exact ⟨⟨rfl, rfl⟩, trivial⟩ | exact ⟨⟨rfl, rfl⟩, ⟨rfl, rfl⟩, trivial⟩) ?_; (conv => whnf))
    exact ⟨rfl, rfl⟩
end Go.Proofs.YtkdlegfakefjgaaGreatDoor.Ix

/-
  Ca5: contracts of the functions of the package control, the fifth part: stops, safe states, and the exported functions for them.
-/
namespace Go.Proofs.YtkdlegfakefjgaaGreatDoor.Ix
open Go.Proofs
set_option maxRecDepth 100000
set_option linter.unusedVariables false
set_option linter.unusedSimpArgs false
variable {gl : Nat → IV}

set_option maxHeartbeats 8000000 in
theorem c_AppendSeq (up : List Ces) (s : Sta) (m : Mc) (stuck : Int) (h1 : -1 ≤ stuck) (h2 : stuck ≤ 2) (n : Nat) (hn : s.takes m stuck n) (hn2 : n ≤ 1000000) :
    Cs gl n_slices_AppendSeq_control_State_control_State up [.nilS, .fn n_control_State_steps_1 [] (stepsC s m stuck)] (.lst (some 11) 7 n fun k => (s.stepW m stuck (k + 1)).cs) up := by
  refine mk h_slices_AppendSeq_control_State_control_State rfl rfl ?_
  conv => whnf
  let F : Nat → List IV := fun k => (s.stepW m stuck (k + 1)).cs
  refine .mk n_control_State_steps_1 _ n (fun k => [(s.stepW m stuck (k + 1)).iv]) rfl rfl (v_steps s m stuck h1 h2 n hn) (by kernel_rfl) (fun _ _ => rfl)
    (α := {k : Nat // k ≤ n}) (fun k => ⟨[(2, .ptr 0 2 0)], [(2, [.lst (some 11) 7 k.1 F])], up⟩) (fun k => k.1) ⟨0, Nat.zero_le _⟩ ⟨?_, ?_, rfl, rfl⟩ rfl (fun _ => rfl) ?_ ?_
  · exact ⟨leV_refl _, trivial⟩
  · exact ⟨⟨rfl, trivial⟩, trivial⟩
  · rintro ⟨k, hk⟩ hlt
    replace hlt : k < n := hlt
    conv => whnf
    split
    rotate_left
    · rename_i h
      have h' : decide (k + 1 ≤ 1073741824) = false := h
      simp at h' <;> omega
    conv => whnf
    refine ⟨⟨k + 1, hlt⟩, rfl, ⟨⟨leV_refl _, trivial⟩, ⟨⟨⟨.inr rfl, rfl, rfl, fun j hj => ?_⟩, trivial⟩, trivial⟩, rfl, rfl⟩⟩
    show (if j < k then F j else litF 7 (F k) (j - k)) = F j
    split
    · rfl
    · have : j = k := by have : j < k + 1 := hj; omega
      subst this
      rw [Nat.sub_self]
      rfl
  · rintro ⟨k, hk⟩ heq
    have : k = n := heq
    subst this
    conv => whnf
    exact ⟨rfl, rfl⟩

theorem c_Collect (up : List Ces) (s : Sta) (m : Mc) (stuck : Int) (h1 : -1 ≤ stuck) (h2 : stuck ≤ 2) (n : Nat) (hn : s.takes m stuck n) (hn2 : n ≤ 1000000) :
    Cs gl n_slices_Collect_control_State up [.fn n_control_State_steps_1 [] (stepsC s m stuck)] (.lst (some 4) 7 n fun k => (s.stepW m stuck (k + 1)).cs) up := by
  refine mk h_slices_Collect_control_State rfl rfl ?_
  conv => whnf
  refine .mk _ _ _ _ _ (leL_refl _) (c_AppendSeq _ s m stuck h1 h2 n hn hn2) rfl ?_
  conv => whnf
  exact ⟨rfl, rfl⟩

/-- The states of a stop. -/
def Sta.here (s : Sta) (stuck : Int) : Sta := ⟨sStop, s.speed, s.p0, s.p1, s.p2, 0, bif stuck != -1 then stuck else s.stuck⟩
def Sta.stopF (s : Sta) (m : Mc) (stuck : Int) : Nat → List IV
  | 0 => (s.here stuck).cs
  | k + 1 => (s.stepW m stuck (k + 1)).cs

def Sta.stopR (s : Sta) (m : Mc) (stuck : Int) (n : Nat) : IV :=
  bif decide (s.most m stuck n > m.lim) then .tup [.nilS, .bool false] else .tup [.lst (some 36) 7 (1 + n) (s.stopF m stuck), .bool true]

set_option maxHeartbeats 8000000 in
theorem c_stop (up : List Ces) (s : Sta) (m : Mc) (stuck : Int) (h1 : -1 ≤ stuck) (h2 : stuck ≤ 2) (n : Nat) (hn : s.takes m stuck n) (hn2 : n ≤ 1000000) :
    Cs gl n_control_State_stop up [s.iv, m.iv, .int .i64 stuck] (s.stopR m stuck n) up := by
  refine mk h_control_State_stop rfl rfl ?_
  have hp := fun up => c_peak (gl := gl) up s m stuck h1 h2 n hn hn2
  have hs := fun up => c_steps (gl := gl) up s m stuck
  have hc := fun up => c_Collect (gl := gl) up s m stuck h1 h2 n hn hn2
  unfold Sta.stopR
  cases q : decide (s.most m stuck n > m.lim) with
  | true =>
    conv => whnf
    repeat first
      | (refine DRAW.seek ?_; repeat (first | refine TRYD.take ?_ | refine TRYD.next ?_); conv => whnf)
      | (refine HOLD.mk (by first | exact trivial | exact ⟨⟨rfl, rfl⟩, trivial⟩ | exact ⟨⟨rfl, rfl⟩, ⟨rfl, rfl⟩, trivial⟩) ?_; (conv => whnf))
      | (refine CALL0.by (hp ..) rfl ?_; conv => whnf)
      | (refine CALLQ.mk _ _ _ (leL_refl _) (hp ..) rfl ?_; conv => whnf)
    split
    rotate_left
    · rename_i h
      exact Bool.noConfusion ((q).symm.trans h)
    rename_i hN
    clear hN
    conv => whnf
    exact ⟨rfl, rfl⟩
  | false =>
    cases q2 : (stuck != -1) with
    | true =>
      conv => whnf
      repeat first
        | (refine DRAW.seek ?_; repeat (first | refine TRYD.take ?_ | refine TRYD.next ?_); conv => whnf)
        | (refine HOLD.mk (by first | exact trivial | exact ⟨⟨rfl, rfl⟩, trivial⟩ | exact ⟨⟨rfl, rfl⟩, ⟨rfl, rfl⟩, trivial⟩) ?_; (conv => whnf))
        | (refine CALL0.by (hp ..) rfl ?_; conv => whnf)
        | (refine CALLQ.mk _ _ _ (leL_refl _) (hp ..) rfl ?_; conv => whnf)
      split
      · rename_i h
        exact Bool.noConfusion ((q).symm.trans h)
      rename_i hN
      clear hN
      conv => whnf
      split
      rotate_left
      · rename_i h
        exact Bool.noConfusion ((q2).symm.trans h)
      rename_i hN
      clear hN
      conv => whnf
      repeat first
        | (refine DRAW.seek ?_; repeat (first | refine TRYD.take ?_ | refine TRYD.next ?_); conv => whnf)
        | (refine HOLD.mk (by first | exact trivial | exact ⟨⟨rfl, rfl⟩, trivial⟩ | exact ⟨⟨rfl, rfl⟩, ⟨rfl, rfl⟩, trivial⟩) ?_; (conv => whnf))
        | (refine CALL0.by (hs ..) rfl ?_; conv => whnf)
        | (refine CALLQ.mk _ _ _ (leL_refl _) (hs ..) rfl ?_; conv => whnf)
        | (refine CALL0.by (hc ..) rfl ?_; conv => whnf)
        | (refine CALLQ.mk _ _ _ (leL_refl _) (hc ..) rfl ?_; conv => whnf)
      split
      rotate_left
      · rename_i h
        have h' : decide (1 + n ≤ 1073741824) = false := h
        simp at h' <;> omega
      conv => whnf
      refine ⟨congrArg (fun F => IV.tup [.lst (some 36) 7 (1 + n) F, .bool true]) (funext fun i => ?_), rfl⟩
      cases i with
      | zero =>
        show _ = (s.here stuck).cs
        unfold Sta.here Sta.cs
        rw [q2]; rfl
      | succ i => rfl
    | false =>
      conv => whnf
      repeat first
        | (refine DRAW.seek ?_; repeat (first | refine TRYD.take ?_ | refine TRYD.next ?_); conv => whnf)
        | (refine HOLD.mk (by first | exact trivial | exact ⟨⟨rfl, rfl⟩, trivial⟩ | exact ⟨⟨rfl, rfl⟩, ⟨rfl, rfl⟩, trivial⟩) ?_; (conv => whnf))
        | (refine CALL0.by (hp ..) rfl ?_; conv => whnf)
        | (refine CALLQ.mk _ _ _ (leL_refl _) (hp ..) rfl ?_; conv => whnf)
      split
      · rename_i h
        exact Bool.noConfusion ((q).symm.trans h)
      rename_i hN
      clear hN
      conv => whnf
      split
      · rename_i h
        exact Bool.noConfusion ((q2).symm.trans h)
      rename_i hN
      clear hN
      conv => whnf
      repeat first
        | (refine DRAW.seek ?_; repeat (first | refine TRYD.take ?_ | refine TRYD.next ?_); conv => whnf)
        | (refine HOLD.mk (by first | exact trivial | exact ⟨⟨rfl, rfl⟩, trivial⟩ | exact ⟨⟨rfl, rfl⟩, ⟨rfl, rfl⟩, trivial⟩) ?_; (conv => whnf))
        | (refine CALL0.by (hs ..) rfl ?_; conv => whnf)
        | (refine CALLQ.mk _ _ _ (leL_refl _) (hs ..) rfl ?_; conv => whnf)
        | (refine CALL0.by (hc ..) rfl ?_; conv => whnf)
        | (refine CALLQ.mk _ _ _ (leL_refl _) (hc ..) rfl ?_; conv => whnf)
      split
      rotate_left
      · rename_i h
        have h' : decide (1 + n ≤ 1073741824) = false := h
        simp at h' <;> omega
      conv => whnf
      refine ⟨congrArg (fun F => IV.tup [.lst (some 36) 7 (1 + n) F, .bool true]) (funext fun i => ?_), rfl⟩
      cases i with
      | zero =>
        show _ = (s.here stuck).cs
        unfold Sta.here Sta.cs
        rw [q2]; rfl
      | succ i => rfl

/-- Whether a stop with the blade 'k' stuck is not asked about, or keeps the limit. -/
def Sta.safeAt (s : Sta) (m : Mc) (N : Nat → Nat) (k : Nat) : Bool := ((s.stuck != -1) && (s.stuck != (k : Int))) || decide (s.most m k (N k) ≤ m.lim)
def Sta.safeB (s : Sta) (m : Mc) (N : Nat → Nat) : Bool := s.safeAt m N 0 && s.safeAt m N 1 && s.safeAt m N 2

set_option maxHeartbeats 8000000 in
theorem c_safe (up : List Ces) (s : Sta) (m : Mc) (N : Nat → Nat) (hn : ∀ k, k < 3 → s.takes m (k : Nat) (N k) ∧ N k ≤ 1000000) :
    Cs gl n_control_State_safe up [s.iv, m.iv] (.bool (s.safeB m N)) up := by
  refine mk h_control_State_safe rfl rfl ?_
  have hp := fun up (k : Nat) (hk : k < 3) => c_peak (gl := gl) up s m k (by omega) (by omega) (N k) (hn k hk).1 (hn k hk).2
  have hall : s.safeB m N = true ↔ ∀ k, k < 3 → s.safeAt m N k = true := by
    unfold Sta.safeB
    simp only [Bool.and_eq_true]
    constructor
    · rintro ⟨⟨a, b⟩, c⟩ k hk
      obtain rfl | rfl | rfl : k = 0 ∨ k = 1 ∨ k = 2 := by omega
      · exact a
      · exact b
      · exact c
    · intro h
      exact ⟨⟨h 0 (by omega), h 1 (by omega)⟩, h 2 (by omega)⟩
  conv => whnf
  refine .mk (α := {k : Nat // k ≤ 3 ∧ ∀ i, i < k → s.safeAt m N i = true}) (fun k => ⟨[(8, .int .i64 k.1), (2, .ptr 0 2 0), (3, .ptr 0 3 0)], [(3, m.cs), (2, s.cs)], up⟩) (fun k => 3 - k.1) ⟨0, Nat.zero_le _, fun i hi => by omega⟩ ⟨?_, ?_, rfl, rfl⟩ ?_
  · exact ⟨leV_refl _, leV_refl _, leV_refl _, trivial⟩
  · exact ⟨leL_refl _, leL_refl _, trivial⟩
  rintro ⟨k, hk, hb⟩
  by_cases hk3 : k = 3
  · subst hk3
    have e := hall.2 hb
    rw [e]
    conv => whnf
    exact ⟨rfl, rfl⟩
  have q : decide ((k : Int) < 3) = true := decide_eq_true (by omega)
  have hw : w64 ((k : Int) + 1) = ((k + 1 : Nat) : Int) := by rw [w64, wrap_in] <;> omega
  have hpk := fun up => hp up k (by omega)
  have next : s.safeAt m N k = true → ∀ i, i < k + 1 → s.safeAt m N i = true := fun h i hi => by
    by_cases e : i = k
    · subst e; exact h
    · exact hb i (by omega)
  cases q1 : (s.stuck != -1 && s.stuck != (k : Int)) with
  | true =>
    have hs : s.safeAt m N k = true := by unfold Sta.safeAt; rw [q1]; rfl
    rw [Bool.and_eq_true] at q1
    conv => whnf
    split
    rotate_left
    · rename_i h
      exact Bool.noConfusion ((q).symm.trans h)
    rename_i hN
    clear hN
    conv => whnf
    split
    rotate_left
    · rename_i h
      exact Bool.noConfusion ((q1.1).symm.trans h)
    rename_i hN
    clear hN
    conv => whnf
    split
    rotate_left
    · rename_i h
      exact Bool.noConfusion ((q1.2).symm.trans h)
    rename_i hN
    clear hN
    conv => whnf
    exact ⟨⟨k + 1, by omega, next hs⟩, ⟨⟨leV_int hw, leV_refl _, leV_refl _, trivial⟩, ⟨leL_refl _, leL_refl _, trivial⟩, rfl, rfl⟩, (by show 3 - (k + 1) < 3 - k; omega)⟩
  | false =>
    cases q2 : decide (s.most m k (N k) > m.lim) with
    | true =>
      have hs : ¬ s.safeB m N = true := fun h => by
        have := hall.1 h k (by omega)
        unfold Sta.safeAt at this
        rw [q1, Bool.false_or] at this
        have h1 := of_decide_eq_true q2
        have h2 := of_decide_eq_true this
        omega
      have hs : s.safeB m N = false := by simpa using hs
      rw [hs]
      cases q3 : (s.stuck != -1) with
      | true =>
        rw [q3, Bool.true_and] at q1
        conv => whnf
        split
        rotate_left
        · rename_i h
          exact Bool.noConfusion ((q).symm.trans h)
        rename_i hN
        clear hN
        conv => whnf
        split
        rotate_left
        · rename_i h
          exact Bool.noConfusion ((q3).symm.trans h)
        rename_i hN
        clear hN
        conv => whnf
        split
        · rename_i h
          exact Bool.noConfusion ((q1).symm.trans h)
        rename_i hN
        clear hN
        conv => whnf
        repeat first
          | (refine DRAW.seek ?_; repeat (first | refine TRYD.take ?_ | refine TRYD.next ?_); conv => whnf)
          | (refine HOLD.mk (by first | exact trivial | exact ⟨⟨rfl, rfl⟩, trivial⟩ | exact ⟨⟨rfl, rfl⟩, ⟨rfl, rfl⟩, trivial⟩) ?_; (conv => whnf))
          | (refine CALL0.by (hpk ..) rfl ?_; conv => whnf)
          | (refine CALLQ.mk _ _ _ (leL_refl _) (hpk ..) rfl ?_; conv => whnf)
        split
        rotate_left
        · rename_i h
          exact Bool.noConfusion ((q2).symm.trans h)
        rename_i hN
        clear hN
        conv => whnf
        exact ⟨rfl, rfl⟩
      | false =>
        conv => whnf
        split
        rotate_left
        · rename_i h
          exact Bool.noConfusion ((q).symm.trans h)
        rename_i hN
        clear hN
        conv => whnf
        split
        · rename_i h
          exact Bool.noConfusion ((q3).symm.trans h)
        rename_i hN
        clear hN
        conv => whnf
        repeat first
          | (refine DRAW.seek ?_; repeat (first | refine TRYD.take ?_ | refine TRYD.next ?_); conv => whnf)
          | (refine HOLD.mk (by first | exact trivial | exact ⟨⟨rfl, rfl⟩, trivial⟩ | exact ⟨⟨rfl, rfl⟩, ⟨rfl, rfl⟩, trivial⟩) ?_; (conv => whnf))
          | (refine CALL0.by (hpk ..) rfl ?_; conv => whnf)
          | (refine CALLQ.mk _ _ _ (leL_refl _) (hpk ..) rfl ?_; conv => whnf)
        split
        rotate_left
        · rename_i h
          exact Bool.noConfusion ((q2).symm.trans h)
        rename_i hN
        clear hN
        conv => whnf
        exact ⟨rfl, rfl⟩
    | false =>
      have hs : s.safeAt m N k = true := by
        unfold Sta.safeAt
        have h1 := of_decide_eq_false q2
        rw [q1, Bool.false_or]
        exact decide_eq_true (by omega)
      cases q3 : (s.stuck != -1) with
      | true =>
        rw [q3, Bool.true_and] at q1
        conv => whnf
        split
        rotate_left
        · rename_i h
          exact Bool.noConfusion ((q).symm.trans h)
        rename_i hN
        clear hN
        conv => whnf
        split
        rotate_left
        · rename_i h
          exact Bool.noConfusion ((q3).symm.trans h)
        rename_i hN
        clear hN
        conv => whnf
        split
        · rename_i h
          exact Bool.noConfusion ((q1).symm.trans h)
        rename_i hN
        clear hN
        conv => whnf
        repeat first
          | (refine DRAW.seek ?_; repeat (first | refine TRYD.take ?_ | refine TRYD.next ?_); conv => whnf)
          | (refine HOLD.mk (by first | exact trivial | exact ⟨⟨rfl, rfl⟩, trivial⟩ | exact ⟨⟨rfl, rfl⟩, ⟨rfl, rfl⟩, trivial⟩) ?_; (conv => whnf))
          | (refine CALL0.by (hpk ..) rfl ?_; conv => whnf)
          | (refine CALLQ.mk _ _ _ (leL_refl _) (hpk ..) rfl ?_; conv => whnf)
        split
        · rename_i h
          exact Bool.noConfusion ((q2).symm.trans h)
        rename_i hN
        clear hN
        conv => whnf
        exact ⟨⟨k + 1, by omega, next hs⟩, ⟨⟨leV_int hw, leV_refl _, leV_refl _, trivial⟩, ⟨leL_refl _, leL_refl _, trivial⟩, rfl, rfl⟩, (by show 3 - (k + 1) < 3 - k; omega)⟩
      | false =>
        conv => whnf
        split
        rotate_left
        · rename_i h
          exact Bool.noConfusion ((q).symm.trans h)
        rename_i hN
        clear hN
        conv => whnf
        split
        · rename_i h
          exact Bool.noConfusion ((q3).symm.trans h)
        rename_i hN
        clear hN
        conv => whnf
        repeat first
          | (refine DRAW.seek ?_; repeat (first | refine TRYD.take ?_ | refine TRYD.next ?_); conv => whnf)
          | (refine HOLD.mk (by first | exact trivial | exact ⟨⟨rfl, rfl⟩, trivial⟩ | exact ⟨⟨rfl, rfl⟩, ⟨rfl, rfl⟩, trivial⟩) ?_; (conv => whnf))
          | (refine CALL0.by (hpk ..) rfl ?_; conv => whnf)
          | (refine CALLQ.mk _ _ _ (leL_refl _) (hpk ..) rfl ?_; conv => whnf)
        split
        · rename_i h
          exact Bool.noConfusion ((q2).symm.trans h)
        rename_i hN
        clear hN
        conv => whnf
        exact ⟨⟨k + 1, by omega, next hs⟩, ⟨⟨leV_int hw, leV_refl _, leV_refl _, trivial⟩, ⟨leL_refl _, leL_refl _, trivial⟩, rfl, rfl⟩, (by show 3 - (k + 1) < 3 - k; omega)⟩
end Go.Proofs.YtkdlegfakefjgaaGreatDoor.Ix

/-
  Ca6: contracts of the exported functions of the package control for stops: Braked, Peak, Stop, Safe, Begin.
-/
namespace Go.Proofs.YtkdlegfakefjgaaGreatDoor.Ix
open Go.Proofs
set_option maxRecDepth 100000
set_option linter.unusedVariables false
set_option linter.unusedSimpArgs false
variable {gl : Nat → IV}

def Sta.zero : Sta := ⟨ByteArray.empty, 0, 0, 0, 0, 0, 0⟩

def Sta.err0 (s : Sta) (m : Mc) (stuck : Int) : Int := orL [s.err m, withinS stuck (-1) 2]

def Sta.peakR (s : Sta) (m : Mc) (stuck : Int) (n : Nat) : IV := bif s.err0 m stuck != 0 then .tup [.int .i64 0, .int .i64 0, .int .i64 (s.err0 m stuck)] else .tup [.int .i64 (s.most m stuck n), .int .i64 n, .int .i64 0]

theorem err0_ok {s : Sta} {m : Mc} {stuck : Int} (h : s.err0 m stuck = 0) : s.err m = 0 ∧ -1 ≤ stuck ∧ stuck ≤ 2 := by
  unfold Sta.err0 orL orL orL at h
  rw [orE_zero, orE_zero, withinS_zero] at h
  exact ⟨h.1, h.2.1.1, h.2.1.2⟩

theorem c_Peak (up : List Ces) (s : Sta) (m : Mc) (stuck : Int) (n : Nat) (hn : s.err0 m stuck = 0 → s.takes m stuck n ∧ n ≤ 1000000) : Cs gl n_control_Peak up [m.iv, s.iv, .int .i64 stuck] (s.peakR m stuck n) up := by
  refine mk h_control_Peak rfl rfl ?_
  unfold Sta.peakR
  by_cases h0 : s.err0 m stuck = 0
  · obtain ⟨g1, g2, g3⟩ := err0_ok h0
    have hp := fun up => c_peak (gl := gl) up s m stuck g2 g3 n (hn h0).1 (hn h0).2
    have q : (s.err0 m stuck != 0) = false := by simpa using h0
    rw [q]
    conv => whnf
    repeat first
      | (refine DRAW.seek ?_; repeat (first | refine TRYD.take ?_ | refine TRYD.next ?_); conv => whnf)
      | (refine HOLD.mk (by first | exact trivial | exact ⟨⟨rfl, rfl⟩, trivial⟩ | exact ⟨⟨rfl, rfl⟩, ⟨rfl, rfl⟩, trivial⟩) ?_; (conv => whnf))
      | (refine CALL0.by (c_CheckState ..) rfl ?_; conv => whnf)
      | (refine CALLQ.mk _ _ _ (leL_refl _) (c_CheckState ..) rfl ?_; conv => whnf)
      | (refine CALL0.by (c_checkBlade ..) rfl ?_; conv => whnf)
      | (refine CALLQ.mk _ _ _ (leL_refl _) (c_checkBlade ..) rfl ?_; conv => whnf)
    refine .mk _ _ _ _ _ (leL_refl _) (c_f2 _ _ _ _ rfl rfl) rfl ?_
    conv => whnf
    split
    · rename_i h
      exact Bool.noConfusion ((q).symm.trans h)
    rename_i hN
    clear hN
    conv => whnf
    repeat first
      | (refine DRAW.seek ?_; repeat (first | refine TRYD.take ?_ | refine TRYD.next ?_); conv => whnf)
      | (refine HOLD.mk (by first | exact trivial | exact ⟨⟨rfl, rfl⟩, trivial⟩ | exact ⟨⟨rfl, rfl⟩, ⟨rfl, rfl⟩, trivial⟩) ?_; (conv => whnf))
      | (refine CALL0.by (hp ..) rfl ?_; conv => whnf)
      | (refine CALLQ.mk _ _ _ (leL_refl _) (hp ..) rfl ?_; conv => whnf)
    exact ⟨rfl, rfl⟩
  · have q : (s.err0 m stuck != 0) = true := by simpa using h0
    rw [q]
    conv => whnf
    repeat first
      | (refine DRAW.seek ?_; repeat (first | refine TRYD.take ?_ | refine TRYD.next ?_); conv => whnf)
      | (refine HOLD.mk (by first | exact trivial | exact ⟨⟨rfl, rfl⟩, trivial⟩ | exact ⟨⟨rfl, rfl⟩, ⟨rfl, rfl⟩, trivial⟩) ?_; (conv => whnf))
      | (refine CALL0.by (c_CheckState ..) rfl ?_; conv => whnf)
      | (refine CALLQ.mk _ _ _ (leL_refl _) (c_CheckState ..) rfl ?_; conv => whnf)
      | (refine CALL0.by (c_checkBlade ..) rfl ?_; conv => whnf)
      | (refine CALLQ.mk _ _ _ (leL_refl _) (c_checkBlade ..) rfl ?_; conv => whnf)
    refine .mk _ _ _ _ _ (leL_refl _) (c_f2 _ _ _ _ rfl rfl) rfl ?_
    conv => whnf
    split
    rotate_left
    · rename_i h
      exact Bool.noConfusion ((q).symm.trans h)
    rename_i hN
    clear hN
    conv => whnf
    exact ⟨rfl, rfl⟩

def Sta.StopR (s : Sta) (m : Mc) (stuck : Int) (n : Nat) : IV := bif s.err0 m stuck != 0 then .tup [.nilS, .int .i64 (s.err0 m stuck)] else
  bif decide (s.most m stuck n > m.lim) then .tup [.nilS, .int .i64 4] else .tup [.lst (some 25) 7 (1 + n) (s.stopF m stuck), .int .i64 0]

theorem c_Stop (up : List Ces) (s : Sta) (m : Mc) (stuck : Int) (n : Nat) (hn : s.err0 m stuck = 0 → s.takes m stuck n ∧ n ≤ 1000000) : Cs gl n_control_Stop up [m.iv, s.iv, .int .i64 stuck] (s.StopR m stuck n) up := by
  refine mk h_control_Stop rfl rfl ?_
  unfold Sta.StopR
  by_cases h0 : s.err0 m stuck = 0
  · obtain ⟨g1, g2, g3⟩ := err0_ok h0
    have hp := fun up => c_stop (gl := gl) up s m stuck g2 g3 n (hn h0).1 (hn h0).2
    unfold Sta.stopR at hp
    have q : (s.err0 m stuck != 0) = false := by simpa using h0
    rw [q]
    cases q2 : decide (s.most m stuck n > m.lim) with
    | true =>
      rw [q2] at hp
      conv => whnf
      repeat first
        | (refine DRAW.seek ?_; repeat (first | refine TRYD.take ?_ | refine TRYD.next ?_); conv => whnf)
        | (refine HOLD.mk (by first | exact trivial | exact ⟨⟨rfl, rfl⟩, trivial⟩ | exact ⟨⟨rfl, rfl⟩, ⟨rfl, rfl⟩, trivial⟩) ?_; (conv => whnf))
        | (refine CALL0.by (c_CheckState ..) rfl ?_; conv => whnf)
        | (refine CALLQ.mk _ _ _ (leL_refl _) (c_CheckState ..) rfl ?_; conv => whnf)
        | (refine CALL0.by (c_checkBlade ..) rfl ?_; conv => whnf)
        | (refine CALLQ.mk _ _ _ (leL_refl _) (c_checkBlade ..) rfl ?_; conv => whnf)
      refine .mk _ _ _ _ _ (leL_refl _) (c_f2 _ _ _ _ rfl rfl) rfl ?_
      conv => whnf
      split
      · rename_i h
        exact Bool.noConfusion ((q).symm.trans h)
      rename_i hN
      clear hN
      conv => whnf
      repeat first
        | (refine DRAW.seek ?_; repeat (first | refine TRYD.take ?_ | refine TRYD.next ?_); conv => whnf)
        | (refine HOLD.mk (by first | exact trivial | exact ⟨⟨rfl, rfl⟩, trivial⟩ | exact ⟨⟨rfl, rfl⟩, ⟨rfl, rfl⟩, trivial⟩) ?_; (conv => whnf))
        | (refine CALL0.by (hp ..) rfl ?_; conv => whnf)
        | (refine CALLQ.mk _ _ _ (leL_refl _) (hp ..) rfl ?_; conv => whnf)
        | (refine CALL0.by (c_when ..) rfl ?_; conv => whnf)
        | (refine CALLQ.mk _ _ _ (leL_refl _) (c_when ..) rfl ?_; conv => whnf)
      exact ⟨rfl, rfl⟩
    | false =>
      rw [q2] at hp
      conv => whnf
      repeat first
        | (refine DRAW.seek ?_; repeat (first | refine TRYD.take ?_ | refine TRYD.next ?_); conv => whnf)
        | (refine HOLD.mk (by first | exact trivial | exact ⟨⟨rfl, rfl⟩, trivial⟩ | exact ⟨⟨rfl, rfl⟩, ⟨rfl, rfl⟩, trivial⟩) ?_; (conv => whnf))
        | (refine CALL0.by (c_CheckState ..) rfl ?_; conv => whnf)
        | (refine CALLQ.mk _ _ _ (leL_refl _) (c_CheckState ..) rfl ?_; conv => whnf)
        | (refine CALL0.by (c_checkBlade ..) rfl ?_; conv => whnf)
        | (refine CALLQ.mk _ _ _ (leL_refl _) (c_checkBlade ..) rfl ?_; conv => whnf)
      refine .mk _ _ _ _ _ (leL_refl _) (c_f2 _ _ _ _ rfl rfl) rfl ?_
      conv => whnf
      split
      · rename_i h
        exact Bool.noConfusion ((q).symm.trans h)
      rename_i hN
      clear hN
      conv => whnf
      repeat first
        | (refine DRAW.seek ?_; repeat (first | refine TRYD.take ?_ | refine TRYD.next ?_); conv => whnf)
        | (refine HOLD.mk (by first | exact trivial | exact ⟨⟨rfl, rfl⟩, trivial⟩ | exact ⟨⟨rfl, rfl⟩, ⟨rfl, rfl⟩, trivial⟩) ?_; (conv => whnf))
        | (refine CALL0.by (hp ..) rfl ?_; conv => whnf)
        | (refine CALLQ.mk _ _ _ (leL_refl _) (hp ..) rfl ?_; conv => whnf)
        | (refine CALL0.by (c_when ..) rfl ?_; conv => whnf)
        | (refine CALLQ.mk _ _ _ (leL_refl _) (c_when ..) rfl ?_; conv => whnf)
      exact ⟨rfl, rfl⟩
  · have q : (s.err0 m stuck != 0) = true := by simpa using h0
    rw [q]
    conv => whnf
    repeat first
      | (refine DRAW.seek ?_; repeat (first | refine TRYD.take ?_ | refine TRYD.next ?_); conv => whnf)
      | (refine HOLD.mk (by first | exact trivial | exact ⟨⟨rfl, rfl⟩, trivial⟩ | exact ⟨⟨rfl, rfl⟩, ⟨rfl, rfl⟩, trivial⟩) ?_; (conv => whnf))
      | (refine CALL0.by (c_CheckState ..) rfl ?_; conv => whnf)
      | (refine CALLQ.mk _ _ _ (leL_refl _) (c_CheckState ..) rfl ?_; conv => whnf)
      | (refine CALL0.by (c_checkBlade ..) rfl ?_; conv => whnf)
      | (refine CALLQ.mk _ _ _ (leL_refl _) (c_checkBlade ..) rfl ?_; conv => whnf)
    refine .mk _ _ _ _ _ (leL_refl _) (c_f2 _ _ _ _ rfl rfl) rfl ?_
    conv => whnf
    split
    rotate_left
    · rename_i h
      exact Bool.noConfusion ((q).symm.trans h)
    rename_i hN
    clear hN
    conv => whnf
    exact ⟨rfl, rfl⟩

end Go.Proofs.YtkdlegfakefjgaaGreatDoor.Ix

/-
  Ca7: contracts of the functions of the package control, the seventh part: the kinds of acts, the errors of acts, what is behind an act.
-/
namespace Go.Proofs.YtkdlegfakefjgaaGreatDoor.Ix
open Go.Proofs
set_option maxRecDepth 100000
set_option linter.unusedVariables false
set_option linter.unusedSimpArgs false
variable {gl : Nat → IV}

def sBrake : ByteArray := ⟨#[98, 114, 97, 107, 101]⟩
def sRepair : ByteArray := ⟨#[114, 101, 112, 97, 105, 114]⟩
def sRest : ByteArray := ⟨#[114, 101, 115, 116]⟩
def sStart : ByteArray := ⟨#[115, 116, 97, 114, 116]⟩
def sTick : ByteArray := ⟨#[116, 105, 99, 107]⟩

def kindsL : List ByteArray := [sBrake, sRepair, sRest, sStart, sStop, sTick]
def kindsI : IV := .vptr 6 1 (fun _ => [.str sBrake, .str sRepair, .str sRest, .str sStart, .str sStop, .str sTick]) 0 0

abbrev eqS (a b : ByteArray) : Bool := a.toList == b.toList
theorem eqS_iff {a b : ByteArray} : eqS a b = true ↔ a = b := by
  unfold eqS
  rw [beq_iff_eq, Lib.toList_data, Lib.toList_data]
  constructor
  · intro h
    obtain ⟨x⟩ := a
    obtain ⟨y⟩ := b
    have : x = y := by simpa using h
    rw [this]
  · intro h; rw [h]
theorem eqS_beq (a b : ByteArray) : (a == b) = eqS a b := by
  rw [Bool.eq_iff_iff, eqS_iff, MapKept.bytes_beq]

/-- Where a string is in a list. -/
def idxS (x : ByteArray) : List ByteArray → Int → Int
  | [], _ => -1
  | k :: r, i => bif eqS x k then i else idxS x r (i + 1)

theorem idxS_drop (x : ByteArray) (l : List ByteArray) (k : Nat) (hk : k < l.length) : idxS x (l.drop k) k = bif eqS x (l.getD k ByteArray.empty) then (k : Int) else idxS x (l.drop (k + 1)) ((k + 1 : Nat) : Int) := by
  rw [List.drop_eq_getElem_cons hk, show l.getD k ByteArray.empty = l[k] by simp [List.getD, hk]]
  rfl

theorem c_Index (up : List Ces) (l : List ByteArray) (hl : l.length ≤ 1000000) (x : ByteArray) :
    Cs gl n_slices_Index_string_string up [.lst none 1 l.length fun i => [.str (l.getD i ByteArray.empty)], .str x] (.int .i64 (idxS x l 0)) up := by
  refine mk h_slices_Index_string_string rfl rfl ?_
  conv => whnf
  refine .mk (α := {i : Nat // i ≤ l.length ∧ idxS x l 0 = idxS x (l.drop i) i}) (fun i => ⟨[(8, .int .i64 i.1), (7, .int .i64 l.length), (0, .lst none 1 l.length fun i => [.str (l.getD i ByteArray.empty)]), (1, .str x)], [], up⟩) (fun i => l.length - i.1) ⟨0, Nat.zero_le _, rfl⟩ ⟨?_, trivial, rfl, rfl⟩ ?_
  · exact ⟨leV_refl _, leV_refl _, leV_refl _, leV_refl _, trivial⟩
  rintro ⟨i, hi, he⟩
  have hw : w64 ((i : Int) + 1) = ((i + 1 : Nat) : Int) := by rw [w64, wrap_in] <;> omega
  by_cases hlt : i < l.length
  · have q : decide ((i : Int) < l.length) = true := decide_eq_true (by omega)
    have hd := idxS_drop x l i hlt
    cases q2 : eqS x (l.getD i ByteArray.empty) with
    | true =>
      rw [q2, cond_true] at hd
      conv => whnf
      split
      rotate_left
      · rename_i h
        exact Bool.noConfusion ((q).symm.trans h)
      rename_i hN
      clear hN
      conv => whnf
      split
      rotate_left
      · rename_i h
        exact Bool.noConfusion ((q).symm.trans h)
      rename_i hN
      clear hN
      conv => whnf
      split
      rotate_left
      · rename_i h
        exact Bool.noConfusion ((q2).symm.trans h)
      rename_i hN
      clear hN
      conv => whnf
      exact ⟨congrArg (IV.int .i64) (he.trans hd).symm, rfl⟩
    | false =>
      rw [q2, cond_false] at hd
      conv => whnf
      split
      rotate_left
      · rename_i h
        exact Bool.noConfusion ((q).symm.trans h)
      rename_i hN
      clear hN
      conv => whnf
      split
      rotate_left
      · rename_i h
        exact Bool.noConfusion ((q).symm.trans h)
      rename_i hN
      clear hN
      conv => whnf
      split
      · rename_i h
        exact Bool.noConfusion ((q2).symm.trans h)
      rename_i hN
      clear hN
      conv => whnf
      exact ⟨⟨i + 1, hlt, he.trans hd⟩, ⟨⟨leV_int hw, leV_refl _, leV_refl _, leV_refl _, trivial⟩, trivial, rfl, rfl⟩, (by show l.length - (i + 1) < l.length - i; omega)⟩
  · have q : decide ((i : Int) < l.length) = false := decide_eq_false (by omega)
    have : i = l.length := by omega
    subst this
    conv => whnf
    split
    · rename_i h
      exact Bool.noConfusion ((q).symm.trans h)
    rename_i hN
    clear hN
    conv => whnf
    refine ⟨congrArg (IV.int .i64) (Eq.symm (he.trans ?_)), rfl⟩
    rw [List.drop_length]; rfl

theorem c_Contains (up : List Ces) (l : List ByteArray) (hl : l.length ≤ 1000000) (x : ByteArray) :
    Cs gl n_slices_Contains_string_string up [.lst none 1 l.length fun i => [.str (l.getD i ByteArray.empty)], .str x] (.bool (decide (idxS x l 0 ≥ 0))) up := by
  refine mk h_slices_Contains_string_string rfl rfl ?_
  conv => whnf
  refine .mk _ _ _ _ _ (leL_refl _) (c_Index _ l hl x) rfl ?_
  conv => whnf
  exact ⟨rfl, rfl⟩

theorem c_Contains6 (up : List Ces) (x : ByteArray) (f : Nat → List IV) (h : ∀ i, i < 6 → f i = [.str (kindsL.getD i ByteArray.empty)]) :
    Cs gl n_slices_Contains_string_string up [.lst none 1 6 f, .str x] (.bool (decide (idxS x kindsL 0 ≥ 0))) up :=
  Comp.le (show leL [.lst none 1 6 f, .str x] [.lst none 1 6 fun i => [.str (kindsL.getD i ByteArray.empty)], .str x] from ⟨⟨.inl rfl, rfl, rfl, fun i hi => h i hi⟩, leV_refl _, trivial⟩) (c_Contains up kindsL (by decide) x)

/-- Has an act the numbers that its kind has? -/
def Ac.formB (a : Ac) : Bool := bif eqS a.kind sTick then true else bif !eqS a.kind sBrake then (a.wind == 0 && (a.pitch == 0 && (a.tor == 0 && a.stuck == -1))) else (a.pitch == 0 && a.tor == 0)


theorem c_formed (up : List Ces) (a : Ac) : Cs gl n_control_Act_formed up [a.iv] (.int .i64 (bif !a.formB then 2 else 0)) up := by
  refine mk h_control_Act_formed rfl rfl ?_
  unfold Ac.formB
  cases q : eqS a.kind sTick with
  | true =>
    conv => whnf
    split
    rotate_left
    · rename_i h
      exact Bool.noConfusion ((q).symm.trans h)
    rename_i hN
    clear hN
    conv => whnf
    exact ⟨rfl, rfl⟩
  | false =>
    cases q2 : (!eqS a.kind sBrake) with
    | true =>
      conv => whnf
      split
      · rename_i h
        exact Bool.noConfusion ((q).symm.trans h)
      rename_i hN
      clear hN
      conv => whnf
      split
      rotate_left
      · rename_i h
        exact Bool.noConfusion ((q2).symm.trans h)
      rename_i hN
      clear hN
      conv => whnf
      refine .mk _ _ _ _ _ (leL_refl _) (c_when _ _ _) rfl ?_
      conv => whnf
      exact ⟨by simp, rfl⟩
    | false =>
      conv => whnf
      split
      · rename_i h
        exact Bool.noConfusion ((q).symm.trans h)
      rename_i hN
      clear hN
      conv => whnf
      split
      · rename_i h
        exact Bool.noConfusion ((q2).symm.trans h)
      rename_i hN
      clear hN
      conv => whnf
      refine .mk _ _ _ _ _ (leL_refl _) (c_when _ _ _) rfl ?_
      conv => whnf
      exact ⟨by simp, rfl⟩

theorem evo_gl {g : Nat} {x : IV} {S : St} {n : Nat} (h : gl g = x) : evo ⟨(Γs gl).P, (Γs gl).T, (Γs gl).gl, n, (Γs gl).vis, none, none⟩ S (.global g) = x := by
  cases S; exact h

def Ac.checkE (a : Ac) (w p t : Int) : Int := orL [bif !decide (idxS a.kind kindsL 0 ≥ 0) then 13 else 0, withinS a.wind 0 w, withinS a.pitch 0 p, withinS a.tor 0 t, withinS a.stuck (-1) 2, bif !a.formB then 2 else 0]

set_option maxHeartbeats 8000000 in
theorem c_check (up : List Ces) (hk : gl g_control_kinds = kindsI) (a : Ac) (w p t : Int) : Cs gl n_control_Act_check up [a.iv, .int .i64 w, .int .i64 p, .int .i64 t] (.int .i64 (a.checkE w p t)) up := by
  refine mk h_control_Act_check rfl rfl ?_
  conv => whnf
  refine DRAW.seek ?_
  repeat (first | refine TRYD.take ?_ | refine TRYD.next ?_)
  conv => whnf
  rw [evo_gl hk]
  conv => whnf
  refine .mk _ _ _ (leL_refl _) (c_Contains6 _ _ _ fun i hi => by
    match i, hi with
    | 0, _ => rfl
    | 1, _ => rfl
    | 2, _ => rfl
    | 3, _ => rfl
    | 4, _ => rfl
    | 5, _ => rfl) rfl ?_
  conv => whnf
  repeat first
    | (refine DRAW.seek ?_; repeat (first | refine TRYD.take ?_ | refine TRYD.next ?_); conv => whnf)
    | (refine HOLD.mk (by first | exact trivial | exact ⟨⟨rfl, rfl⟩, trivial⟩ | exact ⟨⟨rfl, rfl⟩, ⟨rfl, rfl⟩, trivial⟩) ?_; (conv => whnf))
    | (refine CALL0.by (c_when ..) rfl ?_; conv => whnf)
    | (refine CALLQ.mk _ _ _ (leL_refl _) (c_when ..) rfl ?_; conv => whnf)
    | (refine CALL0.by (c_within ..) rfl ?_; conv => whnf)
    | (refine CALLQ.mk _ _ _ (leL_refl _) (c_within ..) rfl ?_; conv => whnf)
    | (refine CALL0.by (c_checkBlade ..) rfl ?_; conv => whnf)
    | (refine CALLQ.mk _ _ _ (leL_refl _) (c_checkBlade ..) rfl ?_; conv => whnf)
    | (refine CALL0.by (c_formed ..) rfl ?_; conv => whnf)
    | (refine CALLQ.mk _ _ _ (leL_refl _) (c_formed ..) rfl ?_; conv => whnf)
  refine .mk _ _ _ _ _ (leL_refl _) (c_f6 _ _ _ _ _ _ _ _ rfl rfl rfl rfl rfl rfl) rfl ?_
  conv => whnf
  exact ⟨rfl, rfl⟩
end Go.Proofs.YtkdlegfakefjgaaGreatDoor.Ix

/-
  Ca8: contracts of the functions of the package control, the eighth part: acts, what is behind them, the rules.
-/
namespace Go.Proofs.YtkdlegfakefjgaaGreatDoor.Ix
open Go.Proofs
set_option maxRecDepth 100000
set_option linter.unusedVariables false
set_option linter.unusedSimpArgs false
variable {gl : Nat → IV}

def Ac.err (a : Ac) (m : Mc) : Int := orL [m.err, a.checkE m.wind m.fea m.tor]

theorem c_CheckAct (up : List Ces) (hk : gl g_control_kinds = kindsI) (m : Mc) (a : Ac) : Cs gl n_control_CheckAct up [m.iv, a.iv] (.int .i64 (a.err m)) up := by
  refine mk h_control_CheckAct rfl rfl ?_
  have hc := fun up => c_check (gl := gl) up hk a m.wind m.fea m.tor
  conv => whnf
  repeat first
    | (refine DRAW.seek ?_; repeat (first | refine TRYD.take ?_ | refine TRYD.next ?_); conv => whnf)
    | (refine HOLD.mk (by first | exact trivial | exact ⟨⟨rfl, rfl⟩, trivial⟩ | exact ⟨⟨rfl, rfl⟩, ⟨rfl, rfl⟩, trivial⟩) ?_; (conv => whnf))
    | (refine CALL0.by (c_CheckMachine ..) rfl ?_; conv => whnf)
    | (refine CALLQ.mk _ _ _ (leL_refl _) (c_CheckMachine ..) rfl ?_; conv => whnf)
    | (refine CALL0.by (hc ..) rfl ?_; conv => whnf)
    | (refine CALLQ.mk _ _ _ (leL_refl _) (hc ..) rfl ?_; conv => whnf)
  refine .mk _ _ _ _ _ (leL_refl _) (c_f2 _ _ _ _ rfl rfl) rfl ?_
  conv => whnf
  exact ⟨rfl, rfl⟩

theorem c_plain (up : List Ces) (k : ByteArray) : Cs gl n_control_plain up [.str k] (Ac.mk k 0 0 0 (-1)).iv up := by
  refine mk h_control_plain rfl rfl ?_
  conv => whnf
  exact ⟨rfl, rfl⟩

/-- The state behind an act. -/
def Sta.behindW (s : Sta) (m : Mc) (a : Ac) : Sta :=
  bif eqS a.kind sStart then { s with mode := sRun } else
  bif eqS a.kind sTick then Sta.laterW { s.movedW m a.pitch a.stuck with tor := a.tor } a.wind else
  bif eqS a.kind sStop then { s with mode := sStop, tor := 0 } else
  bif eqS a.kind sBrake then s.brakedW m a.wind a.stuck else
  bif eqS a.kind sRest then { s with mode := sIdle } else
  bif eqS a.kind sRepair then { s with p0 := m.fea, p1 := m.fea, p2 := m.fea, stuck := -1 } else s

set_option maxHeartbeats 8000000 in
theorem c_behind (up : List Ces) (m : Mc) (s : Sta) (a : Ac) : Cs gl n_control_State_behind up [s.iv, m.iv, a.iv] (s.behindW m a).iv up := by
  refine mk h_control_State_behind rfl rfl ?_
  unfold Sta.behindW
  cases q1 : eqS a.kind sStart with
  | true =>
    conv => whnf
    split
    rotate_left
    · rename_i h
      exact Bool.noConfusion ((q1).symm.trans h)
    rename_i hN
    clear hN
    conv => whnf
    exact ⟨rfl, rfl⟩
  | false =>
  cases q2 : eqS a.kind sTick with
  | true =>
    conv => whnf
    split
    · rename_i h
      exact Bool.noConfusion ((q1).symm.trans h)
    rename_i hN
    clear hN
    conv => whnf
    split
    rotate_left
    · rename_i h
      exact Bool.noConfusion ((q2).symm.trans h)
    rename_i hN
    clear hN
    conv => whnf
    refine .mk _ _ _ _ _ (leL_refl _) (c_moved _ m s _ _) rfl ?_
    conv => whnf
    refine .mk _ _ _ _ _ (leL_refl _) (c_later _ { s.movedW m a.pitch a.stuck with tor := a.tor } _) rfl ?_
    conv => whnf
    exact ⟨rfl, rfl⟩
  | false =>
  cases q3 : eqS a.kind sStop with
  | true =>
    conv => whnf
    split
    · rename_i h
      exact Bool.noConfusion ((q1).symm.trans h)
    rename_i hN
    clear hN
    conv => whnf
    split
    · rename_i h
      exact Bool.noConfusion ((q2).symm.trans h)
    rename_i hN
    clear hN
    conv => whnf
    split
    rotate_left
    · rename_i h
      exact Bool.noConfusion ((q3).symm.trans h)
    rename_i hN
    clear hN
    conv => whnf
    exact ⟨rfl, rfl⟩
  | false =>
  cases q4 : eqS a.kind sBrake with
  | true =>
    conv => whnf
    split
    · rename_i h
      exact Bool.noConfusion ((q1).symm.trans h)
    rename_i hN
    clear hN
    conv => whnf
    split
    · rename_i h
      exact Bool.noConfusion ((q2).symm.trans h)
    rename_i hN
    clear hN
    conv => whnf
    split
    · rename_i h
      exact Bool.noConfusion ((q3).symm.trans h)
    rename_i hN
    clear hN
    conv => whnf
    split
    rotate_left
    · rename_i h
      exact Bool.noConfusion ((q4).symm.trans h)
    rename_i hN
    clear hN
    conv => whnf
    refine .mk _ _ _ _ _ (leL_refl _) (c_braked _ m s _ _) rfl ?_
    conv => whnf
    exact ⟨rfl, rfl⟩
  | false =>
  cases q5 : eqS a.kind sRest with
  | true =>
    conv => whnf
    split
    · rename_i h
      exact Bool.noConfusion ((q1).symm.trans h)
    rename_i hN
    clear hN
    conv => whnf
    split
    · rename_i h
      exact Bool.noConfusion ((q2).symm.trans h)
    rename_i hN
    clear hN
    conv => whnf
    split
    · rename_i h
      exact Bool.noConfusion ((q3).symm.trans h)
    rename_i hN
    clear hN
    conv => whnf
    split
    · rename_i h
      exact Bool.noConfusion ((q4).symm.trans h)
    rename_i hN
    clear hN
    conv => whnf
    split
    rotate_left
    · rename_i h
      exact Bool.noConfusion ((q5).symm.trans h)
    rename_i hN
    clear hN
    conv => whnf
    exact ⟨rfl, rfl⟩
  | false =>
  cases q6 : eqS a.kind sRepair with
  | true =>
    conv => whnf
    split
    · rename_i h
      exact Bool.noConfusion ((q1).symm.trans h)
    rename_i hN
    clear hN
    conv => whnf
    split
    · rename_i h
      exact Bool.noConfusion ((q2).symm.trans h)
    rename_i hN
    clear hN
    conv => whnf
    split
    · rename_i h
      exact Bool.noConfusion ((q3).symm.trans h)
    rename_i hN
    clear hN
    conv => whnf
    split
    · rename_i h
      exact Bool.noConfusion ((q4).symm.trans h)
    rename_i hN
    clear hN
    conv => whnf
    split
    · rename_i h
      exact Bool.noConfusion ((q5).symm.trans h)
    rename_i hN
    clear hN
    conv => whnf
    split
    rotate_left
    · rename_i h
      exact Bool.noConfusion ((q6).symm.trans h)
    rename_i hN
    clear hN
    conv => whnf
    repeat first
      | (refine DRAW.seek ?_; repeat (first | refine TRYD.take ?_ | refine TRYD.next ?_); conv => whnf)
      | (refine HOLD.mk (by first | exact trivial | exact ⟨⟨rfl, rfl⟩, trivial⟩ | exact ⟨⟨rfl, rfl⟩, ⟨rfl, rfl⟩, trivial⟩) ?_; (conv => whnf))
      | (refine CALL0.by (c_begin ..) rfl ?_; conv => whnf)
      | (refine CALLQ.mk _ _ _ (leL_refl _) (c_begin ..) rfl ?_; conv => whnf)
    exact ⟨rfl, rfl⟩
  | false =>
    conv => whnf
    split
    · rename_i h
      exact Bool.noConfusion ((q1).symm.trans h)
    rename_i hN
    clear hN
    conv => whnf
    split
    · rename_i h
      exact Bool.noConfusion ((q2).symm.trans h)
    rename_i hN
    clear hN
    conv => whnf
    split
    · rename_i h
      exact Bool.noConfusion ((q3).symm.trans h)
    rename_i hN
    clear hN
    conv => whnf
    split
    · rename_i h
      exact Bool.noConfusion ((q4).symm.trans h)
    rename_i hN
    clear hN
    conv => whnf
    split
    · rename_i h
      exact Bool.noConfusion ((q5).symm.trans h)
    rename_i hN
    clear hN
    conv => whnf
    split
    · rename_i h
      exact Bool.noConfusion ((q6).symm.trans h)
    rename_i hN
    clear hN
    conv => whnf
    exact ⟨rfl, rfl⟩

theorem c_mode (up : List Ces) (k : ByteArray) : Cs gl n_control_mode up [.str k] (.fn n_control_mode_1 [] [.vptr 1 1 (fun _ => [.str k]) 0 0]) up := by
  refine mk h_control_mode rfl rfl ?_
  conv => whnf
  exact ⟨rfl, rfl⟩

theorem c_mode1 (up : List Ces) (m : Mc) (s : Sta) (a : Ac) (k : ByteArray) : Cs gl n_control_mode_1 up [m.iv, s.iv, a.iv, .vptr 1 1 (fun _ => [.str k]) 0 0] (.bool (!eqS s.mode k)) up := by
  refine mk h_control_mode_1 rfl rfl ?_
  conv => whnf
  exact ⟨rfl, rfl⟩

def Sta.rule4 (s : Sta) (m : Mc) : Bool := (!(s.p0 == m.fea && (s.p1 == m.fea && (s.p2 == m.fea && true)))) || s.stuck != -1
theorem c_rules1 (up : List Ces) (m : Mc) (s : Sta) (a : Ac) : Cs gl n_control_rules_1 up [m.iv, s.iv, a.iv] (.bool (s.rule4 m)) up := by
  refine mk h_control_rules_1 rfl rfl ?_
  unfold Sta.rule4
  cases q : (!(s.p0 == m.fea && (s.p1 == m.fea && (s.p2 == m.fea && true)))) with
  | true =>
    conv => whnf
    repeat first
      | (refine DRAW.seek ?_; repeat (first | refine TRYD.take ?_ | refine TRYD.next ?_); conv => whnf)
      | (refine HOLD.mk (by first | exact trivial | exact ⟨⟨rfl, rfl⟩, trivial⟩ | exact ⟨⟨rfl, rfl⟩, ⟨rfl, rfl⟩, trivial⟩) ?_; (conv => whnf))
      | (refine CALL0.by (c_begin ..) rfl ?_; conv => whnf)
      | (refine CALLQ.mk _ _ _ (leL_refl _) (c_begin ..) rfl ?_; conv => whnf)
    split
    rotate_left
    · rename_i h
      exact Bool.noConfusion ((q).symm.trans h)
    rename_i hN
    clear hN
    conv => whnf
    exact ⟨rfl, rfl⟩
  | false =>
    conv => whnf
    repeat first
      | (refine DRAW.seek ?_; repeat (first | refine TRYD.take ?_ | refine TRYD.next ?_); conv => whnf)
      | (refine HOLD.mk (by first | exact trivial | exact ⟨⟨rfl, rfl⟩, trivial⟩ | exact ⟨⟨rfl, rfl⟩, ⟨rfl, rfl⟩, trivial⟩) ?_; (conv => whnf))
      | (refine CALL0.by (c_begin ..) rfl ?_; conv => whnf)
      | (refine CALLQ.mk _ _ _ (leL_refl _) (c_begin ..) rfl ?_; conv => whnf)
    split
    · rename_i h
      exact Bool.noConfusion ((q).symm.trans h)
    rename_i hN
    clear hN
    conv => whnf
    exact ⟨rfl, rfl⟩

def Sta.rule5 (s : Sta) (m : Mc) : Bool := s.speed != 0 || decide (atA m.fea [s.p0, s.p1, s.p2] < 2)
theorem c_rules2 (up : List Ces) (m : Mc) (s : Sta) (a : Ac) : Cs gl n_control_rules_2 up [m.iv, s.iv, a.iv] (.bool (s.rule5 m)) up := by
  refine mk h_control_rules_2 rfl rfl ?_
  unfold Sta.rule5
  cases q : s.speed != 0 with
  | true =>
    conv => whnf
    split
    rotate_left
    · rename_i h
      exact Bool.noConfusion ((q).symm.trans h)
    rename_i hN
    clear hN
    conv => whnf
    exact ⟨rfl, rfl⟩
  | false =>
    conv => whnf
    split
    · rename_i h
      exact Bool.noConfusion ((q).symm.trans h)
    rename_i hN
    clear hN
    conv => whnf
    repeat first
      | (refine DRAW.seek ?_; repeat (first | refine TRYD.take ?_ | refine TRYD.next ?_); conv => whnf)
      | (refine HOLD.mk (by first | exact trivial | exact ⟨⟨rfl, rfl⟩, trivial⟩ | exact ⟨⟨rfl, rfl⟩, ⟨rfl, rfl⟩, trivial⟩) ?_; (conv => whnf))
      | (refine CALL0.by (c_feathered ..) rfl ?_; conv => whnf)
      | (refine CALLQ.mk _ _ _ (leL_refl _) (c_feathered ..) rfl ?_; conv => whnf)
    exact ⟨rfl, rfl⟩

def Sta.rule6 (s : Sta) (a : Ac) : Bool := a.stuck != -1 && (s.stuck != -1 && a.stuck != s.stuck)
theorem c_rules3 (up : List Ces) (m : Mc) (s : Sta) (a : Ac) : Cs gl n_control_rules_3 up [m.iv, s.iv, a.iv] (.bool (s.rule6 a)) up := by
  refine mk h_control_rules_3 rfl rfl ?_
  unfold Sta.rule6
  cases q : a.stuck != -1 with
  | false =>
    conv => whnf
    split
    · rename_i h
      exact Bool.noConfusion ((q).symm.trans h)
    rename_i hN
    clear hN
    conv => whnf
    exact ⟨rfl, rfl⟩
  | true =>
    cases q2 : s.stuck != -1 with
    | false =>
      conv => whnf
      split
      rotate_left
      · rename_i h
        exact Bool.noConfusion ((q).symm.trans h)
      rename_i hN
      clear hN
      conv => whnf
      split
      · rename_i h
        exact Bool.noConfusion ((q2).symm.trans h)
      rename_i hN
      clear hN
      conv => whnf
      exact ⟨rfl, rfl⟩
    | true =>
      conv => whnf
      split
      rotate_left
      · rename_i h
        exact Bool.noConfusion ((q).symm.trans h)
      rename_i hN
      clear hN
      conv => whnf
      split
      rotate_left
      · rename_i h
        exact Bool.noConfusion ((q2).symm.trans h)
      rename_i hN
      clear hN
      conv => whnf
      exact ⟨rfl, rfl⟩

/-- The seventh rule; 'N' tells how long the stops from the state behind take. -/
def Sta.rule7 (s : Sta) (m : Mc) (a : Ac) (N : Nat → Nat) : Bool := decide ((s.behindW m a).speed > m.lim) || (eqS a.kind sTick && !(s.behindW m a).safeB m N)
theorem c_rules4 (up : List Ces) (m : Mc) (s : Sta) (a : Ac) (N : Nat → Nat) (hn : eqS a.kind sTick = true → (s.behindW m a).speed ≤ m.lim → ∀ k, k < 3 → (s.behindW m a).takes m (k : Nat) (N k) ∧ N k ≤ 1000000) :
    Cs gl n_control_rules_4 up [m.iv, s.iv, a.iv] (.bool (s.rule7 m a N)) up := by
  refine mk h_control_rules_4 rfl rfl ?_
  unfold Sta.rule7
  cases q : decide ((s.behindW m a).speed > m.lim) with
  | true =>
    conv => whnf
    repeat first
      | (refine DRAW.seek ?_; repeat (first | refine TRYD.take ?_ | refine TRYD.next ?_); conv => whnf)
      | (refine HOLD.mk (by first | exact trivial | exact ⟨⟨rfl, rfl⟩, trivial⟩ | exact ⟨⟨rfl, rfl⟩, ⟨rfl, rfl⟩, trivial⟩) ?_; (conv => whnf))
      | (refine CALL0.by (c_behind ..) rfl ?_; conv => whnf)
      | (refine CALLQ.mk _ _ _ (leL_refl _) (c_behind ..) rfl ?_; conv => whnf)
    split
    rotate_left
    · rename_i h
      exact Bool.noConfusion ((q).symm.trans h)
    rename_i hN
    clear hN
    conv => whnf
    exact ⟨rfl, rfl⟩
  | false =>
    cases q2 : eqS a.kind sTick with
    | false =>
      conv => whnf
      repeat first
        | (refine DRAW.seek ?_; repeat (first | refine TRYD.take ?_ | refine TRYD.next ?_); conv => whnf)
        | (refine HOLD.mk (by first | exact trivial | exact ⟨⟨rfl, rfl⟩, trivial⟩ | exact ⟨⟨rfl, rfl⟩, ⟨rfl, rfl⟩, trivial⟩) ?_; (conv => whnf))
        | (refine CALL0.by (c_behind ..) rfl ?_; conv => whnf)
        | (refine CALLQ.mk _ _ _ (leL_refl _) (c_behind ..) rfl ?_; conv => whnf)
      split
      · rename_i h
        exact Bool.noConfusion ((q).symm.trans h)
      rename_i hN
      clear hN
      conv => whnf
      split
      · rename_i h
        exact Bool.noConfusion ((q2).symm.trans h)
      rename_i hN
      clear hN
      conv => whnf
      exact ⟨rfl, rfl⟩
    | true =>
      have hs := fun up => c_safe (gl := gl) up (s.behindW m a) m N (hn q2 (by have := of_decide_eq_false q; omega))
      conv => whnf
      repeat first
        | (refine DRAW.seek ?_; repeat (first | refine TRYD.take ?_ | refine TRYD.next ?_); conv => whnf)
        | (refine HOLD.mk (by first | exact trivial | exact ⟨⟨rfl, rfl⟩, trivial⟩ | exact ⟨⟨rfl, rfl⟩, ⟨rfl, rfl⟩, trivial⟩) ?_; (conv => whnf))
        | (refine CALL0.by (c_behind ..) rfl ?_; conv => whnf)
        | (refine CALLQ.mk _ _ _ (leL_refl _) (c_behind ..) rfl ?_; conv => whnf)
      split
      · rename_i h
        exact Bool.noConfusion ((q).symm.trans h)
      rename_i hN
      clear hN
      conv => whnf
      split
      rotate_left
      · rename_i h
        exact Bool.noConfusion ((q2).symm.trans h)
      rename_i hN
      clear hN
      conv => whnf
      repeat first
        | (refine DRAW.seek ?_; repeat (first | refine TRYD.take ?_ | refine TRYD.next ?_); conv => whnf)
        | (refine HOLD.mk (by first | exact trivial | exact ⟨⟨rfl, rfl⟩, trivial⟩ | exact ⟨⟨rfl, rfl⟩, ⟨rfl, rfl⟩, trivial⟩) ?_; (conv => whnf))
        | (refine CALL0.by (hs ..) rfl ?_; conv => whnf)
        | (refine CALLQ.mk _ _ _ (leL_refl _) (hs ..) rfl ?_; conv => whnf)
      exact ⟨rfl, rfl⟩
end Go.Proofs.YtkdlegfakefjgaaGreatDoor.Ix

/-
  Ca9: contracts of the functions of the package control, the ninth part: the rule that forbids an act.
-/
namespace Go.Proofs.YtkdlegfakefjgaaGreatDoor.Ix
open Go.Proofs
set_option maxRecDepth 100000
set_option linter.unusedVariables false
set_option linter.unusedSimpArgs false
variable {gl : Nat → IV}

def rulesI : IV := .agg [.str sStart, .str sRepair, .fn n_control_mode_1 [] [.vptr 1 1 (fun _ => [.str sIdle]) 0 0], .str sTick, .str sStop, .fn n_control_mode_1 [] [.vptr 1 1 (fun _ => [.str sRun]) 0 0], .str sBrake, .str sRest, .fn n_control_mode_1 [] [.vptr 1 1 (fun _ => [.str sStop]) 0 0], .str sStart, .str ByteArray.empty, .fn n_control_rules_1 [] [], .str sRest, .str ByteArray.empty, .fn n_control_rules_2 [] [], .str sTick, .str sBrake, .fn n_control_rules_3 [] [], .str sTick, .str sBrake, .fn n_control_rules_4 [] []]

theorem c_rules (up : List Ces) : Cs gl n_control_rules up [] rulesI up := by
  refine mk h_control_rules rfl rfl ?_
  conv => whnf
  repeat first
    | (refine DRAW.seek ?_; repeat (first | refine TRYD.take ?_ | refine TRYD.next ?_); conv => whnf)
    | (refine HOLD.mk (by first | exact trivial | exact ⟨⟨rfl, rfl⟩, trivial⟩ | exact ⟨⟨rfl, rfl⟩, ⟨rfl, rfl⟩, trivial⟩) ?_; (conv => whnf))
    | (refine CALL0.by (c_mode ..) rfl ?_; conv => whnf)
    | (refine CALLQ.mk _ _ _ (leL_refl _) (c_mode ..) rfl ?_; conv => whnf)
  exact ⟨rfl, rfl⟩

/-- Is it one of the two kinds? -/
def inK (x k l : ByteArray) : Bool := decide (idxS x [k, l] 0 ≥ 0)
theorem c_Contains2 (up : List Ces) (x k l : ByteArray) (f : Nat → List IV) (h0 : f 0 = [.str k]) (h1 : f 1 = [.str l]) :
    Cs gl n_slices_Contains_string_string up [.lst none 1 2 f, .str x] (.bool (inK x k l)) up :=
  Comp.le (show leL [.lst none 1 2 f, .str x] [.lst none 1 2 fun i => [.str ([k, l].getD i ByteArray.empty)], .str x] from ⟨⟨.inl rfl, rfl, rfl, fun i hi => by
    match i, hi with
    | 0, _ => exact h0
    | 1, _ => exact h1⟩, leV_refl _, trivial⟩) (c_Contains up [k, l] (by simp) x)

def Sta.ruleB (s : Sta) (m : Mc) (a : Ac) (N : Nat → Nat) : Nat → Bool
  | 0 => inK a.kind sStart sRepair && (!eqS s.mode sIdle)
  | 1 => inK a.kind sTick sStop && (!eqS s.mode sRun)
  | 2 => inK a.kind sBrake sRest && (!eqS s.mode sStop)
  | 3 => inK a.kind sStart ByteArray.empty && s.rule4 m
  | 4 => inK a.kind sRest ByteArray.empty && s.rule5 m
  | 5 => inK a.kind sTick sBrake && s.rule6 a
  | 6 => inK a.kind sTick sBrake && s.rule7 m a N
  | _ => false
/-- The first that holds. -/
def firstT (f : Nat → Bool) : Nat → Nat → Int
  | 0, _ => 0
  | n + 1, i => bif f i then ((i + 1 : Nat) : Int) else firstT f n (i + 1)
/-- The number of the rule that forbids an act, or 0. -/
def Sta.allowedW (s : Sta) (m : Mc) (a : Ac) (N : Nat → Nat) : Int := firstT (s.ruleB m a N) 7 0

theorem firstT_yes {f : Nat → Bool} {n i : Nat} (h : f i = true) : firstT f (n + 1) i = ((i + 1 : Nat) : Int) := by simp only [firstT, h]; rfl
theorem firstT_no {f : Nat → Bool} {n i : Nat} (h : f i = false) : firstT f (n + 1) i = firstT f n (i + 1) := by simp only [firstT, h]; rfl

set_option maxHeartbeats 16000000 in
theorem c_allowed (up : List Ces) (m : Mc) (s : Sta) (a : Ac) (N : Nat → Nat) (hn : eqS a.kind sTick = true → (s.behindW m a).speed ≤ m.lim → ∀ k, k < 3 → (s.behindW m a).takes m (k : Nat) (N k) ∧ N k ≤ 1000000) :
    Cs gl n_control_State_allowed up [s.iv, m.iv, a.iv] (.int .i64 (s.allowedW m a N)) up := by
  refine mk h_control_State_allowed rfl rfl ?_
  conv => whnf
  repeat first
    | (refine DRAW.seek ?_; repeat (first | refine TRYD.take ?_ | refine TRYD.next ?_); conv => whnf)
    | (refine HOLD.mk (by first | exact trivial | exact ⟨⟨rfl, rfl⟩, trivial⟩ | exact ⟨⟨rfl, rfl⟩, ⟨rfl, rfl⟩, trivial⟩) ?_; (conv => whnf))
    | (refine CALL0.by (c_rules ..) rfl ?_; conv => whnf)
    | (refine CALLQ.mk _ _ _ (leL_refl _) (c_rules ..) rfl ?_; conv => whnf)
  refine .mk (α := {k : Nat // k ≤ 7 ∧ s.allowedW m a N = firstT (s.ruleB m a N) (7 - k) k}) (fun k => ⟨[(11, .int .i64 k.1), (10, rulesI), (7, .int .i64 0), (3, .ptr 0 3 0), (4, .ptr 0 4 0), (5, .ptr 0 5 0)],
    [(5, [.str a.kind, .int .i64 a.wind, .int .i64 a.pitch, .int .i64 a.tor, .int .i64 a.stuck]), (4, m.cs), (3, s.cs)], up⟩) (fun k => 7 - k.1) ⟨0, Nat.zero_le _, rfl⟩ ⟨?_, ?_, rfl, rfl⟩ ?_
  · exact ⟨leV_refl _, leV_refl _, leV_refl _, leV_refl _, leV_refl _, leV_refl _, trivial⟩
  · exact ⟨leL_refl _, leL_refl _, leL_refl _, trivial⟩
  rintro ⟨k, hk, hf⟩
  obtain rfl | rfl | rfl | rfl | rfl | rfl | rfl | rfl : k = 0 ∨ k = 1 ∨ k = 2 ∨ k = 3 ∨ k = 4 ∨ k = 5 ∨ k = 6 ∨ k = 7 := by omega
  · cases q : inK a.kind sStart sRepair with
    | false =>
      have hr : s.ruleB m a N 0 = false := by
        show (inK a.kind sStart sRepair && _) = false
        rw [q]; rfl
      conv => whnf
      refine DRAW.mkS 9 _ rfl rfl 12 (by decide +kernel) ?_
      conv => whnf
      refine .mk _ _ _ (leL_refl _) (c_Contains2 _ a.kind sStart sRepair _ rfl rfl) rfl ?_
      conv => whnf
      split
      · rename_i h
        exact Bool.noConfusion ((q).symm.trans h)
      rename_i hN
      clear hN
      conv => whnf
      exact ⟨⟨1, by omega, hf.trans (firstT_no hr)⟩, ⟨⟨leV_refl _, leV_refl _, leV_refl _, leV_refl _, leV_refl _, leV_refl _, trivial⟩, ⟨leL_refl _, leL_refl _, leL_refl _, trivial⟩, rfl, rfl⟩, by simp⟩
    | true =>
      cases q2 : (!eqS s.mode sIdle) with
      | false =>
        have hr : s.ruleB m a N 0 = false := by
          show (inK a.kind sStart sRepair && (!eqS s.mode sIdle)) = false
          rw [q, q2]; rfl
        conv => whnf
        refine DRAW.mkS 9 _ rfl rfl 12 (by decide +kernel) ?_
        conv => whnf
        refine .mk _ _ _ (leL_refl _) (c_Contains2 _ a.kind sStart sRepair _ rfl rfl) rfl ?_
        conv => whnf
        split
        rotate_left
        · rename_i h
          exact Bool.noConfusion ((q).symm.trans h)
        rename_i hN
        clear hN
        conv => whnf
        refine .mk _ _ _ (leL_refl _) (c_mode1 _ m s a sIdle) rfl ?_
        conv => whnf
        split
        · rename_i h
          exact Bool.noConfusion ((q2).symm.trans h)
        rename_i hN
        clear hN
        conv => whnf
        exact ⟨⟨1, by omega, hf.trans (firstT_no hr)⟩, ⟨⟨leV_refl _, leV_refl _, leV_refl _, leV_refl _, leV_refl _, leV_refl _, trivial⟩, ⟨leL_refl _, leL_refl _, leL_refl _, trivial⟩, rfl, rfl⟩, by simp⟩
      | true =>
        have hr : s.ruleB m a N 0 = true := by
          show (inK a.kind sStart sRepair && (!eqS s.mode sIdle)) = true
          rw [q, q2]; rfl
        conv => whnf
        refine DRAW.mkS 9 _ rfl rfl 12 (by decide +kernel) ?_
        conv => whnf
        refine .mk _ _ _ (leL_refl _) (c_Contains2 _ a.kind sStart sRepair _ rfl rfl) rfl ?_
        conv => whnf
        split
        rotate_left
        · rename_i h
          exact Bool.noConfusion ((q).symm.trans h)
        rename_i hN
        clear hN
        conv => whnf
        refine .mk _ _ _ (leL_refl _) (c_mode1 _ m s a sIdle) rfl ?_
        conv => whnf
        split
        rotate_left
        · rename_i h
          exact Bool.noConfusion ((q2).symm.trans h)
        rename_i hN
        clear hN
        conv => whnf
        exact ⟨congrArg (IV.int .i64) (Eq.symm (hf.trans (firstT_yes hr))), rfl⟩
  · cases q : inK a.kind sTick sStop with
    | false =>
      have hr : s.ruleB m a N 1 = false := by
        show (inK a.kind sTick sStop && _) = false
        rw [q]; rfl
      conv => whnf
      refine DRAW.mkS 9 _ rfl rfl 12 (by decide +kernel) ?_
      conv => whnf
      refine .mk _ _ _ (leL_refl _) (c_Contains2 _ a.kind sTick sStop _ rfl rfl) rfl ?_
      conv => whnf
      split
      · rename_i h
        exact Bool.noConfusion ((q).symm.trans h)
      rename_i hN
      clear hN
      conv => whnf
      exact ⟨⟨2, by omega, hf.trans (firstT_no hr)⟩, ⟨⟨leV_refl _, leV_refl _, leV_refl _, leV_refl _, leV_refl _, leV_refl _, trivial⟩, ⟨leL_refl _, leL_refl _, leL_refl _, trivial⟩, rfl, rfl⟩, by simp⟩
    | true =>
      cases q2 : (!eqS s.mode sRun) with
      | false =>
        have hr : s.ruleB m a N 1 = false := by
          show (inK a.kind sTick sStop && (!eqS s.mode sRun)) = false
          rw [q, q2]; rfl
        conv => whnf
        refine DRAW.mkS 9 _ rfl rfl 12 (by decide +kernel) ?_
        conv => whnf
        refine .mk _ _ _ (leL_refl _) (c_Contains2 _ a.kind sTick sStop _ rfl rfl) rfl ?_
        conv => whnf
        split
        rotate_left
        · rename_i h
          exact Bool.noConfusion ((q).symm.trans h)
        rename_i hN
        clear hN
        conv => whnf
        refine .mk _ _ _ (leL_refl _) (c_mode1 _ m s a sRun) rfl ?_
        conv => whnf
        split
        · rename_i h
          exact Bool.noConfusion ((q2).symm.trans h)
        rename_i hN
        clear hN
        conv => whnf
        exact ⟨⟨2, by omega, hf.trans (firstT_no hr)⟩, ⟨⟨leV_refl _, leV_refl _, leV_refl _, leV_refl _, leV_refl _, leV_refl _, trivial⟩, ⟨leL_refl _, leL_refl _, leL_refl _, trivial⟩, rfl, rfl⟩, by simp⟩
      | true =>
        have hr : s.ruleB m a N 1 = true := by
          show (inK a.kind sTick sStop && (!eqS s.mode sRun)) = true
          rw [q, q2]; rfl
        conv => whnf
        refine DRAW.mkS 9 _ rfl rfl 12 (by decide +kernel) ?_
        conv => whnf
        refine .mk _ _ _ (leL_refl _) (c_Contains2 _ a.kind sTick sStop _ rfl rfl) rfl ?_
        conv => whnf
        split
        rotate_left
        · rename_i h
          exact Bool.noConfusion ((q).symm.trans h)
        rename_i hN
        clear hN
        conv => whnf
        refine .mk _ _ _ (leL_refl _) (c_mode1 _ m s a sRun) rfl ?_
        conv => whnf
        split
        rotate_left
        · rename_i h
          exact Bool.noConfusion ((q2).symm.trans h)
        rename_i hN
        clear hN
        conv => whnf
        exact ⟨congrArg (IV.int .i64) (Eq.symm (hf.trans (firstT_yes hr))), rfl⟩
  · cases q : inK a.kind sBrake sRest with
    | false =>
      have hr : s.ruleB m a N 2 = false := by
        show (inK a.kind sBrake sRest && _) = false
        rw [q]; rfl
      conv => whnf
      refine DRAW.mkS 9 _ rfl rfl 12 (by decide +kernel) ?_
      conv => whnf
      refine .mk _ _ _ (leL_refl _) (c_Contains2 _ a.kind sBrake sRest _ rfl rfl) rfl ?_
      conv => whnf
      split
      · rename_i h
        exact Bool.noConfusion ((q).symm.trans h)
      rename_i hN
      clear hN
      conv => whnf
      exact ⟨⟨3, by omega, hf.trans (firstT_no hr)⟩, ⟨⟨leV_refl _, leV_refl _, leV_refl _, leV_refl _, leV_refl _, leV_refl _, trivial⟩, ⟨leL_refl _, leL_refl _, leL_refl _, trivial⟩, rfl, rfl⟩, by simp⟩
    | true =>
      cases q2 : (!eqS s.mode sStop) with
      | false =>
        have hr : s.ruleB m a N 2 = false := by
          show (inK a.kind sBrake sRest && (!eqS s.mode sStop)) = false
          rw [q, q2]; rfl
        conv => whnf
        refine DRAW.mkS 9 _ rfl rfl 12 (by decide +kernel) ?_
        conv => whnf
        refine .mk _ _ _ (leL_refl _) (c_Contains2 _ a.kind sBrake sRest _ rfl rfl) rfl ?_
        conv => whnf
        split
        rotate_left
        · rename_i h
          exact Bool.noConfusion ((q).symm.trans h)
        rename_i hN
        clear hN
        conv => whnf
        refine .mk _ _ _ (leL_refl _) (c_mode1 _ m s a sStop) rfl ?_
        conv => whnf
        split
        · rename_i h
          exact Bool.noConfusion ((q2).symm.trans h)
        rename_i hN
        clear hN
        conv => whnf
        exact ⟨⟨3, by omega, hf.trans (firstT_no hr)⟩, ⟨⟨leV_refl _, leV_refl _, leV_refl _, leV_refl _, leV_refl _, leV_refl _, trivial⟩, ⟨leL_refl _, leL_refl _, leL_refl _, trivial⟩, rfl, rfl⟩, by simp⟩
      | true =>
        have hr : s.ruleB m a N 2 = true := by
          show (inK a.kind sBrake sRest && (!eqS s.mode sStop)) = true
          rw [q, q2]; rfl
        conv => whnf
        refine DRAW.mkS 9 _ rfl rfl 12 (by decide +kernel) ?_
        conv => whnf
        refine .mk _ _ _ (leL_refl _) (c_Contains2 _ a.kind sBrake sRest _ rfl rfl) rfl ?_
        conv => whnf
        split
        rotate_left
        · rename_i h
          exact Bool.noConfusion ((q).symm.trans h)
        rename_i hN
        clear hN
        conv => whnf
        refine .mk _ _ _ (leL_refl _) (c_mode1 _ m s a sStop) rfl ?_
        conv => whnf
        split
        rotate_left
        · rename_i h
          exact Bool.noConfusion ((q2).symm.trans h)
        rename_i hN
        clear hN
        conv => whnf
        exact ⟨congrArg (IV.int .i64) (Eq.symm (hf.trans (firstT_yes hr))), rfl⟩
  · cases q : inK a.kind sStart ByteArray.empty with
    | false =>
      have hr : s.ruleB m a N 3 = false := by
        show (inK a.kind sStart ByteArray.empty && _) = false
        rw [q]; rfl
      conv => whnf
      refine DRAW.mkS 9 _ rfl rfl 12 (by decide +kernel) ?_
      conv => whnf
      refine .mk _ _ _ (leL_refl _) (c_Contains2 _ a.kind sStart ByteArray.empty _ rfl rfl) rfl ?_
      conv => whnf
      split
      · rename_i h
        exact Bool.noConfusion ((q).symm.trans h)
      rename_i hN
      clear hN
      conv => whnf
      exact ⟨⟨4, by omega, hf.trans (firstT_no hr)⟩, ⟨⟨leV_refl _, leV_refl _, leV_refl _, leV_refl _, leV_refl _, leV_refl _, trivial⟩, ⟨leL_refl _, leL_refl _, leL_refl _, trivial⟩, rfl, rfl⟩, by simp⟩
    | true =>
      cases q2 : s.rule4 m with
      | false =>
        have hr : s.ruleB m a N 3 = false := by
          show (inK a.kind sStart ByteArray.empty && s.rule4 m) = false
          rw [q, q2]; rfl
        conv => whnf
        refine DRAW.mkS 9 _ rfl rfl 12 (by decide +kernel) ?_
        conv => whnf
        refine .mk _ _ _ (leL_refl _) (c_Contains2 _ a.kind sStart ByteArray.empty _ rfl rfl) rfl ?_
        conv => whnf
        split
        rotate_left
        · rename_i h
          exact Bool.noConfusion ((q).symm.trans h)
        rename_i hN
        clear hN
        conv => whnf
        refine .mk _ _ _ (leL_refl _) (c_rules1 _ m s a) rfl ?_
        conv => whnf
        split
        · rename_i h
          exact Bool.noConfusion ((q2).symm.trans h)
        rename_i hN
        clear hN
        conv => whnf
        exact ⟨⟨4, by omega, hf.trans (firstT_no hr)⟩, ⟨⟨leV_refl _, leV_refl _, leV_refl _, leV_refl _, leV_refl _, leV_refl _, trivial⟩, ⟨leL_refl _, leL_refl _, leL_refl _, trivial⟩, rfl, rfl⟩, by simp⟩
      | true =>
        have hr : s.ruleB m a N 3 = true := by
          show (inK a.kind sStart ByteArray.empty && s.rule4 m) = true
          rw [q, q2]; rfl
        conv => whnf
        refine DRAW.mkS 9 _ rfl rfl 12 (by decide +kernel) ?_
        conv => whnf
        refine .mk _ _ _ (leL_refl _) (c_Contains2 _ a.kind sStart ByteArray.empty _ rfl rfl) rfl ?_
        conv => whnf
        split
        rotate_left
        · rename_i h
          exact Bool.noConfusion ((q).symm.trans h)
        rename_i hN
        clear hN
        conv => whnf
        refine .mk _ _ _ (leL_refl _) (c_rules1 _ m s a) rfl ?_
        conv => whnf
        split
        rotate_left
        · rename_i h
          exact Bool.noConfusion ((q2).symm.trans h)
        rename_i hN
        clear hN
        conv => whnf
        exact ⟨congrArg (IV.int .i64) (Eq.symm (hf.trans (firstT_yes hr))), rfl⟩
  · cases q : inK a.kind sRest ByteArray.empty with
    | false =>
      have hr : s.ruleB m a N 4 = false := by
        show (inK a.kind sRest ByteArray.empty && _) = false
        rw [q]; rfl
      conv => whnf
      refine DRAW.mkS 9 _ rfl rfl 12 (by decide +kernel) ?_
      conv => whnf
      refine .mk _ _ _ (leL_refl _) (c_Contains2 _ a.kind sRest ByteArray.empty _ rfl rfl) rfl ?_
      conv => whnf
      split
      · rename_i h
        exact Bool.noConfusion ((q).symm.trans h)
      rename_i hN
      clear hN
      conv => whnf
      exact ⟨⟨5, by omega, hf.trans (firstT_no hr)⟩, ⟨⟨leV_refl _, leV_refl _, leV_refl _, leV_refl _, leV_refl _, leV_refl _, trivial⟩, ⟨leL_refl _, leL_refl _, leL_refl _, trivial⟩, rfl, rfl⟩, by simp⟩
    | true =>
      cases q2 : s.rule5 m with
      | false =>
        have hr : s.ruleB m a N 4 = false := by
          show (inK a.kind sRest ByteArray.empty && s.rule5 m) = false
          rw [q, q2]; rfl
        conv => whnf
        refine DRAW.mkS 9 _ rfl rfl 12 (by decide +kernel) ?_
        conv => whnf
        refine .mk _ _ _ (leL_refl _) (c_Contains2 _ a.kind sRest ByteArray.empty _ rfl rfl) rfl ?_
        conv => whnf
        split
        rotate_left
        · rename_i h
          exact Bool.noConfusion ((q).symm.trans h)
        rename_i hN
        clear hN
        conv => whnf
        refine .mk _ _ _ (leL_refl _) (c_rules2 _ m s a) rfl ?_
        conv => whnf
        split
        · rename_i h
          exact Bool.noConfusion ((q2).symm.trans h)
        rename_i hN
        clear hN
        conv => whnf
        exact ⟨⟨5, by omega, hf.trans (firstT_no hr)⟩, ⟨⟨leV_refl _, leV_refl _, leV_refl _, leV_refl _, leV_refl _, leV_refl _, trivial⟩, ⟨leL_refl _, leL_refl _, leL_refl _, trivial⟩, rfl, rfl⟩, by simp⟩
      | true =>
        have hr : s.ruleB m a N 4 = true := by
          show (inK a.kind sRest ByteArray.empty && s.rule5 m) = true
          rw [q, q2]; rfl
        conv => whnf
        refine DRAW.mkS 9 _ rfl rfl 12 (by decide +kernel) ?_
        conv => whnf
        refine .mk _ _ _ (leL_refl _) (c_Contains2 _ a.kind sRest ByteArray.empty _ rfl rfl) rfl ?_
        conv => whnf
        split
        rotate_left
        · rename_i h
          exact Bool.noConfusion ((q).symm.trans h)
        rename_i hN
        clear hN
        conv => whnf
        refine .mk _ _ _ (leL_refl _) (c_rules2 _ m s a) rfl ?_
        conv => whnf
        split
        rotate_left
        · rename_i h
          exact Bool.noConfusion ((q2).symm.trans h)
        rename_i hN
        clear hN
        conv => whnf
        exact ⟨congrArg (IV.int .i64) (Eq.symm (hf.trans (firstT_yes hr))), rfl⟩
  · cases q : inK a.kind sTick sBrake with
    | false =>
      have hr : s.ruleB m a N 5 = false := by
        show (inK a.kind sTick sBrake && _) = false
        rw [q]; rfl
      conv => whnf
      refine DRAW.mkS 9 _ rfl rfl 12 (by decide +kernel) ?_
      conv => whnf
      refine .mk _ _ _ (leL_refl _) (c_Contains2 _ a.kind sTick sBrake _ rfl rfl) rfl ?_
      conv => whnf
      split
      · rename_i h
        exact Bool.noConfusion ((q).symm.trans h)
      rename_i hN
      clear hN
      conv => whnf
      exact ⟨⟨6, by omega, hf.trans (firstT_no hr)⟩, ⟨⟨leV_refl _, leV_refl _, leV_refl _, leV_refl _, leV_refl _, leV_refl _, trivial⟩, ⟨leL_refl _, leL_refl _, leL_refl _, trivial⟩, rfl, rfl⟩, by simp⟩
    | true =>
      cases q2 : s.rule6 a with
      | false =>
        have hr : s.ruleB m a N 5 = false := by
          show (inK a.kind sTick sBrake && s.rule6 a) = false
          rw [q, q2]; rfl
        conv => whnf
        refine DRAW.mkS 9 _ rfl rfl 12 (by decide +kernel) ?_
        conv => whnf
        refine .mk _ _ _ (leL_refl _) (c_Contains2 _ a.kind sTick sBrake _ rfl rfl) rfl ?_
        conv => whnf
        split
        rotate_left
        · rename_i h
          exact Bool.noConfusion ((q).symm.trans h)
        rename_i hN
        clear hN
        conv => whnf
        refine .mk _ _ _ (leL_refl _) (c_rules3 _ m s a) rfl ?_
        conv => whnf
        split
        · rename_i h
          exact Bool.noConfusion ((q2).symm.trans h)
        rename_i hN
        clear hN
        conv => whnf
        exact ⟨⟨6, by omega, hf.trans (firstT_no hr)⟩, ⟨⟨leV_refl _, leV_refl _, leV_refl _, leV_refl _, leV_refl _, leV_refl _, trivial⟩, ⟨leL_refl _, leL_refl _, leL_refl _, trivial⟩, rfl, rfl⟩, by simp⟩
      | true =>
        have hr : s.ruleB m a N 5 = true := by
          show (inK a.kind sTick sBrake && s.rule6 a) = true
          rw [q, q2]; rfl
        conv => whnf
        refine DRAW.mkS 9 _ rfl rfl 12 (by decide +kernel) ?_
        conv => whnf
        refine .mk _ _ _ (leL_refl _) (c_Contains2 _ a.kind sTick sBrake _ rfl rfl) rfl ?_
        conv => whnf
        split
        rotate_left
        · rename_i h
          exact Bool.noConfusion ((q).symm.trans h)
        rename_i hN
        clear hN
        conv => whnf
        refine .mk _ _ _ (leL_refl _) (c_rules3 _ m s a) rfl ?_
        conv => whnf
        split
        rotate_left
        · rename_i h
          exact Bool.noConfusion ((q2).symm.trans h)
        rename_i hN
        clear hN
        conv => whnf
        exact ⟨congrArg (IV.int .i64) (Eq.symm (hf.trans (firstT_yes hr))), rfl⟩
  · cases q : inK a.kind sTick sBrake with
    | false =>
      have hr : s.ruleB m a N 6 = false := by
        show (inK a.kind sTick sBrake && _) = false
        rw [q]; rfl
      conv => whnf
      refine DRAW.mkS 9 _ rfl rfl 12 (by decide +kernel) ?_
      conv => whnf
      refine .mk _ _ _ (leL_refl _) (c_Contains2 _ a.kind sTick sBrake _ rfl rfl) rfl ?_
      conv => whnf
      split
      · rename_i h
        exact Bool.noConfusion ((q).symm.trans h)
      rename_i hN
      clear hN
      conv => whnf
      exact ⟨⟨7, by omega, hf.trans (firstT_no hr)⟩, ⟨⟨leV_refl _, leV_refl _, leV_refl _, leV_refl _, leV_refl _, leV_refl _, trivial⟩, ⟨leL_refl _, leL_refl _, leL_refl _, trivial⟩, rfl, rfl⟩, by simp⟩
    | true =>
      cases q2 : s.rule7 m a N with
      | false =>
        have hr : s.ruleB m a N 6 = false := by
          show (inK a.kind sTick sBrake && s.rule7 m a N) = false
          rw [q, q2]; rfl
        conv => whnf
        refine DRAW.mkS 9 _ rfl rfl 12 (by decide +kernel) ?_
        conv => whnf
        refine .mk _ _ _ (leL_refl _) (c_Contains2 _ a.kind sTick sBrake _ rfl rfl) rfl ?_
        conv => whnf
        split
        rotate_left
        · rename_i h
          exact Bool.noConfusion ((q).symm.trans h)
        rename_i hN
        clear hN
        conv => whnf
        refine .mk _ _ _ (leL_refl _) (c_rules4 _ m s a N hn) rfl ?_
        conv => whnf
        split
        · rename_i h
          exact Bool.noConfusion ((q2).symm.trans h)
        rename_i hN
        clear hN
        conv => whnf
        exact ⟨⟨7, by omega, hf.trans (firstT_no hr)⟩, ⟨⟨leV_refl _, leV_refl _, leV_refl _, leV_refl _, leV_refl _, leV_refl _, trivial⟩, ⟨leL_refl _, leL_refl _, leL_refl _, trivial⟩, rfl, rfl⟩, by simp⟩
      | true =>
        have hr : s.ruleB m a N 6 = true := by
          show (inK a.kind sTick sBrake && s.rule7 m a N) = true
          rw [q, q2]; rfl
        conv => whnf
        refine DRAW.mkS 9 _ rfl rfl 12 (by decide +kernel) ?_
        conv => whnf
        refine .mk _ _ _ (leL_refl _) (c_Contains2 _ a.kind sTick sBrake _ rfl rfl) rfl ?_
        conv => whnf
        split
        rotate_left
        · rename_i h
          exact Bool.noConfusion ((q).symm.trans h)
        rename_i hN
        clear hN
        conv => whnf
        refine .mk _ _ _ (leL_refl _) (c_rules4 _ m s a N hn) rfl ?_
        conv => whnf
        split
        rotate_left
        · rename_i h
          exact Bool.noConfusion ((q2).symm.trans h)
        rename_i hN
        clear hN
        conv => whnf
        exact ⟨congrArg (IV.int .i64) (Eq.symm (hf.trans (firstT_yes hr))), rfl⟩
  · conv => whnf
    exact ⟨congrArg (IV.int .i64) (Eq.symm hf), rfl⟩
end Go.Proofs.YtkdlegfakefjgaaGreatDoor.Ix

/-
  Cp1: a stop ends: plain laws of the steps of a stop.
-/
namespace Go.Proofs.YtkdlegfakefjgaaGreatDoor.Ix
open Go.Proofs
set_option linter.unusedVariables false
set_option linter.unusedSimpArgs false

structure Mc.ok (m : Mc) : Prop where
  wind : 1 ≤ m.wind ∧ m.wind ≤ 100
  fea : 1 ≤ m.fea ∧ m.fea ≤ 100
  rate : 1 ≤ m.rate ∧ m.rate ≤ m.fea
  tor : 0 ≤ m.tor ∧ m.tor ≤ 100
  lim : 1 ≤ m.lim ∧ m.lim ≤ 1000
  rated : 1 ≤ m.rated ∧ m.rated ≤ m.lim
  gain : 1 ≤ m.gain ∧ m.gain ≤ 16
  two : m.wind < 2 * m.fea

theorem orL_zero : ∀ {l : List Int}, orL l = 0 ↔ ∀ x ∈ l, x = 0
  | [] => by simp [orL]
  | a :: r => by
    simp only [orL, orE_zero, orL_zero (l := r), List.mem_cons, forall_eq_or_imp]

theorem bif_nz {b : Bool} {e : Int} (he : e ≠ 0) : (bif b then e else 0) = 0 ↔ b = false := by
  cases b <;> simp [he]

theorem Mc.err_ok {m : Mc} (h : m.err = 0) : m.ok := by
  unfold Mc.err at h
  rw [orL_zero] at h
  simp only [List.mem_cons, List.not_mem_nil, or_false, forall_eq_or_imp, forall_eq, withinS_zero] at h
  obtain ⟨h1, h2, h3, h4, h5, h6, h7, h8, h9⟩ := h
  rw [bif_nz (by decide)] at h8 h9
  simp only [Bool.or_eq_false_iff, decide_eq_false_iff_not] at h8 h9
  rw [w64, wrap_in (by omega) (by omega)] at h9
  exact ⟨by omega, by omega, by omega, by omega, by omega, by omega, by omega, by omega⟩

theorem Mc.err_of {m : Mc} (h : m.ok) : m.err = 0 := by
  obtain ⟨h1, h2, h3, h4, h5, h6, h7, h8⟩ := h
  unfold Mc.err
  rw [orL_zero]
  simp only [List.mem_cons, List.not_mem_nil, or_false, forall_eq_or_imp, forall_eq, withinS_zero]
  rw [bif_nz (by decide), bif_nz (by decide)]
  simp only [Bool.or_eq_false_iff, decide_eq_false_iff_not]
  rw [w64, wrap_in (by omega) (by omega)]
  omega

/-- Where the blades and the speed of a state lie. -/
structure Sta.rng (s : Sta) (m : Mc) : Prop where
  speed : 0 ≤ s.speed ∧ s.speed ≤ 1000000
  p0 : 0 ≤ s.p0 ∧ s.p0 ≤ m.fea
  p1 : 0 ≤ s.p1 ∧ s.p1 ≤ m.fea
  p2 : 0 ≤ s.p2 ∧ s.p2 ≤ m.fea

theorem Sta.err_rng {s : Sta} {m : Mc} (h : s.err m = 0) : m.ok ∧ s.rng m ∧ s.speed ≤ m.lim ∧ (-1 ≤ s.stuck ∧ s.stuck ≤ 2) ∧ (0 ≤ s.tor ∧ s.tor ≤ m.tor) ∧ s.known = true ∧ s.fits m = true := by
  unfold Sta.err at h
  rw [orE_zero] at h
  obtain ⟨h1, h2⟩ := h
  unfold Sta.err1 at h1
  unfold Sta.err2 at h2
  rw [orL_zero] at h1 h2
  simp only [List.mem_cons, List.not_mem_nil, or_false, forall_eq_or_imp, forall_eq, withinS_zero] at h1 h2
  obtain ⟨a1, a2, a3⟩ := h1
  obtain ⟨b1, b2, b3, b4, b5, b6⟩ := h2
  rw [bif_nz (by decide)] at a2 b6
  have hm := Mc.err_ok a1
  have := hm.lim
  exact ⟨hm, ⟨by omega, b1, b2, b3⟩, a3.2, b5, b4, by simpa using a2, by simpa using b6⟩

/-- A blade's move towards Feather, in range. -/
theorem mvW_fea {m : Mc} (hm : m.ok) {p : Int} (h : 0 ≤ p ∧ p ≤ m.fea) : mvW m m.fea p = min (p + m.rate) m.fea := by
  obtain ⟨h1, h2, h3, h4, h5, h6, h7, h8⟩ := hm
  unfold mvW
  have e1 : w64 (p - m.rate) = p - m.rate := by rw [w64, wrap_in] <;> omega
  have e2 : w64 (p + m.rate) = p + m.rate := by rw [w64, wrap_in] <;> omega
  rw [e1, e2]
  unfold maxW minW
  split <;> split <;> omega

/-- The pitch of blade 'i' behind a step of a stop. -/
def stepP (m : Mc) (stuck i p : Int) : Int := if i = stuck then p else min (p + m.rate) m.fea

theorem braked_eq {m : Mc} (hm : m.ok) {s : Sta} (hs : s.rng m) (wind stuck : Int) (hw : 0 ≤ wind ∧ wind ≤ 100) :
    s.brakedW m wind stuck = ⟨sStop, max 0 (s.speed + wind - stepP m stuck 0 s.p0 - stepP m stuck 1 s.p1 - stepP m stuck 2 s.p2), stepP m stuck 0 s.p0, stepP m stuck 1 s.p1, stepP m stuck 2 s.p2, 0, if stuck = -1 then s.stuck else stuck⟩ := by
  have hf := hm.fea
  have hr := hm.rate
  have m0 := mvW_fea hm hs.p0
  have m1 := mvW_fea hm hs.p1
  have m2 := mvW_fea hm hs.p2
  have hp : ∀ (i p : Int), (0 ≤ p ∧ p ≤ m.fea) → mvW m m.fea p = min (p + m.rate) m.fea → (bif i != stuck then mvW m m.fea p else p) = stepP m stuck i p := fun i p _ hmv => by
    unfold stepP
    by_cases h : i = stuck
    · simp [h]
    · have : (i != stuck) = true := by simpa using h
      rw [this, if_neg h, hmv]; rfl
  have hb : ∀ (i p : Int), (0 ≤ p ∧ p ≤ m.fea) → 0 ≤ stepP m stuck i p ∧ stepP m stuck i p ≤ m.fea := fun i p h => by
    unfold stepP
    split <;> omega
  have b0 := hb 0 s.p0 hs.p0
  have b1 := hb 1 s.p1 hs.p1
  have b2 := hb 2 s.p2 hs.p2
  have hsp := hs.speed
  unfold Sta.brakedW Sta.laterW Sta.movedW
  simp only
  rw [hp 0 s.p0 hs.p0 m0, hp 1 s.p1 hs.p1 m1, hp 2 s.p2 hs.p2 m2]
  have e : maxW 0 (w64 (w64 (w64 (w64 (s.speed + w64 (wind - 0)) - stepP m stuck 0 s.p0) - stepP m stuck 1 s.p1) - stepP m stuck 2 s.p2)) = max 0 (s.speed + wind - stepP m stuck 0 s.p0 - stepP m stuck 1 s.p1 - stepP m stuck 2 s.p2) := by
    have w : ∀ x : Int, -10000000 ≤ x → x ≤ 10000000 → w64 x = x := fun x h1 h2 => by rw [w64, wrap_in] <;> omega
    rw [w (wind - 0) (by omega) (by omega), w (s.speed + (wind - 0)) (by omega) (by omega), w (s.speed + (wind - 0) - _) (by omega) (by omega), w (s.speed + (wind - 0) - _ - _) (by omega) (by omega), w (s.speed + (wind - 0) - _ - _ - _) (by omega) (by omega)]
    unfold maxW
    split <;> omega
  rw [e]
  congr 1
  by_cases h : stuck = -1
  · simp [h]
  · have : (stuck != -1) = true := by simpa using h
    rw [this, if_neg h]; rfl

/-- How far the blades that are not stuck are from Feather. -/
def Sta.far (s : Sta) (m : Mc) (stuck : Int) : Int := max (if stuck = 0 then 0 else m.fea - s.p0) (max (if stuck = 1 then 0 else m.fea - s.p1) (if stuck = 2 then 0 else m.fea - s.p2))

theorem step_rng {m : Mc} (hm : m.ok) {s : Sta} (hs : s.rng m) (hsp : s.speed ≤ 900000) (wind stuck : Int) (hw : 0 ≤ wind ∧ wind ≤ 100) : (s.brakedW m wind stuck).rng m := by
  rw [braked_eq hm hs wind stuck hw]
  have hf := hm.fea
  have hr := hm.rate
  obtain ⟨g1, g2, g3, g4⟩ := hs
  refine ⟨?_, ?_, ?_, ?_⟩ <;> simp only [stepP] <;> (repeat' split) <;> omega

theorem rest_of {m : Mc} {s : Sta} (hs : s.rng m) {stuck : Int} (h1 : -1 ≤ stuck) (h2 : stuck ≤ 2) (hf : s.far m stuck = 0) (h0 : s.speed = 0) : s.restB m stuck = true := by
  unfold Sta.far at hf
  unfold Sta.restB
  obtain ⟨g1, g2, g3, g4⟩ := hs
  have q : (s.speed == 0) = true := by simpa using h0
  rw [q, cond_true]
  obtain rfl | rfl | rfl | rfl : stuck = -1 ∨ stuck = 0 ∨ stuck = 1 ∨ stuck = 2 := by omega
  all_goals simp at hf ⊢
  all_goals omega

/-- What falls at each step. -/
def Sta.mu (s : Sta) (m : Mc) (stuck : Int) : Int := 101 * s.far m stuck + s.speed

theorem mu_falls {m : Mc} (hm : m.ok) {s : Sta} (hs : s.rng m) {stuck : Int} (h1 : -1 ≤ stuck) (h2 : stuck ≤ 2) (hr : s.restB m stuck = false) : (s.brakedW m m.wind stuck).mu m stuck + 1 ≤ s.mu m stuck := by
  have hne : ¬ (s.far m stuck = 0 ∧ s.speed = 0) := fun ⟨a, b⟩ => by rw [rest_of hs h1 h2 a b] at hr; cases hr
  obtain ⟨w1, w2⟩ := hm.wind
  rw [braked_eq hm hs m.wind stuck (by omega)]
  have hf := hm.fea
  have hra := hm.rate
  have h2w := hm.two
  obtain ⟨g1, g2, g3, g4⟩ := hs
  unfold Sta.mu Sta.far at *
  simp only [stepP]
  obtain rfl | rfl | rfl | rfl : stuck = -1 ∨ stuck = 0 ∨ stuck = 1 ∨ stuck = 2 := by omega
  all_goals simp only [reduceIte, Int.reduceEq, Int.reduceNeg] at hne ⊢
  all_goals omega

theorem stepW_succ (s : Sta) (m : Mc) (stuck : Int) : ∀ k, s.stepW m stuck (k + 1) = (s.brakedW m m.wind stuck).stepW m stuck k
  | 0 => rfl
  | k + 1 => by
    show (s.stepW m stuck (k + 1)).brakedW m m.wind stuck = _
    rw [stepW_succ s m stuck k]; rfl

theorem takes_exists {m : Mc} (hm : m.ok) {stuck : Int} (h1 : -1 ≤ stuck) (h2 : stuck ≤ 2) : ∀ (B : Nat) (s : Sta), s.rng m → s.mu m stuck ≤ B → B ≤ 800000 → ∃ n, s.takes m stuck n ∧ n ≤ B
  | B, s, hs, hB, hB2 => by
    cases hr : s.restB m stuck with
    | true => exact ⟨0, ⟨fun k hk => by omega, hr⟩, Nat.zero_le _⟩
    | false =>
      have hf := mu_falls hm hs h1 h2 hr
      have hfar : 0 ≤ s.far m stuck := by
        obtain ⟨g1, g2, g3, g4⟩ := hs
        unfold Sta.far
        (repeat' split) <;> omega
      have hsp : s.speed ≤ 900000 := by unfold Sta.mu at hB; omega
      have hs' := step_rng hm hs hsp m.wind stuck (by have := hm.wind; omega)
      have hmu' : 0 ≤ (s.brakedW m m.wind stuck).mu m stuck := by
        obtain ⟨g1, g2, g3, g4⟩ := hs'
        unfold Sta.mu Sta.far
        (repeat' split) <;> omega
      cases B with
      | zero => omega
      | succ B =>
        obtain ⟨n, ⟨t1, t2⟩, hn⟩ := takes_exists hm h1 h2 B (s.brakedW m m.wind stuck) hs' (by omega) (by omega)
        refine ⟨n + 1, ⟨fun k hk => ?_, ?_⟩, by omega⟩
        · cases k with
          | zero => exact hr
          | succ k => rw [stepW_succ]; exact t1 k (by omega)
        · rw [stepW_succ]; exact t2

/-- How many steps a stop takes. -/
noncomputable def Sta.num (s : Sta) (m : Mc) (stuck : Int) : Nat := open Classical in if h : ∃ n, s.takes m stuck n ∧ n ≤ 1000000 then h.choose else 0

theorem takes_num {m : Mc} (hm : m.ok) {s : Sta} (hs : s.rng m) (hsp : s.speed ≤ 10000) {stuck : Int} (h1 : -1 ≤ stuck) (h2 : stuck ≤ 2) : s.takes m stuck (s.num m stuck) ∧ s.num m stuck ≤ 1000000 := by
  have hex : ∃ n, s.takes m stuck n ∧ n ≤ 1000000 := by
    have hmu : s.mu m stuck ≤ (20100 : Nat) := by
      have := hm.fea
      obtain ⟨g1, g2, g3, g4⟩ := hs
      unfold Sta.mu Sta.far
      (repeat' split) <;> omega
    obtain ⟨n, h, hn⟩ := takes_exists hm h1 h2 20100 s hs hmu (by omega)
    exact ⟨n, h, by omega⟩
  unfold Sta.num
  rw [dif_pos hex]
  exact hex.choose_spec

theorem takes_unique {s : Sta} {m : Mc} {stuck : Int} {n k : Nat} (h1 : s.takes m stuck n) (h2 : s.takes m stuck k) : n = k := by
  rcases Nat.lt_trichotomy n k with h | h | h
  · have := h2.1 n h; rw [h1.2] at this; cases this
  · exact h
  · have := h1.1 k h; rw [h2.2] at this; cases this

theorem num_eq {s : Sta} {m : Mc} {stuck : Int} {n : Nat} (h : s.takes m stuck n) (hn : n ≤ 1000000) : s.num m stuck = n := by
  have hex : ∃ n, s.takes m stuck n ∧ n ≤ 1000000 := ⟨n, h, hn⟩
  unfold Sta.num
  rw [dif_pos hex]
  exact takes_unique hex.choose_spec.1 h
end Go.Proofs.YtkdlegfakefjgaaGreatDoor.Ix

/-
  Cr1: contracts of the reference's functions for machines, states and acts: their errors.
-/
namespace Go.Proofs.YtkdlegfakefjgaaGreatDoor.Ix
open Go.Proofs
set_option maxRecDepth 100000
set_option linter.unusedVariables false
set_option linter.unusedSimpArgs false
variable {gl : Nat → IV}

theorem orL_append (l r : List Int) : orL (l ++ r) = orE (orL l) (orL r) := by
  induction l with
  | nil => simp [orL, orE]
  | cons a l ih =>
    show orE a (orL (l ++ r)) = orE (orE a (orL l)) (orL r)
    rw [ih, orE_assoc]
theorem orE_ne {a b : Int} (h : (a != 0) = true) : orE a b = a := by unfold orE; rw [h]; rfl
theorem orE_no {a b : Int} (h : (a != 0) = false) : orE a b = b := by unfold orE; rw [h]; rfl

theorem c_CheckRange (up : List Ces) (n lo hi : Int) : Cs gl n_nacelleref01_CheckRange up [.int .i64 n, .int .i64 lo, .int .i64 hi] (.int .i64 (withinS n lo hi)) up := by
  refine mk h_nacelleref01_CheckRange rfl rfl ?_
  conv => whnf
  split
  · rename_i h
    have h : decide (n < lo) = true := h
    conv => whnf
    simp [withinS, h]
  · rename_i h
    have h : decide (n < lo) = false := h
    conv => whnf
    split
    · rename_i h2
      have h2 : decide (n > hi) = true := h2
      conv => whnf
      simp [withinS, h, h2]
    · rename_i h2
      have h2 : decide (n > hi) = false := h2
      conv => whnf
      simp [withinS, h, h2]

theorem c_rFirst (up : List Ces) (n : Nat) (hn : n ≤ 4611686018427387904) (f : Nat → Int) : Cs gl n_nacelleref01_First up [.lst none 1 n fun i => [.int .i64 (f i)]] (.int .i64 (firstS f n 0)) up := by
  refine mk h_nacelleref01_First rfl rfl ?_
  conv => whnf
  refine .mk (α := {i : Nat // i ≤ n ∧ firstS f n 0 = firstS f (n - i) i}) (fun i => ⟨[(3, .int .i64 i.1), (0, .lst none 1 n fun i => [.int .i64 (f i)])], [], up⟩) (fun i => n - i.1) ⟨0, Nat.zero_le _, rfl⟩ ⟨⟨leV_refl _, leV_refl _, trivial⟩, trivial, rfl, rfl⟩ ?_
  rintro ⟨i, hi, hf⟩
  conv => whnf
  split
  · rename_i hb
    have hlt : i < n := by
      have hb' : decide ((i : Int) < n) = true := hb
      simpa using hb'
    have hstep : firstS f (n - i) i = orE (f i) (firstS f (n - (i + 1)) (i + 1)) := by
      rw [show n - i = (n - (i + 1)) + 1 by omega]; rfl
    conv => whnf
    split
    rotate_left
    · rename_i h
      have h' : decide ((i : Int) < n) = false := h
      simp at h' <;> omega
    conv => whnf
    split
    · rename_i h2
      have h2 : (f i != 0) = true := h2
      conv => whnf
      split
      · conv => whnf
        refine ⟨?_, rfl⟩
        show IV.int .i64 (f i) = _
        rw [hf, hstep, orE_ne h2]
      · rename_i h3
        have h3 : decide ((i : Int) < n) = false := h3
        simp at h3; omega
    · rename_i h2
      have h2 : (f i != 0) = false := h2
      conv => whnf
      refine ⟨⟨i + 1, hlt, by rw [hf, hstep, orE_no h2]⟩, ⟨⟨leV_int ?_, leV_refl _, trivial⟩, trivial, rfl, rfl⟩, ?_⟩
      · show w64 ((i : Int) + 1) = ((i + 1 : Nat) : Int)
        rw [w64, wrap_in] <;> omega
      · show n - (i + 1) < n - i
        omega
  · rename_i hb
    have : i = n := by
      have hb' : decide ((i : Int) < n) = false := hb
      simp at hb'; omega
    conv => whnf
    refine ⟨?_, rfl⟩
    rw [hf, this, Nat.sub_self]; rfl

/-- The first error of a list laid out. -/
theorem c_rfl (up : List Ces) (l : List Int) (hl : l.length ≤ 100) (f : Nat → List IV) (h : ∀ i, i < l.length → f i = [.int .i64 (l.getD i 0)]) : Cs gl n_nacelleref01_First up [.lst none 1 l.length f] (.int .i64 (orL l)) up := by
  have := c_rFirst (gl := gl) up l.length (by omega) fun i => l.getD i 0
  rw [orL_first l _ 0 (fun i _ => by rw [Nat.zero_add])] at this
  refine Comp.le ?_ this
  exact ⟨⟨.inl rfl, rfl, rfl, fun i hi => h i hi⟩, trivial⟩
theorem c_rl7 (up : List Ces) (f : Nat → List IV) (a0 a1 a2 a3 a4 a5 a6 : Int) (h0 : f 0 = [.int .i64 a0]) (h1 : f 1 = [.int .i64 a1]) (h2 : f 2 = [.int .i64 a2]) (h3 : f 3 = [.int .i64 a3]) (h4 : f 4 = [.int .i64 a4]) (h5 : f 5 = [.int .i64 a5]) (h6 : f 6 = [.int .i64 a6]) : Cs gl n_nacelleref01_First up [.lst none 1 7 f] (.int .i64 (orL [a0, a1, a2, a3, a4, a5, a6])) up :=
  c_rfl up [a0, a1, a2, a3, a4, a5, a6] (by simp) f fun i hi => by
    match i, hi with
    | 0, _ => exact h0
    | 1, _ => exact h1
    | 2, _ => exact h2
    | 3, _ => exact h3
    | 4, _ => exact h4
    | 5, _ => exact h5
    | 6, _ => exact h6

def Mc.e7 (m : Mc) : Int := orL [withinS m.wind 1 100, withinS m.fea 1 100, withinS m.rate 1 100, withinS m.tor 0 100, withinS m.lim 1 1000, withinS m.rated 1 1000, withinS m.gain 1 16]
theorem Mc.err_split (m : Mc) : m.err = orE m.e7 (orE (bif decide (m.rate > m.fea) || decide (m.rated > m.lim) then 4 else 0) (bif decide (w64 (2 * m.fea) ≤ m.wind) then 24 else 0)) := by
  show orL (([_, _, _, _, _, _, _] : List Int) ++ [_, _]) = _
  rw [orL_append]
  unfold Mc.e7
  congr 1
  simp only [orL, orE_right]

theorem c_rMachine (up : List Ces) (m : Mc) : Cs gl n_nacelleref05_CheckMachine up [m.iv] (.int .i64 m.err) up := by
  refine mk h_nacelleref05_CheckMachine rfl rfl ?_
  rw [Mc.err_split]
  cases q7 : (m.e7 != 0) with
  | true =>
    rw [orE_ne q7]
    conv => whnf
    repeat first
      | (refine DRAW.seek ?_; repeat (first | refine TRYD.take ?_ | refine TRYD.next ?_); conv => whnf)
      | (refine HOLD.mk (by first | exact trivial | exact ⟨⟨rfl, rfl⟩, trivial⟩ | exact ⟨⟨rfl, rfl⟩, ⟨rfl, rfl⟩, trivial⟩) ?_; (conv => whnf))
      | (refine CALL0.by (c_CheckRange ..) rfl ?_; conv => whnf)
      | (refine CALLQ.mk _ _ _ (leL_refl _) (c_CheckRange ..) rfl ?_; conv => whnf)
    refine .mk _ _ _ _ _ (leL_refl _) (c_rl7 _ _ _ _ _ _ _ _ _ rfl rfl rfl rfl rfl rfl rfl) rfl ?_
    conv => whnf
    split
    rotate_left
    · rename_i h
      exact Bool.noConfusion ((q7).symm.trans h)
    rename_i hN
    clear hN
    conv => whnf
    exact ⟨rfl, rfl⟩
  | false =>
    rw [orE_no q7]
    cases q1 : decide (m.rate > m.fea) with
    | true =>
      conv => whnf
      repeat first
        | (refine DRAW.seek ?_; repeat (first | refine TRYD.take ?_ | refine TRYD.next ?_); conv => whnf)
        | (refine HOLD.mk (by first | exact trivial | exact ⟨⟨rfl, rfl⟩, trivial⟩ | exact ⟨⟨rfl, rfl⟩, ⟨rfl, rfl⟩, trivial⟩) ?_; (conv => whnf))
        | (refine CALL0.by (c_CheckRange ..) rfl ?_; conv => whnf)
        | (refine CALLQ.mk _ _ _ (leL_refl _) (c_CheckRange ..) rfl ?_; conv => whnf)
      refine .mk _ _ _ _ _ (leL_refl _) (c_rl7 _ _ _ _ _ _ _ _ _ rfl rfl rfl rfl rfl rfl rfl) rfl ?_
      conv => whnf
      split
      · rename_i h
        exact Bool.noConfusion ((q7).symm.trans h)
      rename_i hN
      clear hN
      conv => whnf
      split
      rotate_left
      · rename_i h
        exact Bool.noConfusion ((q1).symm.trans h)
      rename_i hN
      clear hN
      conv => whnf
      exact ⟨rfl, rfl⟩
    | false =>
      cases q2 : decide (m.rated > m.lim) with
      | true =>
        conv => whnf
        repeat first
          | (refine DRAW.seek ?_; repeat (first | refine TRYD.take ?_ | refine TRYD.next ?_); conv => whnf)
          | (refine HOLD.mk (by first | exact trivial | exact ⟨⟨rfl, rfl⟩, trivial⟩ | exact ⟨⟨rfl, rfl⟩, ⟨rfl, rfl⟩, trivial⟩) ?_; (conv => whnf))
          | (refine CALL0.by (c_CheckRange ..) rfl ?_; conv => whnf)
          | (refine CALLQ.mk _ _ _ (leL_refl _) (c_CheckRange ..) rfl ?_; conv => whnf)
        refine .mk _ _ _ _ _ (leL_refl _) (c_rl7 _ _ _ _ _ _ _ _ _ rfl rfl rfl rfl rfl rfl rfl) rfl ?_
        conv => whnf
        split
        · rename_i h
          exact Bool.noConfusion ((q7).symm.trans h)
        rename_i hN
        clear hN
        conv => whnf
        split
        · rename_i h
          exact Bool.noConfusion ((q1).symm.trans h)
        rename_i hN
        clear hN
        conv => whnf
        split
        rotate_left
        · rename_i h
          exact Bool.noConfusion ((q2).symm.trans h)
        rename_i hN
        clear hN
        conv => whnf
        exact ⟨rfl, rfl⟩
      | false =>
        cases q3 : decide (w64 (2 * m.fea) ≤ m.wind) with
        | true =>
          conv => whnf
          repeat first
            | (refine DRAW.seek ?_; repeat (first | refine TRYD.take ?_ | refine TRYD.next ?_); conv => whnf)
            | (refine HOLD.mk (by first | exact trivial | exact ⟨⟨rfl, rfl⟩, trivial⟩ | exact ⟨⟨rfl, rfl⟩, ⟨rfl, rfl⟩, trivial⟩) ?_; (conv => whnf))
            | (refine CALL0.by (c_CheckRange ..) rfl ?_; conv => whnf)
            | (refine CALLQ.mk _ _ _ (leL_refl _) (c_CheckRange ..) rfl ?_; conv => whnf)
          refine .mk _ _ _ _ _ (leL_refl _) (c_rl7 _ _ _ _ _ _ _ _ _ rfl rfl rfl rfl rfl rfl rfl) rfl ?_
          conv => whnf
          split
          · rename_i h
            exact Bool.noConfusion ((q7).symm.trans h)
          rename_i hN
          clear hN
          conv => whnf
          split
          · rename_i h
            exact Bool.noConfusion ((q1).symm.trans h)
          rename_i hN
          clear hN
          conv => whnf
          split
          · rename_i h
            exact Bool.noConfusion ((q2).symm.trans h)
          rename_i hN
          clear hN
          conv => whnf
          split
          rotate_left
          · rename_i h
            exact Bool.noConfusion ((q3).symm.trans h)
          rename_i hN
          clear hN
          conv => whnf
          exact ⟨rfl, rfl⟩
        | false =>
          conv => whnf
          repeat first
            | (refine DRAW.seek ?_; repeat (first | refine TRYD.take ?_ | refine TRYD.next ?_); conv => whnf)
            | (refine HOLD.mk (by first | exact trivial | exact ⟨⟨rfl, rfl⟩, trivial⟩ | exact ⟨⟨rfl, rfl⟩, ⟨rfl, rfl⟩, trivial⟩) ?_; (conv => whnf))
            | (refine CALL0.by (c_CheckRange ..) rfl ?_; conv => whnf)
            | (refine CALLQ.mk _ _ _ (leL_refl _) (c_CheckRange ..) rfl ?_; conv => whnf)
          refine .mk _ _ _ _ _ (leL_refl _) (c_rl7 _ _ _ _ _ _ _ _ _ rfl rfl rfl rfl rfl rfl rfl) rfl ?_
          conv => whnf
          split
          · rename_i h
            exact Bool.noConfusion ((q7).symm.trans h)
          rename_i hN
          clear hN
          conv => whnf
          split
          · rename_i h
            exact Bool.noConfusion ((q1).symm.trans h)
          rename_i hN
          clear hN
          conv => whnf
          split
          · rename_i h
            exact Bool.noConfusion ((q2).symm.trans h)
          rename_i hN
          clear hN
          conv => whnf
          split
          · rename_i h
            exact Bool.noConfusion ((q3).symm.trans h)
          rename_i hN
          clear hN
          conv => whnf
          exact ⟨rfl, rfl⟩

theorem c_rWind (up : List Ces) (m : Mc) (w : Int) : Cs gl n_nacelleref05_CheckWind up [m.iv, .int .i64 w] (.int .i64 (withinS w 0 m.wind)) up := by
  refine mk h_nacelleref05_CheckWind rfl rfl ?_
  conv => whnf
  repeat first
    | (refine DRAW.seek ?_; repeat (first | refine TRYD.take ?_ | refine TRYD.next ?_); conv => whnf)
    | (refine HOLD.mk (by first | exact trivial | exact ⟨⟨rfl, rfl⟩, trivial⟩ | exact ⟨⟨rfl, rfl⟩, ⟨rfl, rfl⟩, trivial⟩) ?_; (conv => whnf))
    | (refine CALL0.by (c_CheckRange ..) rfl ?_; conv => whnf)
    | (refine CALLQ.mk _ _ _ (leL_refl _) (c_CheckRange ..) rfl ?_; conv => whnf)
  exact ⟨rfl, rfl⟩

/-- Is it a word of the list? -/
def hasW (x : ByteArray) : List ByteArray → Bool
  | [] => false
  | k :: r => bif eqS k x then true else hasW x r
theorem eqS_comm (a b : ByteArray) : eqS a b = eqS b a := by
  rw [Bool.eq_iff_iff, eqS_iff, eqS_iff]
  exact ⟨Eq.symm, Eq.symm⟩

theorem hasW_modes (x : ByteArray) : hasW x [sIdle, sRun, sStop] = (eqS x sIdle || (eqS x sRun || (eqS x sStop || false))) := by
  simp only [hasW, eqS_comm sIdle x, eqS_comm sRun x, eqS_comm sStop x]
  cases eqS x sIdle <;> cases eqS x sRun <;> cases eqS x sStop <;> rfl
theorem known_has (s : Sta) : s.known = hasW s.mode [sIdle, sRun, sStop] := by
  rw [hasW_modes]
  unfold Sta.known
  simp only [eqS_beq]

theorem has_idx (x : ByteArray) : ∀ (l : List ByteArray) (i : Int), 0 ≤ i → hasW x l = decide (idxS x l i ≥ 0)
  | [], i, _ => rfl
  | k :: r, i, hi => by
    unfold hasW idxS
    rw [eqS_comm k x]
    cases eqS x k with
    | true => exact (decide_eq_true hi).symm
    | false => exact has_idx x r (i + 1) (by omega)

theorem c_rfeathered (up : List Ces) (m : Mc) (p0 p1 p2 : Int) : Cs gl n_nacelleref05_feathered up [m.iv, .agg [.int .i64 p0, .int .i64 p1, .int .i64 p2]] (.int .i64 (atA m.fea [p0, p1, p2])) up := by
  refine mk h_nacelleref05_feathered rfl rfl ?_
  conv => whnf
  refine .mk (α := {k : Nat // k ≤ 3}) (fun k => ⟨[(6, .int .i64 k.1), (5, .int .i64 (atA m.fea ([p0, p1, p2].take k.1))), (3, .ptr 0 3 0), (2, .ptr 0 2 0)], [(3, [.int .i64 p0, .int .i64 p1, .int .i64 p2]), (2, m.cs)], up⟩) (fun k => 3 - k.1) ⟨0, Nat.zero_le _⟩ ⟨?_, ?_, rfl, rfl⟩ ?_
  · exact ⟨leV_refl _, leV_refl _, leV_refl _, leV_refl _, trivial⟩
  · exact ⟨leL_refl _, leL_refl _, trivial⟩
  rintro ⟨k, hk⟩
  obtain rfl | rfl | rfl | rfl : k = 0 ∨ k = 1 ∨ k = 2 ∨ k = 3 := by omega
  · cases q : (p0 == m.fea) with
    | true =>
      have e : p0 = m.fea := by simpa using q
      conv => whnf
      refine DRAW.seek ?_
      repeat (first | refine TRYD.take ?_ | refine TRYD.next ?_)
      conv => whnf
      split
      rotate_left
      · rename_i h
        exact Bool.noConfusion ((q).symm.trans h)
      rename_i hN
      clear hN
      conv => whnf
      refine ⟨⟨1, by omega⟩, ⟨⟨leV_refl _, leV_int ?_, leV_refl _, leV_refl _, trivial⟩, ⟨leL_refl _, leL_refl _, trivial⟩, rfl, rfl⟩, by simp⟩
      show w64 (atA m.fea ([p0, p1, p2].take 0) + 1) = atA m.fea ([p0, p1, p2].take 1)
      simp only [List.take, atA, e, if_true]
      rw [w64, wrap_in (by repeat (first | omega | split)) (by repeat (first | omega | split))]
      omega
    | false =>
      have e : ¬ p0 = m.fea := by simpa using q
      conv => whnf
      refine DRAW.seek ?_
      repeat (first | refine TRYD.take ?_ | refine TRYD.next ?_)
      conv => whnf
      split
      · rename_i h
        exact Bool.noConfusion ((q).symm.trans h)
      rename_i hN
      clear hN
      conv => whnf
      refine ⟨⟨1, by omega⟩, ⟨⟨leV_refl _, leV_int ?_, leV_refl _, leV_refl _, trivial⟩, ⟨leL_refl _, leL_refl _, trivial⟩, rfl, rfl⟩, by simp⟩
      simp only [List.take, atA, if_neg e]
      omega
  · cases q : (p1 == m.fea) with
    | true =>
      have e : p1 = m.fea := by simpa using q
      conv => whnf
      refine DRAW.seek ?_
      repeat (first | refine TRYD.take ?_ | refine TRYD.next ?_)
      conv => whnf
      split
      rotate_left
      · rename_i h
        exact Bool.noConfusion ((q).symm.trans h)
      rename_i hN
      clear hN
      conv => whnf
      refine ⟨⟨2, by omega⟩, ⟨⟨leV_refl _, leV_int ?_, leV_refl _, leV_refl _, trivial⟩, ⟨leL_refl _, leL_refl _, trivial⟩, rfl, rfl⟩, by simp⟩
      show w64 (atA m.fea ([p0, p1, p2].take 1) + 1) = atA m.fea ([p0, p1, p2].take 2)
      simp only [List.take, atA, e, if_true]
      rw [w64, wrap_in (by repeat (first | omega | split)) (by repeat (first | omega | split))]
      omega
    | false =>
      have e : ¬ p1 = m.fea := by simpa using q
      conv => whnf
      refine DRAW.seek ?_
      repeat (first | refine TRYD.take ?_ | refine TRYD.next ?_)
      conv => whnf
      split
      · rename_i h
        exact Bool.noConfusion ((q).symm.trans h)
      rename_i hN
      clear hN
      conv => whnf
      refine ⟨⟨2, by omega⟩, ⟨⟨leV_refl _, leV_int ?_, leV_refl _, leV_refl _, trivial⟩, ⟨leL_refl _, leL_refl _, trivial⟩, rfl, rfl⟩, by simp⟩
      simp only [List.take, atA, if_neg e]
      omega
  · cases q : (p2 == m.fea) with
    | true =>
      have e : p2 = m.fea := by simpa using q
      conv => whnf
      refine DRAW.seek ?_
      repeat (first | refine TRYD.take ?_ | refine TRYD.next ?_)
      conv => whnf
      split
      rotate_left
      · rename_i h
        exact Bool.noConfusion ((q).symm.trans h)
      rename_i hN
      clear hN
      conv => whnf
      refine ⟨⟨3, by omega⟩, ⟨⟨leV_refl _, leV_int ?_, leV_refl _, leV_refl _, trivial⟩, ⟨leL_refl _, leL_refl _, trivial⟩, rfl, rfl⟩, by simp⟩
      show w64 (atA m.fea ([p0, p1, p2].take 2) + 1) = atA m.fea ([p0, p1, p2].take 3)
      simp only [List.take, atA, e, if_true]
      rw [w64, wrap_in (by repeat (first | omega | split)) (by repeat (first | omega | split))]
      omega
    | false =>
      have e : ¬ p2 = m.fea := by simpa using q
      conv => whnf
      refine DRAW.seek ?_
      repeat (first | refine TRYD.take ?_ | refine TRYD.next ?_)
      conv => whnf
      split
      · rename_i h
        exact Bool.noConfusion ((q).symm.trans h)
      rename_i hN
      clear hN
      conv => whnf
      refine ⟨⟨3, by omega⟩, ⟨⟨leV_refl _, leV_int ?_, leV_refl _, leV_refl _, trivial⟩, ⟨leL_refl _, leL_refl _, trivial⟩, rfl, rfl⟩, by simp⟩
      simp only [List.take, atA, if_neg e]
      omega
  · conv => whnf
    exact ⟨rfl, rfl⟩
end Go.Proofs.YtkdlegfakefjgaaGreatDoor.Ix

/-
  Ca10: contracts of the exported functions of the package control for acts: Allowed, Next, Propose.
-/
namespace Go.Proofs.YtkdlegfakefjgaaGreatDoor.Ix
open Go.Proofs
set_option maxRecDepth 100000
set_option linter.unusedVariables false
set_option linter.unusedSimpArgs false
variable {gl : Nat → IV}

noncomputable def Sta.safeN (s : Sta) (m : Mc) : Bool := s.safeB m fun k => s.num m k
noncomputable def Sta.allowedN (s : Sta) (m : Mc) (a : Ac) : Int := s.allowedW m a fun k => (s.behindW m a).num m k

/-- An act with numbers of a machine. -/
structure Ac.ok (a : Ac) (m : Mc) : Prop where
  wind : 0 ≤ a.wind ∧ a.wind ≤ m.wind
  pitch : 0 ≤ a.pitch ∧ a.pitch ≤ m.fea
  tor : 0 ≤ a.tor ∧ a.tor ≤ m.tor
  stuck : -1 ≤ a.stuck ∧ a.stuck ≤ 2

theorem Ac.err_ok {a : Ac} {m : Mc} (h : a.err m = 0) : m.ok ∧ a.ok m ∧ idxS a.kind kindsL 0 ≥ 0 ∧ a.formB = true := by
  unfold Ac.err Ac.checkE at h
  rw [orL_zero] at h
  simp only [List.mem_cons, List.not_mem_nil, or_false, forall_eq_or_imp, forall_eq] at h
  obtain ⟨h1, h2⟩ := h
  rw [orL_zero] at h2
  simp only [List.mem_cons, List.not_mem_nil, or_false, forall_eq_or_imp, forall_eq, withinS_zero] at h2
  obtain ⟨a1, a2, a3, a4, a5, a6⟩ := h2
  rw [bif_nz (by decide)] at a1 a6
  exact ⟨Mc.err_ok h1, ⟨a2, a3, a4, a5⟩, by simpa using a1, by simpa using a6⟩

theorem mvW_rng {m : Mc} (hm : m.ok) {a p : Int} (ha : 0 ≤ a ∧ a ≤ m.fea) (h : 0 ≤ p ∧ p ≤ m.fea) : mvW m a p = max (p - m.rate) (min (p + m.rate) a) ∧ 0 ≤ mvW m a p ∧ mvW m a p ≤ m.fea := by
  obtain ⟨h1, h2, h3, h4, h5, h6, h7, h8⟩ := hm
  have e1 : w64 (p - m.rate) = p - m.rate := by rw [w64, wrap_in] <;> omega
  have e2 : w64 (p + m.rate) = p + m.rate := by rw [w64, wrap_in] <;> omega
  have e : mvW m a p = max (p - m.rate) (min (p + m.rate) a) := by
    unfold mvW
    rw [e1, e2]
    unfold maxW minW
    split <;> split <;> omega
  rw [e]
  exact ⟨rfl, by omega, by omega⟩

theorem maxW_0 (x : Int) : 0 ≤ maxW 0 x := by unfold maxW; split <;> omega

theorem moved_rng {m : Mc} (hm : m.ok) {s : Sta} (hs : s.rng m) {a stuck : Int} (ha : 0 ≤ a ∧ a ≤ m.fea) : (s.movedW m a stuck).rng m := by
  obtain ⟨g1, g2, g3, g4⟩ := hs
  have q : ∀ (i p : Int), (0 ≤ p ∧ p ≤ m.fea) → 0 ≤ (bif i != stuck then mvW m a p else p) ∧ (bif i != stuck then mvW m a p else p) ≤ m.fea := fun i p h => by
    have := (mvW_rng hm ha h).2
    cases (i != stuck)
    · exact h
    · exact this
  exact ⟨g1, q 0 _ g2, q 1 _ g3, q 2 _ g4⟩

/-- Behind a tick the blades are in range. -/
theorem tick_rng {m : Mc} (hm : m.ok) {s : Sta} (hs : s.rng m) {a : Ac} (ha : a.ok m) (hk : eqS a.kind sTick = true) (hsp : (s.behindW m a).speed ≤ m.lim) : (s.behindW m a).rng m := by
  have hkk := eqS_iff.1 hk
  have hst : eqS a.kind sStart = false := by
    cases h : eqS a.kind sStart with
    | false => rfl
    | true =>
      have := eqS_iff.1 h
      rw [hkk] at this
      exact absurd this (by decide)
  have e : s.behindW m a = Sta.laterW { s.movedW m a.pitch a.stuck with tor := a.tor } a.wind := by
    unfold Sta.behindW
    rw [hst, hk]; rfl
  rw [e] at hsp ⊢
  obtain ⟨g1, g2, g3, g4⟩ := moved_rng hm hs (stuck := a.stuck) ha.pitch
  have := hm.lim
  exact ⟨⟨maxW_0 _, by omega⟩, g2, g3, g4⟩

theorem allowed_takes {m : Mc} (hm : m.ok) {s : Sta} (hs : s.rng m) {a : Ac} (ha : a.ok m) (hk : eqS a.kind sTick = true) (hsp : (s.behindW m a).speed ≤ m.lim) : ∀ k, k < 3 → (s.behindW m a).takes m (k : Nat) ((s.behindW m a).num m k) ∧ (s.behindW m a).num m k ≤ 1000000 := fun k hk3 =>
  takes_num hm (tick_rng hm hs ha hk hsp) (by have := hm.lim; omega) (by omega) (by omega)

theorem c_allowedN (up : List Ces) (m : Mc) (s : Sta) (a : Ac) (hm : m.ok) (hs : s.rng m) (ha : a.ok m) : Cs gl n_control_State_allowed up [s.iv, m.iv, a.iv] (.int .i64 (s.allowedN m a)) up :=
  c_allowed up m s a _ (allowed_takes hm hs ha)

def actE (m : Mc) (s : Sta) (a : Ac) : Int := orL [s.err m, a.err m]
theorem actE_ok {m : Mc} {s : Sta} {a : Ac} (h : actE m s a = 0) : s.err m = 0 ∧ a.err m = 0 := by
  unfold actE at h
  rw [orL_zero] at h
  simpa using h

theorem c_Allowed (up : List Ces) (hk : gl g_control_kinds = kindsI) (m : Mc) (s : Sta) (a : Ac) :
    Cs gl n_control_Allowed up [m.iv, s.iv, a.iv] (bif actE m s a != 0 then .tup [.int .i64 0, .int .i64 (actE m s a)] else .tup [.int .i64 (s.allowedN m a), .int .i64 0]) up := by
  refine mk h_control_Allowed rfl rfl ?_
  have hA := fun up => c_CheckAct (gl := gl) up hk m a
  by_cases h0 : actE m s a = 0
  · obtain ⟨h1, h2⟩ := actE_ok h0
    have hw := fun up => c_allowedN (gl := gl) up m s a (Ac.err_ok h2).1 (Sta.err_rng h1).2.1 (Ac.err_ok h2).2.1
    have q : (actE m s a != 0) = false := by simpa using h0
    rw [q]
    conv => whnf
    repeat first
      | (refine DRAW.seek ?_; repeat (first | refine TRYD.take ?_ | refine TRYD.next ?_); conv => whnf)
      | (refine HOLD.mk (by first | exact trivial | exact ⟨⟨rfl, rfl⟩, trivial⟩ | exact ⟨⟨rfl, rfl⟩, ⟨rfl, rfl⟩, trivial⟩) ?_; (conv => whnf))
      | (refine CALL0.by (c_CheckState ..) rfl ?_; conv => whnf)
      | (refine CALLQ.mk _ _ _ (leL_refl _) (c_CheckState ..) rfl ?_; conv => whnf)
      | (refine CALL0.by (hA ..) rfl ?_; conv => whnf)
      | (refine CALLQ.mk _ _ _ (leL_refl _) (hA ..) rfl ?_; conv => whnf)
    refine .mk _ _ _ _ _ (leL_refl _) (c_f2 _ _ _ _ rfl rfl) rfl ?_
    conv => whnf
    split
    · rename_i h
      exact Bool.noConfusion ((q).symm.trans h)
    rename_i hN
    clear hN
    conv => whnf
    repeat first
      | (refine DRAW.seek ?_; repeat (first | refine TRYD.take ?_ | refine TRYD.next ?_); conv => whnf)
      | (refine HOLD.mk (by first | exact trivial | exact ⟨⟨rfl, rfl⟩, trivial⟩ | exact ⟨⟨rfl, rfl⟩, ⟨rfl, rfl⟩, trivial⟩) ?_; (conv => whnf))
      | (refine CALL0.by (hw ..) rfl ?_; conv => whnf)
      | (refine CALLQ.mk _ _ _ (leL_refl _) (hw ..) rfl ?_; conv => whnf)
    exact ⟨rfl, rfl⟩
  · have q : (actE m s a != 0) = true := by simpa using h0
    rw [q]
    conv => whnf
    repeat first
      | (refine DRAW.seek ?_; repeat (first | refine TRYD.take ?_ | refine TRYD.next ?_); conv => whnf)
      | (refine HOLD.mk (by first | exact trivial | exact ⟨⟨rfl, rfl⟩, trivial⟩ | exact ⟨⟨rfl, rfl⟩, ⟨rfl, rfl⟩, trivial⟩) ?_; (conv => whnf))
      | (refine CALL0.by (c_CheckState ..) rfl ?_; conv => whnf)
      | (refine CALLQ.mk _ _ _ (leL_refl _) (c_CheckState ..) rfl ?_; conv => whnf)
      | (refine CALL0.by (hA ..) rfl ?_; conv => whnf)
      | (refine CALLQ.mk _ _ _ (leL_refl _) (hA ..) rfl ?_; conv => whnf)
    refine .mk _ _ _ _ _ (leL_refl _) (c_f2 _ _ _ _ rfl rfl) rfl ?_
    conv => whnf
    split
    rotate_left
    · rename_i h
      exact Bool.noConfusion ((q).symm.trans h)
    rename_i hN
    clear hN
    conv => whnf
    exact ⟨rfl, rfl⟩

noncomputable def nextR (m : Mc) (s : Sta) (a : Ac) : IV := bif actE m s a != 0 then .tup [Sta.zero.iv, .int .i64 (actE m s a)] else
  bif s.allowedN m a != 0 then .tup [Sta.zero.iv, .int .i64 19] else .tup [(s.behindW m a).iv, .int .i64 0]

theorem c_Next (up : List Ces) (hk : gl g_control_kinds = kindsI) (m : Mc) (s : Sta) (a : Ac) : Cs gl n_control_Next up [m.iv, s.iv, a.iv] (nextR m s a) up := by
  refine mk h_control_Next rfl rfl ?_
  unfold nextR
  have hA := fun up => c_CheckAct (gl := gl) up hk m a
  by_cases h0 : actE m s a = 0
  · obtain ⟨h1, h2⟩ := actE_ok h0
    have hw := fun up => c_allowedN (gl := gl) up m s a (Ac.err_ok h2).1 (Sta.err_rng h1).2.1 (Ac.err_ok h2).2.1
    have q : (actE m s a != 0) = false := by simpa using h0
    rw [q]
    cases q2 : (s.allowedN m a != 0) with
    | true =>
      conv => whnf
      repeat first
        | (refine DRAW.seek ?_; repeat (first | refine TRYD.take ?_ | refine TRYD.next ?_); conv => whnf)
        | (refine HOLD.mk (by first | exact trivial | exact ⟨⟨rfl, rfl⟩, trivial⟩ | exact ⟨⟨rfl, rfl⟩, ⟨rfl, rfl⟩, trivial⟩) ?_; (conv => whnf))
        | (refine CALL0.by (c_CheckState ..) rfl ?_; conv => whnf)
        | (refine CALLQ.mk _ _ _ (leL_refl _) (c_CheckState ..) rfl ?_; conv => whnf)
        | (refine CALL0.by (hA ..) rfl ?_; conv => whnf)
        | (refine CALLQ.mk _ _ _ (leL_refl _) (hA ..) rfl ?_; conv => whnf)
      refine .mk _ _ _ _ _ (leL_refl _) (c_f2 _ _ _ _ rfl rfl) rfl ?_
      conv => whnf
      split
      · rename_i h
        exact Bool.noConfusion ((q).symm.trans h)
      rename_i hN
      clear hN
      conv => whnf
      repeat first
        | (refine DRAW.seek ?_; repeat (first | refine TRYD.take ?_ | refine TRYD.next ?_); conv => whnf)
        | (refine HOLD.mk (by first | exact trivial | exact ⟨⟨rfl, rfl⟩, trivial⟩ | exact ⟨⟨rfl, rfl⟩, ⟨rfl, rfl⟩, trivial⟩) ?_; (conv => whnf))
        | (refine CALL0.by (hw ..) rfl ?_; conv => whnf)
        | (refine CALLQ.mk _ _ _ (leL_refl _) (hw ..) rfl ?_; conv => whnf)
      split
      rotate_left
      · rename_i h
        exact Bool.noConfusion ((q2).symm.trans h)
      rename_i hN
      clear hN
      conv => whnf
      exact ⟨rfl, rfl⟩
    | false =>
      conv => whnf
      repeat first
        | (refine DRAW.seek ?_; repeat (first | refine TRYD.take ?_ | refine TRYD.next ?_); conv => whnf)
        | (refine HOLD.mk (by first | exact trivial | exact ⟨⟨rfl, rfl⟩, trivial⟩ | exact ⟨⟨rfl, rfl⟩, ⟨rfl, rfl⟩, trivial⟩) ?_; (conv => whnf))
        | (refine CALL0.by (c_CheckState ..) rfl ?_; conv => whnf)
        | (refine CALLQ.mk _ _ _ (leL_refl _) (c_CheckState ..) rfl ?_; conv => whnf)
        | (refine CALL0.by (hA ..) rfl ?_; conv => whnf)
        | (refine CALLQ.mk _ _ _ (leL_refl _) (hA ..) rfl ?_; conv => whnf)
      refine .mk _ _ _ _ _ (leL_refl _) (c_f2 _ _ _ _ rfl rfl) rfl ?_
      conv => whnf
      split
      · rename_i h
        exact Bool.noConfusion ((q).symm.trans h)
      rename_i hN
      clear hN
      conv => whnf
      repeat first
        | (refine DRAW.seek ?_; repeat (first | refine TRYD.take ?_ | refine TRYD.next ?_); conv => whnf)
        | (refine HOLD.mk (by first | exact trivial | exact ⟨⟨rfl, rfl⟩, trivial⟩ | exact ⟨⟨rfl, rfl⟩, ⟨rfl, rfl⟩, trivial⟩) ?_; (conv => whnf))
        | (refine CALL0.by (hw ..) rfl ?_; conv => whnf)
        | (refine CALLQ.mk _ _ _ (leL_refl _) (hw ..) rfl ?_; conv => whnf)
      split
      · rename_i h
        exact Bool.noConfusion ((q2).symm.trans h)
      rename_i hN
      clear hN
      conv => whnf
      repeat first
        | (refine DRAW.seek ?_; repeat (first | refine TRYD.take ?_ | refine TRYD.next ?_); conv => whnf)
        | (refine HOLD.mk (by first | exact trivial | exact ⟨⟨rfl, rfl⟩, trivial⟩ | exact ⟨⟨rfl, rfl⟩, ⟨rfl, rfl⟩, trivial⟩) ?_; (conv => whnf))
        | (refine CALL0.by (c_behind ..) rfl ?_; conv => whnf)
        | (refine CALLQ.mk _ _ _ (leL_refl _) (c_behind ..) rfl ?_; conv => whnf)
      exact ⟨rfl, rfl⟩
  · have q : (actE m s a != 0) = true := by simpa using h0
    rw [q]
    conv => whnf
    repeat first
      | (refine DRAW.seek ?_; repeat (first | refine TRYD.take ?_ | refine TRYD.next ?_); conv => whnf)
      | (refine HOLD.mk (by first | exact trivial | exact ⟨⟨rfl, rfl⟩, trivial⟩ | exact ⟨⟨rfl, rfl⟩, ⟨rfl, rfl⟩, trivial⟩) ?_; (conv => whnf))
      | (refine CALL0.by (c_CheckState ..) rfl ?_; conv => whnf)
      | (refine CALLQ.mk _ _ _ (leL_refl _) (c_CheckState ..) rfl ?_; conv => whnf)
      | (refine CALL0.by (hA ..) rfl ?_; conv => whnf)
      | (refine CALLQ.mk _ _ _ (leL_refl _) (hA ..) rfl ?_; conv => whnf)
    refine .mk _ _ _ _ _ (leL_refl _) (c_f2 _ _ _ _ rfl rfl) rfl ?_
    conv => whnf
    split
    rotate_left
    · rename_i h
      exact Bool.noConfusion ((q).symm.trans h)
    rename_i hN
    clear hN
    conv => whnf
    exact ⟨rfl, rfl⟩
end Go.Proofs.YtkdlegfakefjgaaGreatDoor.Ix

/-
  Ca11: contracts of propose and Propose.
-/
namespace Go.Proofs.YtkdlegfakefjgaaGreatDoor.Ix
open Go.Proofs
set_option maxRecDepth 100000
set_option linter.unusedVariables false
set_option linter.unusedSimpArgs false
variable {gl : Nat → IV}

def plainA (k : ByteArray) : Ac := ⟨k, 0, 0, 0, -1⟩
def Sta.tickA (s : Sta) (wind p t : Int) : Ac := ⟨sTick, wind, p, t, s.stuck⟩
def Sta.pitchW (s : Sta) (m : Mc) : Int := minW (maxW (w64 (m.gain * w64 (s.speed - m.rated))) 0) m.fea
def Sta.torW (s : Sta) (m : Mc) : Int := minW (w64 (Int.tdiv (w64 (m.tor * s.speed)) m.rated)) m.tor

noncomputable def Sta.proposeW (s : Sta) (m : Mc) (wind : Int) : Ac :=
  bif eqS s.mode sIdle then (bif s.allowedN m (plainA sStart) == 4 then plainA sRepair else plainA sStart) else
  bif eqS s.mode sStop then (bif s.allowedN m (plainA sRest) == 0 then plainA sRest else ⟨sBrake, wind, 0, 0, s.stuck⟩) else
  bif s.allowedN m (s.tickA wind (s.pitchW m) (s.torW m)) == 0 then s.tickA wind (s.pitchW m) (s.torW m) else
  bif s.allowedN m (s.tickA wind m.fea (s.torW m)) == 0 then s.tickA wind m.fea (s.torW m) else plainA sStop

theorem plain_ok {m : Mc} (hm : m.ok) (k : ByteArray) : (plainA k).ok m := by
  obtain ⟨h1, h2, h3, h4, h5, h6, h7, h8⟩ := hm
  exact ⟨⟨Int.le_refl _, by show (0 : Int) ≤ _; omega⟩, ⟨Int.le_refl _, by show (0 : Int) ≤ _; omega⟩, ⟨Int.le_refl _, by show (0 : Int) ≤ _; omega⟩, by show (-1 : Int) ≤ -1; decide, by show (-1 : Int) ≤ 2; decide⟩

theorem pitch_rng {m : Mc} (hm : m.ok) (s : Sta) : 0 ≤ s.pitchW m ∧ s.pitchW m ≤ m.fea := by
  have := hm.fea
  unfold Sta.pitchW minW maxW
  split <;> split <;> omega

theorem tor_rng {m : Mc} (hm : m.ok) {s : Sta} (hs : 0 ≤ s.speed ∧ s.speed ≤ 10000) : 0 ≤ s.torW m ∧ s.torW m ≤ m.tor := by
  obtain ⟨h1, h2, h3, h4, h5, h6, h7, h8⟩ := hm
  have a1 : 0 ≤ m.tor * s.speed := Int.mul_nonneg h4.1 hs.1
  have a2 : m.tor * s.speed ≤ 100 * 10000 := Int.mul_le_mul h4.2 hs.2 hs.1 (by decide)
  have e1 : w64 (m.tor * s.speed) = m.tor * s.speed := by rw [w64, wrap_in] <;> omega
  have b1 : 0 ≤ (m.tor * s.speed).tdiv m.rated := Int.tdiv_nonneg a1 (by omega)
  have b2 : (m.tor * s.speed).tdiv m.rated ≤ m.tor * s.speed := by
    rw [Int.tdiv_eq_ediv_of_nonneg a1]
    exact Int.ediv_le_self _ a1
  have e2 : w64 ((m.tor * s.speed).tdiv m.rated) = (m.tor * s.speed).tdiv m.rated := by rw [w64, wrap_in] <;> omega
  unfold Sta.torW
  rw [e1, e2]
  unfold minW
  split <;> omega

theorem tick_ok {m : Mc} (hm : m.ok) {s : Sta} (hs : 0 ≤ s.speed ∧ s.speed ≤ 10000) (hst : -1 ≤ s.stuck ∧ s.stuck ≤ 2) {wind p : Int} (hw : 0 ≤ wind ∧ wind ≤ m.wind) (hp : 0 ≤ p ∧ p ≤ m.fea) : (s.tickA wind p (s.torW m)).ok m :=
  ⟨hw, hp, tor_rng hm hs, hst⟩

set_option maxHeartbeats 16000000 in
theorem c_propose (up : List Ces) (m : Mc) (s : Sta) (wind : Int) (hm : m.ok) (hs : s.rng m) (hsp : s.speed ≤ 10000) (hst : -1 ≤ s.stuck ∧ s.stuck ≤ 2) (hw : 0 ≤ wind ∧ wind ≤ m.wind) :
    Cs gl n_control_State_propose up [s.iv, m.iv, .int .i64 wind] (s.proposeW m wind).iv up := by
  refine mk h_control_State_propose rfl rfl ?_
  have hA := fun up (k : ByteArray) => c_allowedN (gl := gl) up m s (plainA k) hm hs (plain_ok hm k)
  have hT := fun up (p : Int) (hp : 0 ≤ p ∧ p ≤ m.fea) => c_allowedN (gl := gl) up m s (s.tickA wind p (s.torW m)) hm hs (tick_ok hm ⟨hs.speed.1, hsp⟩ hst hw hp)
  have hP := fun up (k : ByteArray) => c_plain (gl := gl) up k
  unfold Sta.proposeW
  cases q1 : eqS s.mode sIdle with
  | true =>
    have hA := fun up => hA up sStart
    cases q2 : s.allowedN m (plainA sStart) == 4 with
    | true =>
      conv => whnf
      refine DRAW.seek ?_
      repeat (first | refine TRYD.take ?_ | refine TRYD.next ?_)
      conv => whnf
      split
      rotate_left
      · rename_i h
        exact Bool.noConfusion ((q1).symm.trans h)
      rename_i hN
      clear hN
      conv => whnf
      repeat first
        | (refine DRAW.seek ?_; repeat (first | refine TRYD.take ?_ | refine TRYD.next ?_); conv => whnf)
        | (refine HOLD.mk (by first | exact trivial | exact ⟨⟨rfl, rfl⟩, trivial⟩ | exact ⟨⟨rfl, rfl⟩, ⟨rfl, rfl⟩, trivial⟩) ?_; (conv => whnf))
        | (refine CALL0.by (hP ..) rfl ?_; conv => whnf)
        | (refine CALLQ.mk _ _ _ (leL_refl _) (hP ..) rfl ?_; conv => whnf)
        | (refine CALL0.by (hA ..) rfl ?_; conv => whnf)
        | (refine CALLQ.mk _ _ _ (leL_refl _) (hA ..) rfl ?_; conv => whnf)
      split
      rotate_left
      · rename_i h
        exact Bool.noConfusion ((q2).symm.trans h)
      rename_i hN
      clear hN
      conv => whnf
      repeat first
        | (refine DRAW.seek ?_; repeat (first | refine TRYD.take ?_ | refine TRYD.next ?_); conv => whnf)
        | (refine HOLD.mk (by first | exact trivial | exact ⟨⟨rfl, rfl⟩, trivial⟩ | exact ⟨⟨rfl, rfl⟩, ⟨rfl, rfl⟩, trivial⟩) ?_; (conv => whnf))
        | (refine CALL0.by (hP ..) rfl ?_; conv => whnf)
        | (refine CALLQ.mk _ _ _ (leL_refl _) (hP ..) rfl ?_; conv => whnf)
      exact ⟨rfl, rfl⟩
    | false =>
      conv => whnf
      refine DRAW.seek ?_
      repeat (first | refine TRYD.take ?_ | refine TRYD.next ?_)
      conv => whnf
      split
      rotate_left
      · rename_i h
        exact Bool.noConfusion ((q1).symm.trans h)
      rename_i hN
      clear hN
      conv => whnf
      repeat first
        | (refine DRAW.seek ?_; repeat (first | refine TRYD.take ?_ | refine TRYD.next ?_); conv => whnf)
        | (refine HOLD.mk (by first | exact trivial | exact ⟨⟨rfl, rfl⟩, trivial⟩ | exact ⟨⟨rfl, rfl⟩, ⟨rfl, rfl⟩, trivial⟩) ?_; (conv => whnf))
        | (refine CALL0.by (hP ..) rfl ?_; conv => whnf)
        | (refine CALLQ.mk _ _ _ (leL_refl _) (hP ..) rfl ?_; conv => whnf)
        | (refine CALL0.by (hA ..) rfl ?_; conv => whnf)
        | (refine CALLQ.mk _ _ _ (leL_refl _) (hA ..) rfl ?_; conv => whnf)
      split
      · rename_i h
        exact Bool.noConfusion ((q2).symm.trans h)
      rename_i hN
      clear hN
      conv => whnf
      split
      rotate_left
      · rename_i h
        exact Bool.noConfusion ((q1).symm.trans h)
      rename_i hN
      clear hN
      conv => whnf
      repeat first
        | (refine DRAW.seek ?_; repeat (first | refine TRYD.take ?_ | refine TRYD.next ?_); conv => whnf)
        | (refine HOLD.mk (by first | exact trivial | exact ⟨⟨rfl, rfl⟩, trivial⟩ | exact ⟨⟨rfl, rfl⟩, ⟨rfl, rfl⟩, trivial⟩) ?_; (conv => whnf))
        | (refine CALL0.by (hP ..) rfl ?_; conv => whnf)
        | (refine CALLQ.mk _ _ _ (leL_refl _) (hP ..) rfl ?_; conv => whnf)
      exact ⟨rfl, rfl⟩
  | false =>
  cases q3 : eqS s.mode sStop with
  | true =>
    have hA := fun up => hA up sRest
    cases q2 : s.allowedN m (plainA sRest) == 0 with
    | true =>
      conv => whnf
      refine DRAW.seek ?_
      repeat (first | refine TRYD.take ?_ | refine TRYD.next ?_)
      conv => whnf
      split
      · rename_i h
        exact Bool.noConfusion ((q1).symm.trans h)
      rename_i hN
      clear hN
      conv => whnf
      split
      · rename_i h
        exact Bool.noConfusion ((q1).symm.trans h)
      rename_i hN
      clear hN
      conv => whnf
      refine DRAW.seek ?_
      repeat (first | refine TRYD.take ?_ | refine TRYD.next ?_)
      conv => whnf
      split
      rotate_left
      · rename_i h
        exact Bool.noConfusion ((q3).symm.trans h)
      rename_i hN
      clear hN
      conv => whnf
      repeat first
        | (refine DRAW.seek ?_; repeat (first | refine TRYD.take ?_ | refine TRYD.next ?_); conv => whnf)
        | (refine HOLD.mk (by first | exact trivial | exact ⟨⟨rfl, rfl⟩, trivial⟩ | exact ⟨⟨rfl, rfl⟩, ⟨rfl, rfl⟩, trivial⟩) ?_; (conv => whnf))
        | (refine CALL0.by (hP ..) rfl ?_; conv => whnf)
        | (refine CALLQ.mk _ _ _ (leL_refl _) (hP ..) rfl ?_; conv => whnf)
        | (refine CALL0.by (hA ..) rfl ?_; conv => whnf)
        | (refine CALLQ.mk _ _ _ (leL_refl _) (hA ..) rfl ?_; conv => whnf)
      split
      rotate_left
      · rename_i h
        exact Bool.noConfusion ((q2).symm.trans h)
      rename_i hN
      clear hN
      conv => whnf
      repeat first
        | (refine DRAW.seek ?_; repeat (first | refine TRYD.take ?_ | refine TRYD.next ?_); conv => whnf)
        | (refine HOLD.mk (by first | exact trivial | exact ⟨⟨rfl, rfl⟩, trivial⟩ | exact ⟨⟨rfl, rfl⟩, ⟨rfl, rfl⟩, trivial⟩) ?_; (conv => whnf))
        | (refine CALL0.by (hP ..) rfl ?_; conv => whnf)
        | (refine CALLQ.mk _ _ _ (leL_refl _) (hP ..) rfl ?_; conv => whnf)
      exact ⟨rfl, rfl⟩
    | false =>
      conv => whnf
      refine DRAW.seek ?_
      repeat (first | refine TRYD.take ?_ | refine TRYD.next ?_)
      conv => whnf
      split
      · rename_i h
        exact Bool.noConfusion ((q1).symm.trans h)
      rename_i hN
      clear hN
      conv => whnf
      split
      · rename_i h
        exact Bool.noConfusion ((q1).symm.trans h)
      rename_i hN
      clear hN
      conv => whnf
      refine DRAW.seek ?_
      repeat (first | refine TRYD.take ?_ | refine TRYD.next ?_)
      conv => whnf
      split
      rotate_left
      · rename_i h
        exact Bool.noConfusion ((q3).symm.trans h)
      rename_i hN
      clear hN
      conv => whnf
      repeat first
        | (refine DRAW.seek ?_; repeat (first | refine TRYD.take ?_ | refine TRYD.next ?_); conv => whnf)
        | (refine HOLD.mk (by first | exact trivial | exact ⟨⟨rfl, rfl⟩, trivial⟩ | exact ⟨⟨rfl, rfl⟩, ⟨rfl, rfl⟩, trivial⟩) ?_; (conv => whnf))
        | (refine CALL0.by (hP ..) rfl ?_; conv => whnf)
        | (refine CALLQ.mk _ _ _ (leL_refl _) (hP ..) rfl ?_; conv => whnf)
        | (refine CALL0.by (hA ..) rfl ?_; conv => whnf)
        | (refine CALLQ.mk _ _ _ (leL_refl _) (hA ..) rfl ?_; conv => whnf)
      split
      · rename_i h
        exact Bool.noConfusion ((q2).symm.trans h)
      rename_i hN
      clear hN
      conv => whnf
      split
      rotate_left
      · rename_i h
        exact Bool.noConfusion ((q3).symm.trans h)
      rename_i hN
      clear hN
      conv => whnf
      exact ⟨rfl, rfl⟩
  | false =>
    generalize hB1 : (s.allowedN m (s.tickA wind (s.pitchW m) (s.torW m)) == 0) = B1
    generalize hB2 : (s.allowedN m (s.tickA wind m.fea (s.torW m)) == 0) = B2
    have hr : m.rated ≠ 0 := by have := hm.rated; omega
    have qr : (m.rated != 0) = true := by simpa using hr
    have hT0 := fun up => hT up _ (pitch_rng hm s)
    have hT1 := fun up => hT up m.fea (by have := hm.fea; omega)
    conv => whnf
    refine DRAW.seek ?_
    repeat (first | refine TRYD.take ?_ | refine TRYD.next ?_)
    conv => whnf
    split
    · rename_i h
      exact Bool.noConfusion ((q1).symm.trans h)
    rename_i hN
    clear hN
    conv => whnf
    split
    · rename_i h
      exact Bool.noConfusion ((q1).symm.trans h)
    rename_i hN
    clear hN
    conv => whnf
    refine DRAW.seek ?_
    repeat (first | refine TRYD.take ?_ | refine TRYD.next ?_)
    conv => whnf
    split
    · rename_i h
      exact Bool.noConfusion ((q3).symm.trans h)
    rename_i hN
    clear hN
    conv => whnf
    split
    · rename_i h
      exact Bool.noConfusion ((q3).symm.trans h)
    rename_i hN
    clear hN
    conv => whnf
    refine DRAW.seek ?_
    repeat (first | refine TRYD.take ?_ | refine TRYD.next ?_)
    conv => whnf
    split
    rotate_left
    · rename_i h
      exact Bool.noConfusion ((qr).symm.trans h)
    rename_i hN
    clear hN
    conv => whnf
    refine .mk (α := {k : Nat // k ≤ 2 ∧ (1 ≤ k → B1 = false) ∧ (2 ≤ k → B2 = false)}) (fun k => ⟨[(79, .int .i64 k.1), (78, .agg [.int .i64 (s.pitchW m), .int .i64 m.fea]), (2, .int .i64 wind), (9, .int .i64 (s.torW m)), (7, .fn n_control_State_allowed [s.iv] []), (3, .ptr 0 3 0), (4, .ptr 0 4 0), (6, .ptr 0 6 0)],
      [(6, [.str ByteArray.empty, .int .i64 0, .int .i64 0, .int .i64 0, .int .i64 0]), (4, m.cs), (3, s.cs)], up⟩) (fun k => 2 - k.1) ⟨0, Nat.zero_le _, fun h => by omega, fun h => by omega⟩ ⟨?_, ?_, rfl, rfl⟩ ?_
    · exact ⟨leV_refl _, leV_refl _, leV_refl _, leV_refl _, leV_refl _, leV_refl _, leV_refl _, leV_refl _, trivial⟩
    · exact ⟨leL_refl _, leL_refl _, leL_refl _, trivial⟩
    rintro ⟨k, hk, hk1, hk2⟩
    obtain rfl | rfl | rfl : k = 0 ∨ k = 1 ∨ k = 2 := by omega
    · cases B1 with
      | true =>
        conv => whnf
        refine .mk _ _ _ _ _ (leL_refl _) (hT0 _) rfl ?_
        conv => whnf
        split
        rotate_left
        · rename_i h
          exact Bool.noConfusion ((hB1).symm.trans h)
        rename_i hN
        clear hN
        conv => whnf
        exact ⟨rfl, rfl⟩
      | false =>
        conv => whnf
        refine .mk _ _ _ _ _ (leL_refl _) (hT0 _) rfl ?_
        conv => whnf
        split
        · rename_i h
          exact Bool.noConfusion ((hB1).symm.trans h)
        rename_i hN
        clear hN
        conv => whnf
        exact ⟨⟨1, by omega, fun _ => rfl, fun h => by omega⟩, ⟨⟨leV_refl _, leV_refl _, leV_refl _, leV_refl _, leV_refl _, leV_refl _, leV_refl _, leV_refl _, trivial⟩, ⟨leL_refl _, leL_refl _, leL_refl _, trivial⟩, rfl, rfl⟩, by simp⟩
    · have e1 := hk1 (Nat.le_refl _)
      subst e1
      cases B2 with
      | true =>
        conv => whnf
        refine .mk _ _ _ _ _ (leL_refl _) (hT1 _) rfl ?_
        conv => whnf
        split
        rotate_left
        · rename_i h
          exact Bool.noConfusion ((hB2).symm.trans h)
        rename_i hN
        clear hN
        conv => whnf
        exact ⟨rfl, rfl⟩
      | false =>
        conv => whnf
        refine .mk _ _ _ _ _ (leL_refl _) (hT1 _) rfl ?_
        conv => whnf
        split
        · rename_i h
          exact Bool.noConfusion ((hB2).symm.trans h)
        rename_i hN
        clear hN
        conv => whnf
        exact ⟨⟨2, by omega, fun _ => rfl, fun _ => rfl⟩, ⟨⟨leV_refl _, leV_refl _, leV_refl _, leV_refl _, leV_refl _, leV_refl _, leV_refl _, leV_refl _, trivial⟩, ⟨leL_refl _, leL_refl _, leL_refl _, trivial⟩, rfl, rfl⟩, by simp⟩
    · have e1 := hk1 (by omega)
      have e2 := hk2 (Nat.le_refl _)
      subst e1 e2
      conv => whnf
      repeat first
        | (refine DRAW.seek ?_; repeat (first | refine TRYD.take ?_ | refine TRYD.next ?_); conv => whnf)
        | (refine HOLD.mk (by first | exact trivial | exact ⟨⟨rfl, rfl⟩, trivial⟩ | exact ⟨⟨rfl, rfl⟩, ⟨rfl, rfl⟩, trivial⟩) ?_; (conv => whnf))
        | (refine CALL0.by (hP ..) rfl ?_; conv => whnf)
        | (refine CALLQ.mk _ _ _ (leL_refl _) (hP ..) rfl ?_; conv => whnf)
      exact ⟨rfl, rfl⟩

noncomputable def proposeR (m : Mc) (s : Sta) (wind : Int) : IV := bif orL [s.err m, withinS wind 0 m.wind] != 0 then .tup [(Ac.mk ByteArray.empty 0 0 0 0).iv, .int .i64 (orL [s.err m, withinS wind 0 m.wind])] else .tup [(s.proposeW m wind).iv, .int .i64 0]

theorem c_Propose (up : List Ces) (m : Mc) (s : Sta) (wind : Int) : Cs gl n_control_Propose up [m.iv, s.iv, .int .i64 wind] (proposeR m s wind) up := by
  refine mk h_control_Propose rfl rfl ?_
  unfold proposeR
  by_cases h0 : orL [s.err m, withinS wind 0 m.wind] = 0
  · have h1 := h0
    rw [orL_zero] at h1
    simp only [List.mem_cons, List.not_mem_nil, or_false, forall_eq_or_imp, forall_eq, withinS_zero] at h1
    obtain ⟨hm, hs, hsp, hst, _⟩ := Sta.err_rng h1.1
    have hw := fun up => c_propose (gl := gl) up m s wind hm hs (by have := hm.lim; omega) hst h1.2
    have q : (orL [s.err m, withinS wind 0 m.wind] != 0) = false := by simpa using h0
    rw [q]
    conv => whnf
    repeat first
      | (refine DRAW.seek ?_; repeat (first | refine TRYD.take ?_ | refine TRYD.next ?_); conv => whnf)
      | (refine HOLD.mk (by first | exact trivial | exact ⟨⟨rfl, rfl⟩, trivial⟩ | exact ⟨⟨rfl, rfl⟩, ⟨rfl, rfl⟩, trivial⟩) ?_; (conv => whnf))
      | (refine CALL0.by (c_CheckState ..) rfl ?_; conv => whnf)
      | (refine CALLQ.mk _ _ _ (leL_refl _) (c_CheckState ..) rfl ?_; conv => whnf)
      | (refine CALL0.by (c_within ..) rfl ?_; conv => whnf)
      | (refine CALLQ.mk _ _ _ (leL_refl _) (c_within ..) rfl ?_; conv => whnf)
    refine .mk _ _ _ _ _ (leL_refl _) (c_f2 _ _ _ _ rfl rfl) rfl ?_
    conv => whnf
    split
    · rename_i h
      exact Bool.noConfusion ((q).symm.trans h)
    rename_i hN
    clear hN
    conv => whnf
    repeat first
      | (refine DRAW.seek ?_; repeat (first | refine TRYD.take ?_ | refine TRYD.next ?_); conv => whnf)
      | (refine HOLD.mk (by first | exact trivial | exact ⟨⟨rfl, rfl⟩, trivial⟩ | exact ⟨⟨rfl, rfl⟩, ⟨rfl, rfl⟩, trivial⟩) ?_; (conv => whnf))
      | (refine CALL0.by (hw ..) rfl ?_; conv => whnf)
      | (refine CALLQ.mk _ _ _ (leL_refl _) (hw ..) rfl ?_; conv => whnf)
    exact ⟨rfl, rfl⟩
  · have q : (orL [s.err m, withinS wind 0 m.wind] != 0) = true := by simpa using h0
    rw [q]
    conv => whnf
    repeat first
      | (refine DRAW.seek ?_; repeat (first | refine TRYD.take ?_ | refine TRYD.next ?_); conv => whnf)
      | (refine HOLD.mk (by first | exact trivial | exact ⟨⟨rfl, rfl⟩, trivial⟩ | exact ⟨⟨rfl, rfl⟩, ⟨rfl, rfl⟩, trivial⟩) ?_; (conv => whnf))
      | (refine CALL0.by (c_CheckState ..) rfl ?_; conv => whnf)
      | (refine CALLQ.mk _ _ _ (leL_refl _) (c_CheckState ..) rfl ?_; conv => whnf)
      | (refine CALL0.by (c_within ..) rfl ?_; conv => whnf)
      | (refine CALLQ.mk _ _ _ (leL_refl _) (c_within ..) rfl ?_; conv => whnf)
    refine .mk _ _ _ _ _ (leL_refl _) (c_f2 _ _ _ _ rfl rfl) rfl ?_
    conv => whnf
    split
    rotate_left
    · rename_i h
      exact Bool.noConfusion ((q).symm.trans h)
    rename_i hN
    clear hN
    conv => whnf
    exact ⟨rfl, rfl⟩
end Go.Proofs.YtkdlegfakefjgaaGreatDoor.Ix

/-
  Ca12: contracts of slices.Equal, CheckStop, Kinds.
-/
namespace Go.Proofs.YtkdlegfakefjgaaGreatDoor.Ix
open Go.Proofs
set_option maxRecDepth 100000
set_option linter.unusedVariables false
set_option linter.unusedSimpArgs false
variable {gl : Nat → IV}

def eqSta (a b : Sta) : Bool := eqS a.mode b.mode && (a.speed == b.speed && (a.p0 == b.p0 && (a.p1 == b.p1 && (a.p2 == b.p2 && (a.tor == b.tor && (a.stuck == b.stuck && true))))))
def allB (p : Nat → Bool) : Nat → Nat → Bool
  | 0, _ => true
  | n + 1, i => p i && allB p n (i + 1)

theorem c_Equal (up : List Ces) (n k : Nat) (hn : n ≤ 10000000) (f g : Nat → Sta) :
    Cs gl n_slices_Equal_control_State_control_State up [.lst none 7 n fun i => (f i).cs, .lst none 7 k fun i => (g i).cs] (.bool (bif (n : Int) != k then false else allB (fun i => eqSta (f i) (g i)) n 0)) up := by
  refine mk h_slices_Equal_control_State_control_State rfl rfl ?_
  cases q0 : ((n : Int) != k) with
  | true =>
    conv => whnf
    split
    rotate_left
    · rename_i h
      exact Bool.noConfusion ((q0).symm.trans h)
    rename_i hN
    clear hN
    conv => whnf
    exact ⟨rfl, rfl⟩
  | false =>
    have hnk : n = k := by
      have : (n : Int) = k := by simpa using q0
      omega
    generalize hR : allB (fun i => eqSta (f i) (g i)) n 0 = R
    conv => whnf
    split
    · rename_i h
      exact Bool.noConfusion ((q0).symm.trans h)
    rename_i hN
    clear hN
    conv => whnf
    refine .mk (α := {i : Nat // i ≤ n ∧ allB (fun i => eqSta (f i) (g i)) (n - i) i = R}) (fun i => ⟨[(13, .int .i64 i.1), (12, .int .i64 n), (0, .lst none 7 n fun i => (f i).cs), (1, .lst none 7 k fun i => (g i).cs)], [], up⟩) (fun i => n - i.1) ⟨0, Nat.zero_le _, hR⟩ ⟨?_, trivial, rfl, rfl⟩ ?_
    · exact ⟨leV_refl _, leV_refl _, leV_refl _, leV_refl _, trivial⟩
    rintro ⟨i, hi, he⟩
    have hw : w64 ((i : Int) + 1) = ((i + 1 : Nat) : Int) := by rw [w64, wrap_in] <;> omega
    by_cases hlt : i < n
    · have q : decide ((i : Int) < n) = true := decide_eq_true (by omega)
      have q2 : decide ((i : Int) < k) = true := decide_eq_true (by omega)
      have hstep : allB (fun i => eqSta (f i) (g i)) (n - i) i = (eqSta (f i) (g i) && allB (fun i => eqSta (f i) (g i)) (n - (i + 1)) (i + 1)) := by
        rw [show n - i = (n - (i + 1)) + 1 by omega]; rfl
      cases q3 : eqSta (f i) (g i) with
      | true =>
        have q4 : (!eqSta (f i) (g i)) = false := by rw [q3]; rfl
        rw [q3, Bool.true_and] at hstep
        conv => whnf
        split
        rotate_left
        · rename_i h
          exact Bool.noConfusion ((q).symm.trans h)
        rename_i hN
        clear hN
        conv => whnf
        refine DRAW.seek ?_
        repeat (first | refine TRYD.take ?_ | refine TRYD.next ?_)
        conv => whnf
        split
        rotate_left
        · rename_i h
          exact Bool.noConfusion ((q).symm.trans h)
        rename_i hN
        clear hN
        conv => whnf
        split
        rotate_left
        · rename_i h
          exact Bool.noConfusion ((q2).symm.trans h)
        rename_i hN
        clear hN
        conv => whnf
        split
        · rename_i h
          exact Bool.noConfusion ((q4).symm.trans h)
        rename_i hN
        clear hN
        conv => whnf
        exact ⟨⟨i + 1, hlt, hstep.symm.trans he⟩, ⟨⟨leV_int hw, leV_refl _, leV_refl _, leV_refl _, trivial⟩, trivial, rfl, rfl⟩, (by show n - (i + 1) < n - i; omega)⟩
      | false =>
        have q4 : (!eqSta (f i) (g i)) = true := by rw [q3]; rfl
        rw [q3, Bool.false_and] at hstep
        conv => whnf
        split
        rotate_left
        · rename_i h
          exact Bool.noConfusion ((q).symm.trans h)
        rename_i hN
        clear hN
        conv => whnf
        refine DRAW.seek ?_
        repeat (first | refine TRYD.take ?_ | refine TRYD.next ?_)
        conv => whnf
        split
        rotate_left
        · rename_i h
          exact Bool.noConfusion ((q).symm.trans h)
        rename_i hN
        clear hN
        conv => whnf
        split
        rotate_left
        · rename_i h
          exact Bool.noConfusion ((q2).symm.trans h)
        rename_i hN
        clear hN
        conv => whnf
        split
        rotate_left
        · rename_i h
          exact Bool.noConfusion ((q4).symm.trans h)
        rename_i hN
        clear hN
        conv => whnf
        exact ⟨congrArg IV.bool (hstep.symm.trans he), rfl⟩
    · have q : decide ((i : Int) < n) = false := decide_eq_false (by omega)
      have e : i = n := by omega
      subst e
      rw [Nat.sub_self] at he
      conv => whnf
      split
      · rename_i h
        exact Bool.noConfusion ((q).symm.trans h)
      rename_i hN
      clear hN
      conv => whnf
      exact ⟨congrArg IV.bool he, rfl⟩

/-- The states of a stop, as such. -/
def Sta.stopS (s : Sta) (m : Mc) (stuck : Int) : Nat → Sta
  | 0 => s.here stuck
  | k + 1 => s.stepW m stuck (k + 1)
theorem stopF_eq (s : Sta) (m : Mc) (stuck : Int) : s.stopF m stuck = fun k => (s.stopS m stuck k).cs := by
  funext k
  cases k <;> rfl

def csErr0 (s : Sta) (m : Mc) (stuck : Int) (n : Nat) : Int := orL [s.err m, withinS stuck (-1) 2, bif decide ((n : Int) > 4096) then 5 else 0]
/-- What CheckStop says of 'n' states. -/
noncomputable def csErr (s : Sta) (m : Mc) (stuck : Int) (n : Nat) (f : Nat → Sta) : Int :=
  bif csErr0 s m stuck n != 0 then csErr0 s m stuck n else
  bif decide (s.most m stuck (s.num m stuck) > m.lim) then 22 else
  bif !(bif (n : Int) != ((1 + s.num m stuck : Nat) : Int) then false else allB (fun i => eqSta (f i) (s.stopS m stuck i)) n 0) then 22 else 0

set_option maxHeartbeats 8000000 in
theorem c_CheckStop (up : List Ces) (s : Sta) (m : Mc) (stuck : Int) (n : Nat) (hn : n ≤ 10000000) (f : Nat → Sta) :
    Cs gl n_control_CheckStop up [m.iv, s.iv, .int .i64 stuck, .lst none 7 n fun i => (f i).cs] (.int .i64 (csErr s m stuck n f)) up := by
  refine mk h_control_CheckStop rfl rfl ?_
  unfold csErr
  by_cases h0 : csErr0 s m stuck n = 0
  · have h1 := h0
    unfold csErr0 at h1
    rw [orL_zero] at h1
    simp only [List.mem_cons, List.not_mem_nil, or_false, forall_eq_or_imp, forall_eq, withinS_zero] at h1
    obtain ⟨g1, ⟨g2, g3⟩, g4⟩ := h1
    obtain ⟨hm, hs, hsp, _⟩ := Sta.err_rng g1
    have ht := takes_num hm hs (by have := hm.lim; omega) g2 g3
    have hp := fun up => c_stop (gl := gl) up s m stuck g2 g3 (s.num m stuck) ht.1 ht.2
    have hE := fun up => c_Equal (gl := gl) up n (1 + s.num m stuck) hn f (s.stopS m stuck)
    have q : (csErr0 s m stuck n != 0) = false := by simpa using h0
    rw [q]
    unfold Sta.stopR at hp
    rw [stopF_eq] at hp
    cases q2 : decide (s.most m stuck (s.num m stuck) > m.lim) with
    | true =>
      rw [q2] at hp
      conv => whnf
      repeat first
        | (refine DRAW.seek ?_; repeat (first | refine TRYD.take ?_ | refine TRYD.next ?_); conv => whnf)
        | (refine HOLD.mk (by first | exact trivial | exact ⟨⟨rfl, rfl⟩, trivial⟩ | exact ⟨⟨rfl, rfl⟩, ⟨rfl, rfl⟩, trivial⟩) ?_; (conv => whnf))
        | (refine CALL0.by (c_CheckState ..) rfl ?_; conv => whnf)
        | (refine CALLQ.mk _ _ _ (leL_refl _) (c_CheckState ..) rfl ?_; conv => whnf)
        | (refine CALL0.by (c_checkBlade ..) rfl ?_; conv => whnf)
        | (refine CALLQ.mk _ _ _ (leL_refl _) (c_checkBlade ..) rfl ?_; conv => whnf)
        | (refine CALL0.by (c_when ..) rfl ?_; conv => whnf)
        | (refine CALLQ.mk _ _ _ (leL_refl _) (c_when ..) rfl ?_; conv => whnf)
      refine .mk _ _ _ _ _ (leL_refl _) (c_f3 _ _ _ _ _ rfl rfl rfl) rfl ?_
      conv => whnf
      split
      · rename_i h
        exact Bool.noConfusion ((q).symm.trans h)
      rename_i hN
      clear hN
      conv => whnf
      repeat first
        | (refine DRAW.seek ?_; repeat (first | refine TRYD.take ?_ | refine TRYD.next ?_); conv => whnf)
        | (refine HOLD.mk (by first | exact trivial | exact ⟨⟨rfl, rfl⟩, trivial⟩ | exact ⟨⟨rfl, rfl⟩, ⟨rfl, rfl⟩, trivial⟩) ?_; (conv => whnf))
        | (refine CALL0.by (hp ..) rfl ?_; conv => whnf)
        | (refine CALLQ.mk _ _ _ (leL_refl _) (hp ..) rfl ?_; conv => whnf)
        | (refine CALL0.by (c_when ..) rfl ?_; conv => whnf)
        | (refine CALLQ.mk _ _ _ (leL_refl _) (c_when ..) rfl ?_; conv => whnf)
      exact ⟨rfl, rfl⟩
    | false =>
      rw [q2] at hp
      conv => whnf
      repeat first
        | (refine DRAW.seek ?_; repeat (first | refine TRYD.take ?_ | refine TRYD.next ?_); conv => whnf)
        | (refine HOLD.mk (by first | exact trivial | exact ⟨⟨rfl, rfl⟩, trivial⟩ | exact ⟨⟨rfl, rfl⟩, ⟨rfl, rfl⟩, trivial⟩) ?_; (conv => whnf))
        | (refine CALL0.by (c_CheckState ..) rfl ?_; conv => whnf)
        | (refine CALLQ.mk _ _ _ (leL_refl _) (c_CheckState ..) rfl ?_; conv => whnf)
        | (refine CALL0.by (c_checkBlade ..) rfl ?_; conv => whnf)
        | (refine CALLQ.mk _ _ _ (leL_refl _) (c_checkBlade ..) rfl ?_; conv => whnf)
        | (refine CALL0.by (c_when ..) rfl ?_; conv => whnf)
        | (refine CALLQ.mk _ _ _ (leL_refl _) (c_when ..) rfl ?_; conv => whnf)
      refine .mk _ _ _ _ _ (leL_refl _) (c_f3 _ _ _ _ _ rfl rfl rfl) rfl ?_
      conv => whnf
      split
      · rename_i h
        exact Bool.noConfusion ((q).symm.trans h)
      rename_i hN
      clear hN
      conv => whnf
      repeat first
        | (refine DRAW.seek ?_; repeat (first | refine TRYD.take ?_ | refine TRYD.next ?_); conv => whnf)
        | (refine HOLD.mk (by first | exact trivial | exact ⟨⟨rfl, rfl⟩, trivial⟩ | exact ⟨⟨rfl, rfl⟩, ⟨rfl, rfl⟩, trivial⟩) ?_; (conv => whnf))
        | (refine CALL0.by (hp ..) rfl ?_; conv => whnf)
        | (refine CALLQ.mk _ _ _ (leL_refl _) (hp ..) rfl ?_; conv => whnf)
      refine .mk _ _ _ _ _ ?_ (hE _) rfl ?_
      · exact ⟨leV_refl _, ⟨.inl rfl, rfl, rfl, fun i hi => rfl⟩, trivial⟩
      conv => whnf
      repeat first
        | (refine DRAW.seek ?_; repeat (first | refine TRYD.take ?_ | refine TRYD.next ?_); conv => whnf)
        | (refine HOLD.mk (by first | exact trivial | exact ⟨⟨rfl, rfl⟩, trivial⟩ | exact ⟨⟨rfl, rfl⟩, ⟨rfl, rfl⟩, trivial⟩) ?_; (conv => whnf))
        | (refine CALL0.by (c_when ..) rfl ?_; conv => whnf)
        | (refine CALLQ.mk _ _ _ (leL_refl _) (c_when ..) rfl ?_; conv => whnf)
      exact ⟨rfl, rfl⟩
  · have q : (csErr0 s m stuck n != 0) = true := by simpa using h0
    rw [q]
    conv => whnf
    repeat first
      | (refine DRAW.seek ?_; repeat (first | refine TRYD.take ?_ | refine TRYD.next ?_); conv => whnf)
      | (refine HOLD.mk (by first | exact trivial | exact ⟨⟨rfl, rfl⟩, trivial⟩ | exact ⟨⟨rfl, rfl⟩, ⟨rfl, rfl⟩, trivial⟩) ?_; (conv => whnf))
      | (refine CALL0.by (c_CheckState ..) rfl ?_; conv => whnf)
      | (refine CALLQ.mk _ _ _ (leL_refl _) (c_CheckState ..) rfl ?_; conv => whnf)
      | (refine CALL0.by (c_checkBlade ..) rfl ?_; conv => whnf)
      | (refine CALLQ.mk _ _ _ (leL_refl _) (c_checkBlade ..) rfl ?_; conv => whnf)
      | (refine CALL0.by (c_when ..) rfl ?_; conv => whnf)
      | (refine CALLQ.mk _ _ _ (leL_refl _) (c_when ..) rfl ?_; conv => whnf)
    refine .mk _ _ _ _ _ (leL_refl _) (c_f3 _ _ _ _ _ rfl rfl rfl) rfl ?_
    conv => whnf
    split
    rotate_left
    · rename_i h
      exact Bool.noConfusion ((q).symm.trans h)
    rename_i hN
    clear hN
    conv => whnf
    exact ⟨rfl, rfl⟩
end Go.Proofs.YtkdlegfakefjgaaGreatDoor.Ix
