/-
  Ro1: contracts of the functions of the package rotor, the first part: checks, sections, balance, search, the torque at an inflow.
-/
import Derived.Test.YtllmejkmogepjaaDoorXHD
import Derived.Test.YtllmejkmogepjaaDoorXP4
namespace Go.Proofs.YtllmejkmogepjaaDoor.Ix
open Go.Proofs
set_option maxRecDepth 100000
set_option linter.unusedVariables false

noncomputable abbrev Γs (gl : Nat → IV) : Env := ⟨prog, T, gl, 0, Vis prog gl, none, none⟩
noncomputable abbrev Cs (gl : Nat → IV) : Con := Comp prog gl
variable {gl : Nat → IV}

theorem mk {g : Nat} {fn : Func} {c : Code} {up up2 : List Ces} {args : List IV} {rv : IV} (hf : prog.funcs[g]? = some fn) (hb : fn.body = some c) (hn : (fn.name == "runtime.NumGoroutine") = false)
    (h : ibody (Cs gl) (Γs gl) fn up args (fun r up' => r = rv ∧ up' = up2)) : Comp prog gl g up args rv up2 :=
  comp_of_body (Γ := Γs gl) mixed0 tok0 (fun _ _ _ _ _ h => h) (fun _ _ _ _ h => h) hf hb hn h

theorem c_when (up : List Ces) (b : Bool) (e : Int) : Cs gl n_rotor_when up [.bool b, .int .i64 e] (.int .i64 (bif b then e else 0)) up := by
  refine mk h_rotor_when rfl rfl ?_
  cases b <;> (conv => whnf) <;> exact ⟨rfl, rfl⟩

theorem c_within (up : List Ces) (n lo hi : Int) : Cs gl n_rotor_within up [.int .i64 n, .int .i64 lo, .int .i64 hi] (.int .i64 (withinS n lo hi)) up := by
  refine mk h_rotor_within rfl rfl ?_
  conv => whnf
  split
  · rename_i h1
    conv => whnf
    refine .mk _ _ _ _ _ (leL_refl _) (c_when _ _ _) rfl ?_
    conv => whnf
    simp [withinS, h1]
  · rename_i h1
    conv => whnf
    refine .mk _ _ _ _ _ (leL_refl _) (c_when _ _ _) rfl ?_
    conv => whnf
    simp [withinS, h1]

theorem c_checkDepth (up : List Ces) (n : Int) : Cs gl n_rotor_checkDepth up [.int .i64 n] (.int .i64 (withinS n 1 12)) up := by
  refine mk h_rotor_checkDepth rfl rfl ?_
  conv => whnf
  refine .mk _ _ _ _ _ (leL_refl _) (c_within _ _ _ _) rfl ?_
  conv => whnf
  exact ⟨rfl, rfl⟩

theorem c_first (up : List Ces) (n : Nat) (hn : n ≤ 4611686018427387904) (f : Nat → Int) : Cs gl n_rotor_first up [.lst none 1 n fun i => [.int .i64 (f i)]] (.int .i64 (firstS f n 0)) up := by
  refine mk h_rotor_first rfl rfl ?_
  conv => whnf
  refine .mk (α := {i : Nat // i ≤ n ∧ firstS f n 0 = firstS f (n - i) i}) (fun i => ⟨[(7, .int .i64 i.1), (6, .int .i64 n), (5, .lst none 1 n fun i => [.int .i64 (f i)])], [], up⟩) (fun i => n - i.1) ⟨0, Nat.zero_le _, rfl⟩ ⟨?_, trivial, rfl, rfl⟩ ?_
  · exact ⟨leV_refl _, leV_refl _, leV_refl _, trivial⟩
  · rintro ⟨i, hi, hf⟩
    conv => whnf
    split
    · rename_i hb
      have hlt : i < n := by simpa using hb
      have hstep : firstS f (n - i) i = bif f i != 0 then f i else firstS f (n - (i + 1)) (i + 1) := by
        rw [show n - i = (n - (i + 1)) + 1 by omega]; rfl
      conv => whnf
      split
      · conv => whnf
        split
        · rename_i h2
          conv => whnf
          refine ⟨?_, rfl⟩
          have h2' : (f i != 0) = true := h2
          show IV.int .i64 (f i) = .int .i64 (firstS f n 0)
          rw [hf, hstep, h2']; rfl
        · rename_i h2
          have h2' : (f i != 0) = false := h2
          conv => whnf
          refine ⟨⟨i + 1, hlt, by rw [hf, hstep, h2']; rfl⟩, ⟨?_, trivial, rfl, rfl⟩, ?_⟩
          · have hw : IntKind.i64.wrap ((i : Int) + 1) = ((i + 1 : Nat) : Int) := by
              rw [wrap_in] <;> omega
            exact ⟨leV_int hw, leV_refl _, leV_refl _, trivial⟩
          · show n - (i + 1) < n - i
            omega
      · rename_i h2; rw [hb] at h2; cases h2
    · rename_i hb
      have : i = n := by simp at hb; omega
      conv => whnf
      refine ⟨?_, rfl⟩
      show IV.int .i64 0 = .int .i64 (firstS f n 0)
      rw [hf, this, Nat.sub_self]; rfl

theorem c_first3 (up : List Ces) (a b c : Int) : Cs gl n_rotor_first up [.lst none 1 3 fun i => [.int .i64 ([a, b, c].getD i 0)]] (.int .i64 (bif a != 0 then a else bif b != 0 then b else bif c != 0 then c else 0)) up := c_first up 3 (by decide) fun i => [a, b, c].getD i 0
theorem c_CheckFlow (up : List Ces) (w s p : Int) : Cs gl n_rotor_CheckFlow up [.agg [.int .i64 w, .int .i64 s, .int .i64 p]] (.int .i64 (bif withinS w 1 50 != 0 then withinS w 1 50 else bif withinS s 1 1000 != 0 then withinS s 1 1000 else bif withinS p (-64) 64 != 0 then withinS p (-64) 64 else 0)) up := by
  refine mk h_rotor_CheckFlow rfl rfl ?_
  conv => whnf
  refine .mk 11 (by kernel_rfl) ?_
  conv => whnf
  refine .mk _ _ _ (leL_refl _) (c_within _ _ _ _) rfl ?_
  conv => whnf
  refine .mk _ _ _ (leL_refl _) (c_within _ _ _ _) rfl ?_
  conv => whnf
  refine .mk _ _ _ (leL_refl _) (c_within _ _ _ _) rfl ?_
  conv => whnf
  refine .mk _ _ _ ?_ (c_first3 _ (withinS w 1 50) (withinS s 1 1000) (withinS p (-64) 64)) rfl ?_
  · exact ⟨⟨.inl rfl, rfl, rfl, fun i hi => by
      match i, hi with
      | 0, _ => rfl
      | 1, _ => rfl
      | 2, _ => rfl⟩, trivial⟩
  conv => whnf
  exact ⟨rfl, rfl⟩

theorem c_next (up : List Ces) (a d : Int) : Cs gl n_rotor_Induction_next up [.agg [.int .i64 a, .int .i64 d]] (.agg [.int .i64 (w64 (a + 1)), .int .i64 d]) up := by
  refine mk h_rotor_Induction_next rfl rfl ?_
  conv => whnf
  exact ⟨rfl, rfl⟩

theorem c_shift (up : List Ces) (nl nd : Nat) (lf df : Nat → Int) (r c t tip w s p : Int) : Cs gl n_rotor_section_shift up [secI nl nd lf df r c t tip w s p] (.int .i64 (w64 (t + p))) up := by
  refine mk h_rotor_section_shift rfl rfl ?_
  conv => whnf
  exact ⟨rfl, rfl⟩

theorem c_class (up : List Ces) (nl nd : Nat) (lf df : Nat → Int) (r c t tip w s p x : Int) : Cs gl n_rotor_section_class up [secI nl nd lf df r c t tip w s p, .int .i64 x]
    (.int .i64 (minW (maxW 0 (w64 (x - w64 (t + p)))) (w64 (nl - 1)))) up := by
  refine mk h_rotor_section_class rfl rfl ?_
  conv => whnf
  refine .mk 11 (by kernel_rfl) ?_
  conv => whnf
  refine .mk _ _ _ (leL_refl _) (c_shift _ _ _ _ _ _ _ _ _ _ _ _) rfl ?_
  conv => whnf
  exact ⟨rfl, rfl⟩

theorem c_inflow (up : List Ces) (nl nd : Nat) (lf df : Nat → Int) (r c t tip w s p a d : Int) (h1 : 0 ≤ d) (h2 : denW r s d ≠ 0) : Cs gl n_rotor_section_inflow up [secI nl nd lf df r c t tip w s p, .agg [.int .i64 a, .int .i64 d]]
    (.int .i64 (inflowW r w s a d)) up := by
  refine mk h_rotor_section_inflow rfl rfl ?_
  conv => whnf
  split
  · conv => whnf
    split
    · conv => whnf
      exact ⟨rfl, rfl⟩
    · rename_i h
      have h' : (denW r s d != 0) = false := h
      exact absurd (by simpa using h') h2
  · rename_i h; simp at h; omega

theorem c_balance (up : List Ces) (nl nd : Nat) (lf df : Nat → Int) (r c t tip w s p a d : Int) (h1 : 0 ≤ d) (h2 : denW r s d ≠ 0)
    (h3 : 0 ≤ classW nl t p (inflowW r w s a d)) (h4 : classW nl t p (inflowW r w s a d) < nl) :
    Cs gl n_rotor_section_balance up [secI nl nd lf df r c t tip w s p, .agg [.int .i64 a, .int .i64 d]] (.int .i64 (balanceW nl lf r c t tip w s p a d)) up := by
  refine mk h_rotor_section_balance rfl rfl ?_
  conv => whnf
  split
  · conv => whnf
    refine .mk 10 (by kernel_rfl) ?_
    conv => whnf
    refine .mk _ _ _ (leL_refl _) (c_inflow _ _ _ _ _ _ _ _ _ _ _ _ _ _ h1 h2) rfl ?_
    conv => whnf
    refine .mk _ _ _ (leL_refl _) (c_class _ _ _ _ _ _ _ _ _ _ _ _ _) rfl ?_
    conv => whnf
    split
    · conv => whnf
      split
      · conv => whnf
        exact ⟨rfl, rfl⟩
      · rename_i h
        have h' : decide (classW nl t p (inflowW r w s a d) < (nl : Int)) = false := h
        simp at h'; omega
    · rename_i h
      have h' : decide (0 ≤ classW nl t p (inflowW r w s a d)) = false := h
      simp at h'; omega
  · rename_i h; simp at h; omega

theorem c_brackets (up : List Ces) (nl nd : Nat) (lf df : Nat → Int) (r c t tip w s p a d : Int) (h1 : 0 ≤ w64 (d - 1)) (o1 : BalOK nl r t w s p a d) (o2 : BalOK nl r t w s p (w64 (a + 1)) d) :
    Cs gl n_rotor_section_brackets up [secI nl nd lf df r c t tip w s p, .agg [.int .i64 a, .int .i64 d]] (.bool (bracketsW nl lf r c t tip w s p a d)) up := by
  refine mk h_rotor_section_brackets rfl rfl ?_
  conv => whnf
  refine .mk 20 (by kernel_rfl) ?_
  conv => whnf
  split
  · conv => whnf
    split
    · rename_i q1
      have q1' : decide (a < halfW d) = true := q1
      conv => whnf
      refine .mk _ _ _ (leL_refl _) (c_balance _ _ _ _ _ _ _ _ _ _ _ _ _ _ o1.d0 o1.den o1.lo o1.hi) rfl ?_
      conv => whnf
      split
      · rename_i q2
        have q2' : decide (balanceW nl lf r c t tip w s p a d ≤ 0) = true := q2
        conv => whnf
        refine .mk _ _ _ (leL_refl _) (c_next _ _ _) rfl ?_
        conv => whnf
        refine .mk _ _ _ (leL_refl _) (c_balance _ _ _ _ _ _ _ _ _ _ _ _ _ _ o2.d0 o2.den o2.lo o2.hi) rfl ?_
        conv => whnf
        refine ⟨?_, rfl⟩
        show IV.bool (decide (balanceW nl lf r c t tip w s p (w64 (a + 1)) d > 0)) = _
        simp only [bracketsW, q1', q2', Bool.true_and]
      · rename_i q2
        have q2' : decide (balanceW nl lf r c t tip w s p a d ≤ 0) = false := q2
        conv => whnf
        refine ⟨?_, rfl⟩
        simp only [bracketsW, q2', Bool.false_and, Bool.and_false]
    · rename_i q1
      have q1' : decide (a < halfW d) = false := q1
      conv => whnf
      refine ⟨?_, rfl⟩
      simp only [bracketsW, q1', Bool.false_and]
  · rename_i h
    have h' : decide (0 ≤ w64 (d - 1)) = false := h
    simp at h'; omega

theorem c_find (up : List Ces) (nl nd : Nat) (lf df : Nat → Int) (r c t tip w s p d half : Int) (h1 : 0 ≤ w64 (d - 1)) (hh : halfW d = half) (hb : 0 ≤ half ∧ half ≤ 4096) (ok : ∀ a, 0 ≤ a → a ≤ half → BalOK nl r t w s p a d) (rv : IV)
    (hr : rv = match findS (fun a => balanceW nl lf r c t tip w s p a d) half with | none => .tup [.agg [.int .i64 0, .int .i64 0], .bool false] | some a => .tup [.agg [.int .i64 a, .int .i64 d], .bool true]) :
    Cs gl n_rotor_section_find up [secI nl nd lf df r c t tip w s p, .int .i64 d] rv up := by
  refine mk h_rotor_section_find rfl rfl ?_
  conv => whnf
  refine .mk 10 (by kernel_rfl) ?_
  conv => whnf
  split
  · conv => whnf
    have o := ok half hb.1 (Int.le_refl _)
    have o' : BalOK nl r t w s p (halfW d) d := hh ▸ o
    refine .mk _ _ _ _ _ (leL_refl _) (c_balance _ _ _ _ _ _ _ _ _ _ _ _ _ _ o'.d0 o'.den o'.lo o'.hi) rfl ?_
    conv => whnf
    split
    · rename_i q
      have q' : decide (balanceW nl lf r c t tip w s p (halfW d) d ≤ 0) = true := q
      conv => whnf
      refine ⟨?_, rfl⟩
      rw [hh] at q'
      simp only [hr, findS, q', cond_true]
    · rename_i q
      have q' : decide (balanceW nl lf r c t tip w s p (halfW d) d ≤ 0) = false := q
      conv => whnf
      let f : Int → Int := fun a => balanceW nl lf r c t tip w s p a d
      refine .mk (α := {x : Int × Int × Nat // 0 ≤ x.1 ∧ x.2.1 ≤ half ∧ x.1 ≤ x.2.1 ∧ x.2.1 - x.1 ≤ x.2.2 ∧ searchS f x.2.2 x.1 x.2.1 = searchS f half.toNat 0 half})
        (fun x => ⟨[(1, .int .i64 d), (2, .ptr 0 2 0), (4, .ptr 0 4 0), (6, .ptr 0 6 0), (7, .ptr 0 7 0)],
          [(7, [.int .i64 x.1.2.1, .int .i64 d]), (6, [.int .i64 x.1.1, .int .i64 d]), (4, [.int .i64 0, .int .i64 0]),
           (2, [.lst none 1 nl fun i => [.int .i64 (lf i)], .lst none 1 nd fun i => [.int .i64 (df i)], .int .i64 r, .int .i64 c, .int .i64 t, .int .i64 tip, .int .i64 w, .int .i64 s, .int .i64 p])], up⟩)
        (fun x => x.1.2.2) ⟨(0, half, half.toNat), Int.le_refl _, Int.le_refl _, hb.1, by simp; omega, rfl⟩ ⟨?_, ?_, rfl, rfl⟩ ?_
      · exact ⟨leV_refl _, leV_refl _, leV_refl _, leV_refl _, leV_refl _, trivial⟩
      · exact ⟨⟨leV_int hh, leV_refl _, trivial⟩, leL_refl _, leL_refl _, leL_refl _, trivial⟩
      · rintro ⟨⟨lo, hi, n⟩, g1, g2, g3, g4, g5⟩
        simp only at g1 g2 g3 g4 g5
        have hw : w64 (hi - lo) = hi - lo := by rw [w64, wrap_in] <;> omega
        have hw2 : w64 (w64 (lo + hi) |>.tdiv 2) = (lo + hi) / 2 := by
          have e1 : w64 (lo + hi) = lo + hi := by rw [w64, wrap_in] <;> omega
          rw [e1, Int.tdiv_eq_ediv_of_nonneg (by omega), w64, wrap_in] <;> omega
        conv => whnf
        have hm : BalOK nl r t w s p (w64 (w64 (lo + hi) |>.tdiv 2)) d := by rw [hw2]; exact ok _ (by omega) (by omega)
        split
        · rename_i z
          have z' : decide (w64 (hi - lo) > 1) = true := z
          rw [hw] at z'
          have z1 : hi - lo > 1 := by simpa using z'
          obtain ⟨m, rfl⟩ : ∃ m, n = m + 1 := ⟨n - 1, by omega⟩
          simp only [searchS, z', cond_true] at g5
          conv => whnf
          refine .mk _ _ _ _ _ (leL_refl _) (c_balance _ _ _ _ _ _ _ _ _ _ _ _ _ _ hm.d0 hm.den hm.lo hm.hi) rfl ?_
          conv => whnf
          split
          · rename_i y
            have y' : decide (f (w64 (w64 (lo + hi) |>.tdiv 2)) ≤ 0) = true := y
            rw [hw2] at y'
            rw [y', cond_true] at g5
            conv => whnf
            refine ⟨⟨((lo + hi) / 2, hi, m), by simp only; omega, g2, by simp only; omega, by simp only; omega, g5⟩, ⟨?_, ?_, rfl, rfl⟩, ?_⟩
            · exact ⟨leV_refl _, leV_refl _, leV_refl _, leV_refl _, leV_refl _, trivial⟩
            · exact ⟨leL_refl _, ⟨leV_int hw2, leV_refl _, trivial⟩, leL_refl _, leL_refl _, trivial⟩
            · exact Nat.lt_succ_self m
          · rename_i y
            have y' : decide (f (w64 (w64 (lo + hi) |>.tdiv 2)) ≤ 0) = false := y
            rw [hw2] at y'
            rw [y', cond_false] at g5
            conv => whnf
            refine ⟨⟨(lo, (lo + hi) / 2, m), g1, by simp only; omega, by simp only; omega, by simp only; omega, g5⟩, ⟨?_, ?_, rfl, rfl⟩, ?_⟩
            · exact ⟨leV_refl _, leV_refl _, leV_refl _, leV_refl _, leV_refl _, trivial⟩
            · exact ⟨⟨leV_int hw2, leV_refl _, trivial⟩, leL_refl _, leL_refl _, leL_refl _, trivial⟩
            · exact Nat.lt_succ_self m
        · rename_i z
          have z' : decide (w64 (hi - lo) > 1) = false := z
          rw [hw] at z'
          conv => whnf
          refine ⟨?_, rfl⟩
          have e : lo = searchS f half.toNat 0 half := by
            rw [← g5]
            cases n with
            | zero => rfl
            | succ n => simp only [searchS, z', cond_false]
          have q2 : decide (f half ≤ 0) = false := by rw [← hh]; exact q'
          rw [hr]
          simp only [findS]
          show IV.tup [.agg [.int .i64 lo, .int .i64 d], .bool true] = _
          rw [show decide ((fun a => balanceW nl lf r c t tip w s p a d) half ≤ 0) = false from q2, cond_false, e]
  · rename_i h
    have h' : decide (0 ≤ w64 (d - 1)) = false := h
    simp at h'; omega

theorem c_sections (up : List Ces) (nl nd nr : Nat) (lf df : Nat → Int) (r1 r2 r3 r4 : Nat → Int) (w s p : Int) :
    Cs gl n_rotor_sections up [.agg [.lst none 1 nl fun i => [.int .i64 (lf i)], .lst none 1 nd fun i => [.int .i64 (df i)], .lst none 4 nr fun i => [.int .i64 (r1 i), .int .i64 (r2 i), .int .i64 (r3 i), .int .i64 (r4 i)]], .agg [.int .i64 w, .int .i64 s, .int .i64 p]]
      (.fn n_rotor_sections_1 [] [.vptr 3 1 (fun _ => [.lst none 1 nl fun i => [.int .i64 (lf i)], .lst none 1 nd fun i => [.int .i64 (df i)], .lst none 4 nr fun i => [.int .i64 (r1 i), .int .i64 (r2 i), .int .i64 (r3 i), .int .i64 (r4 i)]]) 0 0, .vptr 3 1 (fun _ => [.int .i64 w, .int .i64 s, .int .i64 p]) 0 0]) up := by
  refine mk h_rotor_sections rfl rfl ?_
  conv => whnf
  exact ⟨rfl, rfl⟩

theorem c_torque1 (ce : Ces) (up : List Ces) (k nl nd : Nat) (lf df : Nat → Int) (r c t tip w s p x : Int) (h3 : 0 ≤ classW nl t p x) (h4 : classW nl t p x < nl) (h5 : classW nl t p x < nd) (hc : lookC ce k = some (secL nl nd lf df r c t tip w s p)) :
    Cs gl n_rotor_section_torque_1 (ce :: up) [.int .i64 x, .ptr 1 k 0] (.int .i64 (ofW nl lf df r c t tip p x)) (ce :: up) := by
  refine mk h_rotor_section_torque_1 rfl rfl ?_
  conv => whnf
  split
  rotate_left
  · rename_i h; exact absurd (hc.symm.trans h) nofun
  rename_i c0 h
  obtain rfl := Option.some.inj (hc.symm.trans h)
  clear h
  conv => whnf
  refine .mk _ _ _ _ _ (leL_refl _) (c_class _ _ _ _ _ _ _ _ _ _ _ _ _) rfl ?_
  conv => whnf
  refine .mk 28 (by kernel_rfl) ?_
  conv => whnf
  split
  rotate_left
  · rename_i h; exact absurd (hc.symm.trans h) nofun
  rename_i c0 h
  obtain rfl := Option.some.inj (hc.symm.trans h)
  clear h
  conv => whnf
  split
  rotate_left
  · rename_i h; exact absurd (hc.symm.trans h) nofun
  rename_i c0 h
  obtain rfl := Option.some.inj (hc.symm.trans h)
  clear h
  conv => whnf
  split
  rotate_left
  · rename_i h; exact absurd (hc.symm.trans h) nofun
  rename_i c0 h
  obtain rfl := Option.some.inj (hc.symm.trans h)
  clear h
  conv => whnf
  split
  rotate_left
  · rename_i h; exact absurd (hc.symm.trans h) nofun
  rename_i c0 h
  obtain rfl := Option.some.inj (hc.symm.trans h)
  clear h
  conv => whnf
  split
  rotate_left
  · rename_i h
    have h' : decide (0 ≤ classW nl t p x) = false := h
    simp at h'; omega
  conv => whnf
  split
  rotate_left
  · rename_i h
    have h' : decide (classW nl t p x < (nl : Int)) = false := h
    simp at h'; omega
  conv => whnf
  split
  rotate_left
  · rename_i h; exact absurd (hc.symm.trans h) nofun
  rename_i c0 h
  obtain rfl := Option.some.inj (hc.symm.trans h)
  clear h
  conv => whnf
  split
  rotate_left
  · rename_i h
    have h' : decide (0 ≤ classW nl t p x) = false := h
    simp at h'; omega
  conv => whnf
  split
  rotate_left
  · rename_i h
    have h' : decide (classW nl t p x < (nd : Int)) = false := h
    simp at h'; omega
  conv => whnf
  exact ⟨rfl, rfl⟩

theorem c_mapped (up : List Ces) (n : Nat) (hn : n ≤ 1000000) (f φ : Nat → Int) (k : Nat) (hk : ∀ up i, i < n → Cs gl k up [.int .i64 (f i)] (.int .i64 (φ i)) up) :
    Cs gl n_rotor_mapped_int_api_Errno up [.lst none 1 n fun i => [.int .i64 (f i)], .fn k [] []] (.lst (some 19) 1 n fun i => [.int .i64 (φ i)]) up := by
  refine mk h_rotor_mapped_int_api_Errno rfl rfl ?_
  conv => whnf
  refine .mk (α := {i : Nat // i ≤ n}) (fun i => ⟨[(10, .int .i64 i.1), (9, .int .i64 n), (8, .lst none 1 n fun i => [.int .i64 (f i)]), (5, .lst (some 19) 1 i.1 fun i => [.int .i64 (φ i)]), (1, .fn k [] [])], [], up⟩) (fun i => n - i.1) ⟨0, Nat.zero_le _⟩ ⟨?_, trivial, rfl, rfl⟩ ?_
  · exact ⟨leV_refl _, leV_refl _, leV_refl _, rfl, leV_refl _, trivial⟩
  · rintro ⟨i, hi⟩
    conv => whnf
    split
    · rename_i hb
      have hlt : i < n := by simpa using hb
      conv => whnf
      split
      · conv => whnf
        refine .mk _ _ _ _ _ (leL_refl _) (hk _ i hlt) rfl ?_
        conv => whnf
        split
        · conv => whnf
          refine ⟨⟨i + 1, hlt⟩, ⟨?_, trivial, rfl, rfl⟩, ?_⟩
          · have hw : IntKind.i64.wrap ((i : Int) + 1) = ((i + 1 : Nat) : Int) := by
              rw [wrap_in] <;> omega
            refine ⟨leV_int hw, leV_refl _, leV_refl _, ⟨.inr rfl, rfl, rfl, fun j hj => ?_⟩, leV_refl _, trivial⟩
            show (if j < i then [IV.int .i64 (φ j)] else litF 1 [.int .i64 (φ i)] (j - i)) = [IV.int .i64 (φ j)]
            split
            · rfl
            · have : j = i := by have : j < i + 1 := hj; omega
              subst this; rw [Nat.sub_self]; rfl
          · show n - (i + 1) < n - i
            omega
        · rename_i h2
          have h2' : decide (i + 1 ≤ 1073741824) = false := h2
          simp at h2'; omega
      · rename_i h2; rw [hb] at h2; cases h2
    · rename_i hb
      have : i = n := by simp at hb; omega
      subst this
      conv => whnf
      exact ⟨rfl, rfl⟩

theorem c_first4 (up : List Ces) (a b c d : Int) : Cs gl n_rotor_first up [.lst none 1 4 fun i => [.int .i64 ([a, b, c, d].getD i 0)]] (.int .i64 (firstS ([a, b, c, d].getD · 0) 4 0)) up := c_first up 4 (by decide) fun i => [a, b, c, d].getD i 0
theorem c_RingCheck (up : List Ces) (r c t tip : Int) : Cs gl n_rotor_Ring_check up [.agg [.int .i64 r, .int .i64 c, .int .i64 t, .int .i64 tip]]
    (.int .i64 (firstS ([withinS r 1 200, withinS c 1 100, withinS t (-64) 64, withinS tip 0 256].getD · 0) 4 0)) up := by
  refine mk h_rotor_Ring_check rfl rfl ?_
  conv => whnf
  refine .mk 14 (by kernel_rfl) ?_
  conv => whnf
  refine .mk _ _ _ (leL_refl _) (c_within _ _ _ _) rfl ?_
  conv => whnf
  refine .mk _ _ _ (leL_refl _) (c_within _ _ _ _) rfl ?_
  conv => whnf
  refine .mk _ _ _ (leL_refl _) (c_within _ _ _ _) rfl ?_
  conv => whnf
  refine .mk _ _ _ (leL_refl _) (c_within _ _ _ _) rfl ?_
  conv => whnf
  refine .mk _ _ _ ?_ (c_first4 _ (withinS r 1 200) (withinS c 1 100) (withinS t (-64) 64) (withinS tip 0 256)) rfl ?_
  · exact ⟨⟨.inl rfl, rfl, rfl, fun i hi => by
      match i, hi with
      | 0, _ => rfl
      | 1, _ => rfl
      | 2, _ => rfl
      | 3, _ => rfl⟩, trivial⟩
  conv => whnf
  exact ⟨rfl, rfl⟩

theorem c_component (up : List Ces) (a b c : Int) : Cs gl n_rotor_component up [.agg [.int .i64 a, .int .i64 b, .int .i64 c]] (.agg [.int .i64 (w64 (a - c)), .int .i64 (w64 (b - c))]) up := by
  refine mk h_rotor_component rfl rfl ?_
  conv => whnf
  exact ⟨rfl, rfl⟩
theorem c_checkLoads1 (up : List Ces) (x : Int) : Cs gl n_rotor_checkLoads_1 up [.int .i64 x] (.int .i64 (withinS x (-1000000) 1000000)) up := by
  refine mk h_rotor_checkLoads_1 rfl rfl ?_
  conv => whnf
  refine .mk _ _ _ _ _ (leL_refl _) (c_within _ _ _ _) rfl ?_
  conv => whnf
  exact ⟨rfl, rfl⟩
theorem c_CheckPolar1 (up : List Ces) (x : Int) : Cs gl n_rotor_CheckPolar_1 up [.int .i64 x] (.int .i64 (withinS x 0 1000)) up := by
  refine mk h_rotor_CheckPolar_1 rfl rfl ?_
  conv => whnf
  refine .mk _ _ _ _ _ (leL_refl _) (c_within _ _ _ _) rfl ?_
  conv => whnf
  exact ⟨rfl, rfl⟩

end Go.Proofs.YtllmejkmogepjaaDoor.Ix
