/-
  IxSh: the shapes of blades and flows, and the blades and flows that fit them.
-/
import Derived.Test.YtllmejkmogepjaaDoorX31
import Derived.Test.YtllmejkmogepjaaDoorXP4
namespace Go.Proofs.YtllmejkmogepjaaDoor.Ix

abbrev intS : Shp := .int .i64
abbrev intsS (n : Nat) : Shp := .agg (List.replicate n (1, intS))
abbrev bladeShp : Shp := .agg [(2, .agg [(1, .slice 1 intS), (1, .slice 1 intS)]), (1, .slice 4 (.agg [(1, intS), (1, intS), (1, intS), (1, intS)]))]
abbrev flowShp : Shp := .agg [(1, intS), (1, intS), (1, intS)]

def intAt (l : List IV) (j : Nat) : Int := match l[j]? with
  | some (.int _ n) => n
  | _ => 0

theorem fit_ints : ∀ (n : Nat) (xs : List IV), FitL (List.replicate n (1, intS)) xs → xs = (List.range n).map fun j => IV.int .i64 (intAt xs j)
  | 0, xs, h => by simpa [FitL] using h
  | n + 1, xs, h => by
    simp only [List.replicate_succ, FitL] at h
    obtain ⟨ys, zs, rfl, hl, ⟨m, rfl, _⟩, h2⟩ := h
    have ih := fit_ints n zs h2
    rw [List.range_succ_eq_map, List.map_cons, List.map_map]
    refine List.cons_eq_cons.2 ⟨rfl, ?_⟩
    show zs = _
    rw [show ((fun j => IV.int .i64 (intAt ([IV.int .i64 m] ++ zs) j)) ∘ Nat.succ) = fun j => IV.int .i64 (intAt zs j) from by funext j; simp [intAt]]
    exact ih

theorem fit_slice1 {xs : List IV} (h : Fit (.slice 1 intS) xs) : ∃ (n : Nat) (f : Nat → Int), n ≤ maxLen ∧ leL xs [.lst none 1 n fun i => [.int .i64 (f i)]] := by
  obtain ⟨n, f, rfl, hn, h⟩ := h
  refine ⟨n, fun i => intAt (f i) 0, hn, ⟨.inl rfl, rfl, rfl, fun i hi => ?_⟩, trivial⟩
  obtain ⟨_, m, hm, _⟩ := h i hi
  show f i = [.int .i64 (intAt (f i) 0)]
  rw [hm]; rfl

theorem fit_slice4 {xs : List IV} (h : Fit (.slice 4 (.agg [(1, intS), (1, intS), (1, intS), (1, intS)])) xs) : ∃ (n : Nat) (f1 f2 f3 f4 : Nat → Int), n ≤ maxLen ∧ leL xs [.lst none 4 n fun i => [.int .i64 (f1 i), .int .i64 (f2 i), .int .i64 (f3 i), .int .i64 (f4 i)]] := by
  obtain ⟨n, f, rfl, hn, h⟩ := h
  refine ⟨n, fun i => intAt (f i) 0, fun i => intAt (f i) 1, fun i => intAt (f i) 2, fun i => intAt (f i) 3, hn, ⟨.inl rfl, rfl, rfl, fun i hi => ?_⟩, trivial⟩
  obtain ⟨_, hf⟩ := h i hi
  exact fit_ints 4 (f i) hf

theorem leL_append : ∀ {xs ys us vs : List IV}, leL xs us → leL ys vs → leL (xs ++ ys) (us ++ vs)
  | [], _, [], _, _, h => h
  | [], _, _ :: _, _, h, _ => h.elim
  | _ :: _, _, [], _, h, _ => h.elim
  | _ :: _, _, _ :: _, _, h, k => ⟨h.1, leL_append h.2 k⟩

theorem fit_blade {v : IV} (h : FitV bladeShp v) : ∃ b : Bl, leV v b.iv ∧ b.nl ≤ maxLen ∧ b.nd ≤ maxLen ∧ b.nr ≤ maxLen := by
  obtain ⟨xs, rfl, h⟩ := h
  simp only [FitL] at h
  obtain ⟨p, q, rfl, _, ⟨p1, q1, rfl, _, h1, q2, z, rfl, _, h2, rfl⟩, q3, z, rfl, _, h3, rfl⟩ := h
  obtain ⟨nl, lf, k1, m1⟩ := fit_slice1 h1
  obtain ⟨nd, df, k2, m2⟩ := fit_slice1 h2
  obtain ⟨nr, r1, r2, r3, r4, k3, m3⟩ := fit_slice4 h3
  refine ⟨⟨nl, nd, nr, lf, df, r1, r2, r3, r4⟩, ?_, k1, k2, k3⟩
  have := leL_append (leL_append m1 m2) m3
  simpa [leV] using this

theorem fit_flow {v : IV} (h : FitV flowShp v) : ∃ f : Fl, v = f.iv := by
  obtain ⟨xs, rfl, h⟩ := h
  have := fit_ints 3 xs h
  exact ⟨⟨intAt xs 0, intAt xs 1, intAt xs 2⟩, by rw [this]; simp [intAt, List.range, List.range.loop]⟩

theorem fit_u8s : ∀ (n : Nat) (xs : List IV), FitL (List.replicate n (1, .int .u8)) xs → xs = (List.range n).map (fun j => IV.int .u8 (intAt xs j)) ∧ ∀ j, j < n → 0 ≤ intAt xs j ∧ intAt xs j < 256
  | 0, xs, h => by
    simp only [List.replicate_zero, FitL] at h
    exact ⟨by simpa using h, fun j hj => by omega⟩
  | n + 1, xs, h => by
    simp only [List.replicate_succ, FitL] at h
    obtain ⟨ys, zs, rfl, hl, ⟨m, rfl, hw⟩, h2⟩ := h
    obtain ⟨ih, ih2⟩ := fit_u8s n zs h2
    refine ⟨?_, fun j hj => ?_⟩
    · rw [List.range_succ_eq_map, List.map_cons, List.map_map]
      refine List.cons_eq_cons.2 ⟨rfl, ?_⟩
      show zs = _
      rw [show ((fun j => IV.int .u8 (intAt ([IV.int .u8 m] ++ zs) j)) ∘ Nat.succ) = fun j => IV.int .u8 (intAt zs j) from by funext j; simp [intAt]]
      exact ih
    · cases j with
      | zero =>
        have e : intAt ([IV.int .u8 m] ++ zs) 0 = m := rfl
        rw [e]
        simp [Lit.wf, IntKind.min, IntKind.max, IntKind.signed, IntKind.bits] at hw
        omega
      | succ j =>
        have e : intAt ([IV.int .u8 m] ++ zs) (j + 1) = intAt zs j := by simp [intAt]
        rw [e]; exact ih2 j (by omega)

end Go.Proofs.YtllmejkmogepjaaDoor.Ix
