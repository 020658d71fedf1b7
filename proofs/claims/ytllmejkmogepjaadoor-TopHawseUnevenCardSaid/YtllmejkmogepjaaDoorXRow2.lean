/-
  TopHawseUneven: for every input the law returns true, and each argument reads afterwards as it read before; where the listed variable starts as the text of the program lays it (the card ties it).
-/
import Derived.Test.YtllmejkmogepjaaDoorRows
import Derived.Test.YtllmejkmogepjaaDoorTie
import Derived.Test.YtllmejkmogepjaaDoorCards
import Derived.Test.YtllmejkmogepjaaDoorYRt4
import Derived.Test.YtllmejkmogepjaaDoorXSh
import Derived.ProofKit
import Derived.OpenShut
import Derived.LaidMore
import Derived.Stop.Joined
import Derived.SevenTiedAt
namespace Go.Proofs.YtllmejkmogepjaaDoor
open Go Go.ChangeShapes Go.WideShapes Go.ChangeAt Go.RowKit Go.Proofs.YtllmejkmogepjaaDoor.Ix
set_option linter.unusedVariables false

theorem own : ownKnob Tryd.prog.godebug = none := by kernel_rfl
theorem laidOut : laidOutB Tryd.prog = true := by kernel_rfl
theorem gRoots : Tryd.prog.globalNamed "nacelle/rotor.roots" = some 0 := by kernel_rfl
theorem tRoots : (Tryd.prog.globals[0]?).map (·.type) = some 160 := by kernel_rfl
noncomputable abbrev laid1 : List (String × DataW Unit) := [("nacelle/rotor.roots", Rows.laid_nacelle_rotor_roots)]
abbrev rootsShp : Shp := .agg [(2, .agg [(1, intS), (1, intS)]), (2, .agg [(1, intS), (1, intS)]), (2, .agg [(1, intS), (1, intS)])]
theorem shape160 : shpB Tryd.prog rootsShp 160 = true := by kernel_rfl
theorem shape27 : shpB Tryd.prog bladeShp 27 = true := by kernel_rfl
theorem shape29 : shpB Tryd.prog flowShp 29 = true := by kernel_rfl
theorem shape118 : shpB Tryd.prog (.agg [(1, .int .u8), (1, .int .u8), (1, .int .u8)]) 118 = true := by kernel_rfl

theorem door_met (os : Os) (args : Array Value) : laidMetH Tryd.prog laid1 ((World.doorLaid Tryd.prog 400 os).forCall (fun _ _ => 0) ⟨#[], args, []⟩).memory :=
  laidMetH_of_parts3 (fuel := 8) (laidMet_of_run' 8 (by kernel_rfl) (by kernel_rfl)) (by kernel_rfl) (by kernel_rfl)

/-- What is told of the package's variables. -/
def gl1 : Nat → IV := fun g => match g with
  | 0 => rootsI
  | _ => .dead

theorem roots_laid {W : World} (h : laidMetH Tryd.prog laid1 W) : ∀ g, D (fun a => W.cell? a) (gl1 g) (.pointer (some ⟨g, 0, none⟩)) := by
  intro g
  match g with
  | g + 1 => exact .dead _
  | 0 =>
    rw [MakeChecks.laidMetH_plain _ _ _ (by kernel_rfl)] at h
    obtain ⟨ps, ⟨g0, t0, cs0, f0, p0, q0, hg0, ht0, hv0, hd0, _, _⟩, _, _⟩ := h
    obtain rfl := Option.some.inj (gRoots.symm.trans hg0)
    obtain rfl := Option.some.inj (tRoots.symm.trans ht0)
    have hf := flat_of_trod rootsShp 160 (shp_ok _ _ shape160) rfl _ _ _ hd0
    have hcell : ∀ j, W.cell? ⟨0, j, none⟩ = cs0.toList[j]? := fun j => by
      have := World.var?_cell hg0 hv0 j
      simpa using this
    have hcs : cs0.toList = [.int .i64 1, .int .i64 0, .int .i64 0, .int .i64 1, .int .i64 (-1), .int .i64 (-1)] := by
      rw [← hf]; rfl
    rw [hcs] at hcell
    refine .vptr 6 1 (fun _ => [.int .i64 1, .int .i64 0, .int .i64 0, .int .i64 1, .int .i64 (-1), .int .i64 (-1)]) 0 0 0 0 (fun _ j => ([.int .i64 1, .int .i64 0, .int .i64 0, .int .i64 1, .int .i64 (-1), .int .i64 (-1)] : List Value).getD j undef) (by decide) (fun _ _ => rfl) (fun i j hi hj => ?_) (fun i j hi hj => ?_) (fun i j x hi hx => ?_)
    · have : i = 0 := by omega
      subst this
      show W.cell? ⟨0, 0 + 0 * 6 + j, none⟩ = _
      rw [show 0 + 0 * 6 + j = j by omega, hcell]
      match j, hj with
      | 0, _ | 1, _ | 2, _ | 3, _ | 4, _ | 5, _ => rfl
    · match j, hj with
      | 0, _ | 1, _ | 2, _ | 3, _ | 4, _ | 5, _ => rfl
    · match j, hx with
      | 0, hx | 1, hx | 2, hx | 3, hx | 4, hx | 5, hx => cases hx; exact .int .i64 _
      | _ + 6, hx => cases hx

set_option maxRecDepth 100000 in
theorem lifted11 (os : Os) (started : os.Started) (H : Type) (enc : TypeId × Value → H) :
    ReturnsInHanded {} Tryd.checked os 11 .any (fun w args => (Rows.topHawseUnevenSpec.pre enc Tryd.prog Tryd.f11 [] false w args ∧ laidMetH Tryd.prog laid1 w) ∧ sizedMet enc Tryd.prog Tryd.f11 (OpenSpec.ofChange Rows.topHawseUnevenSpec) false w args)
      (Rows.topHawseUnevenSpec.post enc Tryd.prog Tryd.f11 false true false false) := by
  refine returnsInHanded_of_change_and (C := Tryd.checked) (X := fun w _ => laidMetH Tryd.prog laid1 w) (fun _ _ _ hh h => h.of_heap hh) own started (by kernel_rfl) Tryd.func11
    (ChangeSpec.witness_shaped (enc := enc) (C := Tryd.checked) (os := os) (X := fun w _ => laidMetH Tryd.prog laid1 w) false (World.doorLaid Tryd.prog 400 os) #[.agg #[.slice none 0 0, .slice none 0 0, .slice none 0 0], .agg #[.int .i64 0, .int .i64 0, .int .i64 0], .agg #[.int .u8 0, .int .u8 0, .int .u8 0]] 8 rfl (World.shaped_of_RefB (by kernel_rfl) (by kernel_rfl)) (by kernel_rfl) (by kernel_rfl) (by kernel_rfl) (door_met os _)) ?_
  intro W base args ds gs before hval0 hW _ _ hL _
  have hval : ∀ (j : Nat) t v, Tryd.f11.params[j]? = some t → args[j]? = some v → Value.okWide Tryd.prog W .any base t v := hval0
  have hW' := hW
  obtain ⟨p, q, hA0, hV, rfl, hfz, hnd⟩ := hW
  have hA : DataW.TrodAll enc Tryd.prog W 0 (fun _ => true) true Tryd.f11.params.toList args.toList ds p := hA0
  rw [Tryd.params11] at hA hval
  obtain ⟨rfl, rfl⟩ := trodVars_none hV
  obtain ⟨d0, d1, d2, rfl⟩ : ∃ d0 d1 d2, ds = [d0, d1, d2] := by
    match ds, trodAll_len _ _ _ _ hA with
    | [a, b, c], _ => exact ⟨a, b, c, rfl⟩
  obtain ⟨xs, x1, x2, x3, x4⟩ := open_shps [bladeShp, flowShp, .agg [(1, .int .u8), (1, .int .u8), (1, .int .u8)]] [27, 29, 118] args.toList [d0, d1, d2] p rfl (fun j s t h1 h2 => by
      match j, h1, h2 with
      | 0, h1, h2 => cases h1; cases h2; exact shp_ok _ _ shape27
      | 1, h1, h2 => cases h1; cases h2; exact shp_ok _ _ shape29
      | 2, h1, h2 => cases h1; cases h2; exact shp_ok _ _ shape118
      | _ + 3, h1, h2 => cases h1) (fun j t v h1 h2 => hval j t v (by simpa using h1) (by simpa using h2)) hA
  obtain ⟨y0, y1, y2, rfl⟩ : ∃ y0 y1 y2, xs = [y0, y1, y2] := by
    match xs, x1.trans x2 with
    | [a, b, c], _ => exact ⟨a, b, c, rfl⟩
  obtain ⟨b, hb, _⟩ := fit_blade (x3 0 _ _ rfl rfl)
  obtain ⟨f, rfl⟩ := fit_flow (x3 1 _ _ rfl rfl)
  obtain ⟨zs, rfl, hz⟩ := x3 2 _ _ rfl rfl
  obtain ⟨ez, hz⟩ := fit_u8s 3 zs hz
  obtain ⟨a0, a1, a2, rfl, k0, k1, k2⟩ : ∃ a0 a1 a2, zs = [.int .u8 a0, .int .u8 a1, .int .u8 a2] ∧ (0 ≤ a0 ∧ a0 < 256) ∧ (0 ≤ a1 ∧ a1 < 256) ∧ (0 ≤ a2 ∧ a2 < 256) := ⟨_, _, _, ez, hz 0 (by omega), hz 1 (by omega), hz 2 (by omega)⟩
  have hc : Comp Tryd.prog gl1 11 [] [y0, f.iv, .agg [.int .u8 a0, .int .u8 a1, .int .u8 a2]] (.bool true) [] :=
    Comp.le (show leL _ [b.iv, f.iv, _] from ⟨hb, leV_refl _, leV_refl _, trivial⟩) (c_TopHawseUneven (gl := gl1) [] rfl b f a0 a1 a2 k0 k1 k2)
  refine (hc.runG (vals := args) (roots_laid hL) (by simpa using x1) (fun j x hx => ?_)).mono fun e W' ⟨v, he, ⟨I, s, hv⟩, bel⟩ => ?_
  · have := x4 j x hx
    rw [List.getD_eq_getElem?_getD, Array.getElem?_toList] at this
    rw [Array.getD_eq_getD_getElem?]; exact this
  subst he
  obtain rfl := hv.bool_inv
  have hA2 := shut_all laidOut bel [27, 29, 118] args.toList [d0, d1, d2] p (by kernel_rfl) hA
  exact ⟨_, rfl, _, _, _, [], _, [], hW', trodAll_mk1 (shut_bool Tryd.underlying4 _), hA2, rfl, bel.frame _, fun h => by cases h⟩

theorem topHawseUneven_row : Rows.TopHawseUnevenSaid :=
  OpenClaim.holds_of_wide 11 Tryd.f11 rfl rfl rfl rfl rfl rfl rfl ⟨rfl, rfl, rfl, rfl, rfl⟩ rfl rfl rfl rfl rfl (by kernel_rfl) Tryd.func11 (by kernel_rfl)
    (of_decide_eq_true (by kernel_rfl)) (by unfold Func.isWrapper; first | (rw [if_pos (by decide +kernel)]; kernel_rfl) | (rw [if_neg (by decide +kernel)]; exact ⟨rfl, rfl⟩))
    (fun os started H enc _ => lifted11 os started H enc)

theorem topHawseUneven_holds : Rows.TopHawseUnevenCardSaid :=
  Claim7.holds_tied_plain_at .later [] [.data] true (true, "b4f46fe70ec5485fad0dba5342d9b237ba1d6ec7cbff9e02e70ad1166869e312") false
    topHawseUneven_row (fun _ h => by cases h) (by kernel_rfl) (fun _ h => by cases h) topHawseUneven_row_tie rfl ⟨rfl, rfl⟩ (by kernel_rfl) rfl
    (fun f fn hf hfn => by
      obtain rfl : f = 11 := Option.some.inj ((show Tryd.prog.funcNamed "nacelle/nacelletop.TopHawseUneven" = some 11 by kernel_rfl).symm.trans hf) |>.symm
      obtain rfl : fn = Tryd.f11 := (Option.some.inj (Tryd.func11.symm.trans hfn)).symm
      exact ⟨by kernel_rfl, fun j t ht => by
        rw [Tryd.params11] at ht
        have hm : t ∈ [27, 29, 118] := by simpa using Array.mem_of_getElem? ht
        have hall : ([27, 29, 118].all fun u => !Tryd.prog.wantsStandIn u) = true := by kernel_rfl
        exact (show Tryd.prog.wantsStandIn t = false by simpa using List.all_eq_true.1 hall t hm)⟩)
    (by kernel_rfl)
end Go.Proofs.YtllmejkmogepjaaDoor
