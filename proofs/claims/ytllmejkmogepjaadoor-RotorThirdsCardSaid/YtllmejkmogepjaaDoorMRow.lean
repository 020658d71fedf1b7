/-
  For every input the law RotorThirds returns true and leaves its input as it was. Condition: the package-level tables that the row lists hold what the program lays in them; the tied card holds that against the program text.
-/
import Derived.Test.YtllmejkmogepjaaDoorM6
namespace Go.Proofs.YtllmejkmogepjaaDoor
open Go Go.ChangeShapes Go.WideShapes Go.ChangeAt Go.RowKit Go.Proofs.YtllmejkmogepjaaDoor.Ix
set_option linter.unusedVariables false

theorem shape49 : shpB Tryd.prog tripShp 49 = true := by kernel_rfl
theorem shape51 : shpB Tryd.prog pairShp 51 = true := by kernel_rfl

set_option maxRecDepth 100000 in
theorem lifted (os : Os) (started : os.Started) (H : Type) (enc : TypeId × Value → H) :
    ReturnsInHanded {} Tryd.checked os 9 .any (fun w args => (Rows.rotorThirdsSpec.pre enc Tryd.prog Tryd.f9 [] false w args ∧ laidMetH Tryd.prog laid4 w) ∧ sizedMet enc Tryd.prog Tryd.f9 (OpenSpec.ofChange Rows.rotorThirdsSpec) false w args)
      (Rows.rotorThirdsSpec.post enc Tryd.prog Tryd.f9 false true false false) := by
  refine returnsInHanded_of_change_and (C := Tryd.checked) (X := fun w _ => laidMetH Tryd.prog laid4 w) (fun _ _ _ hh h => h.of_heap hh) own started (by kernel_rfl) Tryd.func9
    (ChangeSpec.witness_shaped (enc := enc) (C := Tryd.checked) (os := os) (X := fun w _ => laidMetH Tryd.prog laid4 w) false (World.doorLaid Tryd.prog 400 os) #[.agg #[.int .i64 0, .int .i64 0, .int .i64 0], .agg #[.int .i64 0, .int .i64 0], .agg #[.int .i64 0, .int .i64 0]] 8 rfl (World.shaped_of_RefB (by kernel_rfl) (by kernel_rfl)) (by kernel_rfl) (by kernel_rfl) (by kernel_rfl) (door_met os _)) ?_
  intro W base args ds gs before hval0 hW _ _ hL _
  have hval : ∀ (j : Nat) t v, Tryd.f9.params[j]? = some t → args[j]? = some v → Value.okWide Tryd.prog W .any base t v := hval0
  have hW' := hW
  obtain ⟨p, q, hA0, hV, rfl, hfz, hnd⟩ := hW
  have hA : DataW.TrodAll enc Tryd.prog W 0 (fun _ => true) true Tryd.f9.params.toList args.toList ds p := hA0
  rw [Tryd.params9] at hA hval
  obtain ⟨rfl, rfl⟩ := trodVars_none hV
  obtain ⟨d0, d1, d2, rfl⟩ : ∃ d0 d1 d2, ds = [d0, d1, d2] := by
    match ds, trodAll_len _ _ _ _ hA with
    | [a, b, c], _ => exact ⟨a, b, c, rfl⟩
  obtain ⟨xs, x1, x2, x3, x4⟩ := open_shps [tripShp, pairShp, pairShp] [49, 51, 51] args.toList [d0, d1, d2] p rfl (fun j s t h1 h2 => by
      match j, h1, h2 with
      | 0, h1, h2 => cases h1; cases h2; exact shp_ok _ _ shape49
      | 1, h1, h2 => cases h1; cases h2; exact shp_ok _ _ shape51
      | 2, h1, h2 => cases h1; cases h2; exact shp_ok _ _ shape51
      | _ + 3, h1, h2 => cases h1) (fun j t v h1 h2 => hval j t v (by simpa using h1) (by simpa using h2)) hA
  obtain ⟨y0, y1, y2, rfl⟩ : ∃ y0 y1 y2, xs = [y0, y1, y2] := by
    match xs, x1.trans x2 with
    | [a, b, c], _ => exact ⟨a, b, c, rfl⟩
  obtain ⟨a0, c0, e0, rfl⟩ := fit_trip (x3 0 _ _ rfl rfl)
  obtain ⟨a1, c1, rfl⟩ := fit_pair (x3 1 _ _ rfl rfl)
  obtain ⟨a2, c2, rfl⟩ := fit_pair (x3 2 _ _ rfl rfl)
  have hc : Comp Tryd.prog gl4 9 [] [.agg [.int .i64 a0, .int .i64 c0, .int .i64 e0], .agg [.int .i64 a1, .int .i64 c1], .agg [.int .i64 a2, .int .i64 c2]] (.bool true) [] :=
    Comp.le (show leL _ [.agg [.int .i64 a0, .int .i64 c0, .int .i64 e0], .agg [.int .i64 a1, .int .i64 c1], .agg [.int .i64 a2, .int .i64 c2]] from ⟨leV_refl _, leV_refl _, leV_refl _, trivial⟩) (c_RotorThirds (gl := gl4) [] rfl rfl a0 c0 e0 a1 c1 a2 c2)
  refine (hc.runG (vals := args) (glo4 hL) (gsz4 hL) (by simpa using x1) (fun j x hx => ?_)).mono fun e W' ⟨v, he, ⟨I, s, hv⟩, bel⟩ => ?_
  · have := x4 j x hx
    rw [List.getD_eq_getElem?_getD, Array.getElem?_toList] at this
    rw [Array.getD_eq_getD_getElem?]; exact this
  subst he
  obtain rfl := hv.bool_inv
  have hA2 := shut_all laidOut bel [49, 51, 51] args.toList [d0, d1, d2] p (by kernel_rfl) hA
  exact ⟨_, rfl, _, _, _, [], _, [], hW', trodAll_mk1 (shut_bool Tryd.underlying4 _), hA2, rfl, bel.frame _, fun h => by cases h⟩

theorem rotorThirds_row : Rows.RotorThirdsSaid :=
  OpenClaim.holds_of_wide 9 Tryd.f9 rfl rfl rfl rfl rfl rfl rfl ⟨rfl, rfl, rfl, rfl, rfl⟩ rfl rfl rfl rfl rfl (by kernel_rfl) Tryd.func9 (by kernel_rfl)
    (of_decide_eq_true (by kernel_rfl)) (by unfold Func.isWrapper; first | (rw [if_pos (by decide +kernel)]; kernel_rfl) | (rw [if_neg (by decide +kernel)]; exact ⟨rfl, rfl⟩))
    (fun os started H enc _ => lifted os started H enc)

theorem rotorThirds_holds : Rows.RotorThirdsCardSaid :=
  Claim7.holds_tied_plain_at .later [] [.data, .data, .data, .data] true (true, "b4f46fe70ec5485fad0dba5342d9b237ba1d6ec7cbff9e02e70ad1166869e312") false
    rotorThirds_row (fun _ h => by cases h) (by kernel_rfl) (fun _ h => by cases h) rotorThirds_row_tie rfl ⟨rfl, rfl⟩ (by kernel_rfl) rfl
    (fun f fn hf hfn => by
      obtain rfl : f = 9 := Option.some.inj ((show Tryd.prog.funcNamed "nacelle/nacellelaw03.RotorThirds" = some 9 by kernel_rfl).symm.trans hf) |>.symm
      obtain rfl : fn = Tryd.f9 := (Option.some.inj (Tryd.func9.symm.trans hfn)).symm
      exact ⟨by kernel_rfl, fun j t ht => by
        rw [Tryd.params9] at ht
        have hm : t ∈ [49, 51, 51] := by simpa using Array.mem_of_getElem? ht
        have hall : ([49, 51, 51].all fun u => !Tryd.prog.wantsStandIn u) = true := by kernel_rfl
        exact (show Tryd.prog.wantsStandIn t = false by simpa using List.all_eq_true.1 hall t hm)⟩)
    (by kernel_rfl)
end Go.Proofs.YtllmejkmogepjaaDoor
