/-
  For every input the law ControlProposes returns true and leaves its input as it was. Condition: the package-level tables that the row lists hold what the program lays in them; the tied card holds that against the program text.
-/
import Derived.Test.YtkdlegfakefjgaaGreatDoorM10
namespace Go.Proofs.YtkdlegfakefjgaaGreatDoor
open Go Go.ChangeShapes Go.WideShapes Go.ChangeAt Go.RowKit Go.Proofs.YtkdlegfakefjgaaGreatDoor.Ix
set_option linter.unusedVariables false

theorem shape23 : shpB Tryz.prog machShp 23 = true := by kernel_rfl
theorem shape63 : shpB Tryz.prog (.slice 1 (.int .u8)) 63 = true := by kernel_rfl
theorem shape5 : shpB Tryz.prog (.int .u8) 5 = true := by kernel_rfl

set_option maxRecDepth 100000 in
theorem lifted (os : Os) (started : os.Started) (H : Type) (enc : TypeId × Value → H) :
    ReturnsInHanded {} Tryz.checked os 11 .any (fun w args => (Rows.controlProposesSpec.pre enc Tryz.prog Tryz.f11 [] false w args ∧ laidMetH Tryz.prog laid4 w) ∧ sizedMet enc Tryz.prog Tryz.f11 (OpenSpec.ofChange Rows.controlProposesSpec) false w args)
      (Rows.controlProposesSpec.post enc Tryz.prog Tryz.f11 false true false false) := by
  refine returnsInHanded_of_change_and (C := Tryz.checked) (X := fun w _ => laidMetH Tryz.prog laid4 w) (fun _ _ _ hh h => h.of_heap hh) own started (by kernel_rfl) Tryz.func11
    (ChangeSpec.witness_shaped (enc := enc) (C := Tryz.checked) (os := os) (X := fun w _ => laidMetH Tryz.prog laid4 w) false (World.laidAll Tryz.prog os laid4) #[.agg #[.int .i64 0, .int .i64 0, .int .i64 0, .int .i64 0, .int .i64 0, .int .i64 0, .int .i64 0], .slice none 0 0, .int .u8 0] 8 (World.laidAll_os _ _ _) (World.shaped_of_ZipB (by kernel_rfl) (by kernel_rfl)) (by kernel_rfl) (by kernel_rfl) (by kernel_rfl) (door_met os _)) ?_
  intro W base args ds gs before hval0 hW _ _ hL _
  have hval : ∀ (j : Nat) t v, Tryz.f11.params[j]? = some t → args[j]? = some v → Value.okWide Tryz.prog W .any base t v := hval0
  have hW' := hW
  obtain ⟨p, q, hA0, hV, rfl, hfz, hnd⟩ := hW
  have hA : DataW.TrodAll enc Tryz.prog W 0 (fun _ => true) true Tryz.f11.params.toList args.toList ds p := hA0
  rw [Tryz.params11] at hA hval
  obtain ⟨rfl, rfl⟩ := trodVars_none hV
  obtain ⟨d0, d1, d2, rfl⟩ : ∃ d0 d1 d2, ds = [d0, d1, d2] := by
    match ds, trodAll_len _ _ _ _ hA with
    | [a, b, c], _ => exact ⟨a, b, c, rfl⟩
  obtain ⟨xs, x1, x2, x3, x4⟩ := open_shps [machShp, (.slice 1 (.int .u8)), (.int .u8)] [23, 63, 5] args.toList [d0, d1, d2] p rfl (fun j s t h1 h2 => by
      match j, h1, h2 with
      | 0, h1, h2 => cases h1; cases h2; exact shp_ok _ _ shape23
      | 1, h1, h2 => cases h1; cases h2; exact shp_ok _ _ shape63
      | 2, h1, h2 => cases h1; cases h2; exact shp_ok _ _ shape5
      | _ + 3, h1, h2 => cases h1) (fun j t v h1 h2 => hval j t v (by simpa using h1) (by simpa using h2)) hA
  obtain ⟨y0, y1, y2, rfl⟩ : ∃ y0 y1 y2, xs = [y0, y1, y2] := by
    match xs, x1.trans x2 with
    | [a, b, c], _ => exact ⟨a, b, c, rfl⟩
  obtain ⟨m0, rfl⟩ := fit_mach (x3 0 _ _ rfl rfl)
  obtain ⟨n1, f1, hx1, hb1⟩ := fit_bytes1 (x3 1 _ _ rfl rfl)
  obtain ⟨b2, rfl, hx2⟩ := fit_u8 (x3 2 _ _ rfl rfl)
  have hc : Comp Tryz.prog gl4 11 [] [m0.iv, y1, .int .u8 b2] (.bool true) [] :=
    Comp.le (show leL _ [m0.iv, .lst none 1 n1 fun i => [.int .u8 (f1 i)], .int .u8 b2] from ⟨leV_refl _, hb1, leV_refl _, trivial⟩) (c_ControlProposes (gl := gl4) [] rfl rfl m0 n1 f1 hx1 b2 hx2)
  refine (hc.runG (vals := args) (glo4 hL) (gsz4 hL) (by simpa using x1) (fun j x hx => ?_)).mono fun e W' ⟨v, he, ⟨I, s, hv⟩, bel⟩ => ?_
  · have := x4 j x hx
    rw [List.getD_eq_getElem?_getD, Array.getElem?_toList] at this
    rw [Array.getD_eq_getD_getElem?]; exact this
  subst he
  obtain rfl := hv.bool_inv
  have hA2 := shut_all laidOut bel [23, 63, 5] args.toList [d0, d1, d2] p (by kernel_rfl) hA
  exact ⟨_, rfl, _, _, _, [], _, [], hW', trodAll_mk1 (shut_bool Tryz.underlying4 _), hA2, rfl, bel.frame _, fun h => by cases h⟩

theorem controlProposes_row : Rows.ControlProposesSaid :=
  OpenClaim.holds_of_wide 11 Tryz.f11 rfl rfl rfl rfl rfl rfl rfl ⟨rfl, rfl, rfl, rfl, rfl⟩ rfl rfl rfl rfl rfl (by kernel_rfl) Tryz.func11 (by kernel_rfl)
    (of_decide_eq_true (by kernel_rfl)) (by unfold Func.isWrapper; first | (rw [if_pos (by decide +kernel)]; kernel_rfl) | (rw [if_neg (by decide +kernel)]; exact ⟨rfl, rfl⟩))
    (fun os started H enc _ => lifted os started H enc)

theorem controlProposes_holds : Rows.ControlProposesCardSaid :=
  Claim7.holds_tied_plain_at .later [] [.data, .data, .data, .data, .widerDeep, .pinned] true (true, "de3cb31e3e51364054f91113dfa8cf7983ef62f0626cb61ef723a00d39ec5f01") false
    controlProposes_row (fun _ h => by cases h) (by kernel_rfl) (fun _ h => by cases h) controlProposes_row_tie rfl ⟨rfl, rfl⟩ (by kernel_rfl) rfl
    (fun f fn hf hfn => by
      obtain rfl : f = 11 := Option.some.inj ((show Tryz.prog.funcNamed "nacelle/nacellelaw05.ControlProposes" = some 11 by kernel_rfl).symm.trans hf) |>.symm
      obtain rfl : fn = Tryz.f11 := (Option.some.inj (Tryz.func11.symm.trans hfn)).symm
      exact ⟨by kernel_rfl, fun j t ht => by
        rw [Tryz.params11] at ht
        have hm : t ∈ [23, 63, 5] := by simpa using Array.mem_of_getElem? ht
        have hall : ([23, 63, 5].all fun u => !Tryz.prog.wantsStandIn u) = true := by kernel_rfl
        exact (show Tryz.prog.wantsStandIn t = false by simpa using List.all_eq_true.1 hall t hm)⟩)
    (by kernel_rfl)
end Go.Proofs.YtkdlegfakefjgaaGreatDoor
