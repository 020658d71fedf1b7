/-
  For every input the law ControlMonotone returns true and leaves its input as it was. Condition: the package-level tables that the row lists hold what the program lays in them; the tied card holds that against the program text.
-/
import Derived.Test.YtkdlegfakefjgaaDoorM10
namespace Go.Proofs.YtkdlegfakefjgaaDoor
open Go Go.ChangeShapes Go.WideShapes Go.ChangeAt Go.RowKit Go.Proofs.YtkdlegfakefjgaaDoor.Ix
set_option linter.unusedVariables false

theorem shape23 : shpB Tryd.prog machShp 23 = true := by kernel_rfl
theorem shape41 : shpB Tryd.prog stateShp 41 = true := by kernel_rfl
theorem shape42 : shpB Tryd.prog (.agg [(1, .int .u8), (1, .int .u8)]) 42 = true := by kernel_rfl

set_option maxRecDepth 100000 in
theorem lifted (os : Os) (started : os.Started) (H : Type) (enc : TypeId × Value → H) :
    ReturnsInHanded {} Tryd.checked os 4 .any (fun w args => (Rows.controlMonotoneSpec.pre enc Tryd.prog Tryd.f4 [] false w args ∧ laidMetH Tryd.prog laid4 w) ∧ sizedMet enc Tryd.prog Tryd.f4 (OpenSpec.ofChange Rows.controlMonotoneSpec) false w args)
      (Rows.controlMonotoneSpec.post enc Tryd.prog Tryd.f4 false true false false) := by
  refine returnsInHanded_of_change_and (C := Tryd.checked) (X := fun w _ => laidMetH Tryd.prog laid4 w) (fun _ _ _ hh h => h.of_heap hh) own started (by kernel_rfl) Tryd.func4
    (ChangeSpec.witness_shaped (enc := enc) (C := Tryd.checked) (os := os) (X := fun w _ => laidMetH Tryd.prog laid4 w) false (World.doorLaid Tryd.prog 400 os) #[.agg #[.int .i64 0, .int .i64 0, .int .i64 0, .int .i64 0, .int .i64 0, .int .i64 0, .int .i64 0], .agg #[.string ByteArray.empty, .int .i64 0, .int .i64 0, .int .i64 0, .int .i64 0, .int .i64 0, .int .i64 0], .agg #[.int .u8 0, .int .u8 0]] 8 rfl (World.shaped_of_RefB (by kernel_rfl) (by kernel_rfl)) (by kernel_rfl) (by kernel_rfl) (by kernel_rfl) (door_met os _)) ?_
  intro W base args ds gs before hval0 hW _ _ hL _
  have hval : ∀ (j : Nat) t v, Tryd.f4.params[j]? = some t → args[j]? = some v → Value.okWide Tryd.prog W .any base t v := hval0
  have hW' := hW
  obtain ⟨p, q, hA0, hV, rfl, hfz, hnd⟩ := hW
  have hA : DataW.TrodAll enc Tryd.prog W 0 (fun _ => true) true Tryd.f4.params.toList args.toList ds p := hA0
  rw [Tryd.params4] at hA hval
  obtain ⟨rfl, rfl⟩ := trodVars_none hV
  obtain ⟨d0, d1, d2, rfl⟩ : ∃ d0 d1 d2, ds = [d0, d1, d2] := by
    match ds, trodAll_len _ _ _ _ hA with
    | [a, b, c], _ => exact ⟨a, b, c, rfl⟩
  obtain ⟨xs, x1, x2, x3, x4⟩ := open_shps [machShp, stateShp, (.agg [(1, .int .u8), (1, .int .u8)])] [23, 41, 42] args.toList [d0, d1, d2] p rfl (fun j s t h1 h2 => by
      match j, h1, h2 with
      | 0, h1, h2 => cases h1; cases h2; exact shp_ok _ _ shape23
      | 1, h1, h2 => cases h1; cases h2; exact shp_ok _ _ shape41
      | 2, h1, h2 => cases h1; cases h2; exact shp_ok _ _ shape42
      | _ + 3, h1, h2 => cases h1) (fun j t v h1 h2 => hval j t v (by simpa using h1) (by simpa using h2)) hA
  obtain ⟨y0, y1, y2, rfl⟩ : ∃ y0 y1 y2, xs = [y0, y1, y2] := by
    match xs, x1.trans x2 with
    | [a, b, c], _ => exact ⟨a, b, c, rfl⟩
  obtain ⟨m0, rfl⟩ := fit_mach (x3 0 _ _ rfl rfl)
  obtain ⟨s1, rfl, hs1⟩ := fit_state (x3 1 _ _ rfl rfl)
  obtain ⟨a2, c2, rfl, hx2, hy2⟩ := fit_u8pair (x3 2 _ _ rfl rfl)
  have hc : Comp Tryd.prog gl4 4 [] [m0.iv, s1.iv, .agg [.int .u8 a2, .int .u8 c2]] (.bool true) [] :=
    Comp.le (show leL _ [m0.iv, s1.iv, .agg [.int .u8 a2, .int .u8 c2]] from ⟨leV_refl _, leV_refl _, leV_refl _, trivial⟩) (c_ControlMonotone (gl := gl4) [] rfl rfl m0 s1 a2 c2 hx2 hy2)
  refine (hc.runG (vals := args) (glo4 hL) (gsz4 hL) (by simpa using x1) (fun j x hx => ?_)).mono fun e W' ⟨v, he, ⟨I, s, hv⟩, bel⟩ => ?_
  · have := x4 j x hx
    rw [List.getD_eq_getElem?_getD, Array.getElem?_toList] at this
    rw [Array.getD_eq_getD_getElem?]; exact this
  subst he
  obtain rfl := hv.bool_inv
  have hA2 := shut_all laidOut bel [23, 41, 42] args.toList [d0, d1, d2] p (by kernel_rfl) hA
  exact ⟨_, rfl, _, _, _, [], _, [], hW', trodAll_mk1 (shut_bool Tryd.underlying4 _), hA2, rfl, bel.frame _, fun h => by cases h⟩

theorem controlMonotone_row : Rows.ControlMonotoneSaid :=
  OpenClaim.holds_of_wide 4 Tryd.f4 rfl rfl rfl rfl rfl rfl rfl ⟨rfl, rfl, rfl, rfl, rfl⟩ rfl rfl rfl rfl rfl (by kernel_rfl) Tryd.func4 (by kernel_rfl)
    (of_decide_eq_true (by kernel_rfl)) (by unfold Func.isWrapper; first | (rw [if_pos (by decide +kernel)]; kernel_rfl) | (rw [if_neg (by decide +kernel)]; exact ⟨rfl, rfl⟩))
    (fun os started H enc _ => lifted os started H enc)

theorem controlMonotone_holds : Rows.ControlMonotoneCardSaid :=
  Claim7.holds_tied_plain_at .later [] [.data, .data, .data, .widerDeep] true (true, "64f9b6affdd33777d863f19395e0878827bbb6b8c660547e928b59beefbd39bd") false
    controlMonotone_row (fun _ h => by cases h) (by kernel_rfl) (fun _ h => by cases h) controlMonotone_row_tie rfl ⟨rfl, rfl⟩ (by kernel_rfl) rfl
    (fun f fn hf hfn => by
      obtain rfl : f = 4 := Option.some.inj ((show Tryd.prog.funcNamed "nacelle/nacellelaw05.ControlMonotone" = some 4 by kernel_rfl).symm.trans hf) |>.symm
      obtain rfl : fn = Tryd.f4 := (Option.some.inj (Tryd.func4.symm.trans hfn)).symm
      exact ⟨by kernel_rfl, fun j t ht => by
        rw [Tryd.params4] at ht
        have hm : t ∈ [23, 41, 42] := by simpa using Array.mem_of_getElem? ht
        have hall : ([23, 41, 42].all fun u => !Tryd.prog.wantsStandIn u) = true := by kernel_rfl
        exact (show Tryd.prog.wantsStandIn t = false by simpa using List.all_eq_true.1 hall t hm)⟩)
    (by kernel_rfl)
end Go.Proofs.YtkdlegfakefjgaaDoor
