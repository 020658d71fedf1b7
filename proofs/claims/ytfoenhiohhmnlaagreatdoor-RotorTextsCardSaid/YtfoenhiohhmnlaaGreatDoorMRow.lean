/-
  For every input the law RotorTexts returns true and leaves its input as it was. Condition: the package-level tables that the row lists hold what the program lays in them; the tied card holds that against the program text.
-/
import Derived.Test.YtfoenhiohhmnlaaGreatDoorM8
namespace Go.Proofs.YtfoenhiohhmnlaaGreatDoor
open Go Go.ChangeShapes Go.WideShapes Go.ChangeAt Go.RowKit Go.Proofs.YtfoenhiohhmnlaaGreatDoor.Ix
set_option linter.unusedVariables false

theorem shape9 : shpB Tryz.prog .str 9 = true := by kernel_rfl

set_option maxRecDepth 100000 in
theorem lifted (os : Os) (started : os.Started) (H : Type) (enc : TypeId × Value → H) :
    ReturnsInHanded {} Tryz.checked os 3 .any (fun w args => (Rows.rotorTextsSpec.pre enc Tryz.prog Tryz.f3 [] false w args ∧ laidMetH Tryz.prog laid4 w) ∧ sizedMet enc Tryz.prog Tryz.f3 (OpenSpec.ofChange Rows.rotorTextsSpec) false w args)
      (Rows.rotorTextsSpec.post enc Tryz.prog Tryz.f3 false true false false) := by
  refine returnsInHanded_of_change_and (C := Tryz.checked) (X := fun w _ => laidMetH Tryz.prog laid4 w) (fun _ _ _ hh h => h.of_heap hh) own started (by kernel_rfl) Tryz.func3
    (ChangeSpec.witness_shaped (enc := enc) (C := Tryz.checked) (os := os) (X := fun w _ => laidMetH Tryz.prog laid4 w) false (World.laidAll Tryz.prog os laid4) #[.string ByteArray.empty] 8 (World.laidAll_os _ _ _) (World.shaped_of_ZipB (by kernel_rfl) (by kernel_rfl)) (by kernel_rfl) (by kernel_rfl) (by kernel_rfl) (door_met os _)) ?_
  intro W base args ds gs before hval0 hW _ _ hL _
  have hval : ∀ (j : Nat) t v, Tryz.f3.params[j]? = some t → args[j]? = some v → Value.okWide Tryz.prog W .any base t v := hval0
  have hW' := hW
  obtain ⟨p, q, hA0, hV, rfl, hfz, hnd⟩ := hW
  have hA : DataW.TrodAll enc Tryz.prog W 0 (fun _ => true) true Tryz.f3.params.toList args.toList ds p := hA0
  rw [Tryz.params3] at hA hval
  obtain ⟨rfl, rfl⟩ := trodVars_none hV
  obtain ⟨d0, rfl⟩ : ∃ d0, ds = [d0] := by
    match ds, trodAll_len _ _ _ _ hA with
    | [a], _ => exact ⟨a, rfl⟩
  obtain ⟨xs, x1, x2, x3, x4⟩ := open_shps [.str] [9] args.toList [d0] p rfl (fun j s t h1 h2 => by
      match j, h1, h2 with
      | 0, h1, h2 => cases h1; cases h2; exact shp_ok _ _ shape9
      | _ + 1, h1, h2 => cases h1) (fun j t v h1 h2 => hval j t v (by simpa using h1) (by simpa using h2)) hA
  obtain ⟨y0, rfl⟩ : ∃ y0, xs = [y0] := by
    match xs, x1.trans x2 with
    | [a], _ => exact ⟨a, rfl⟩
  have ht0 : Fit .str [y0] := x3 0 _ _ rfl rfl
  obtain ⟨t0, hu0, hz0⟩ := cellsS ht0
  obtain rfl := (List.cons.inj hu0).1
  have hc : Comp Tryz.prog gl4 3 [] [.str t0] (.bool true) [] :=
    Comp.le (show leL _ [.str t0] from ⟨leV_refl _, trivial⟩) (c_RotorTexts (gl := gl4) [] rfl rfl rfl rfl t0)
  refine (hc.runG (vals := args) (glo4 hL) (gsz4 hL) (by simpa using x1) (fun j x hx => ?_)).mono fun e W' ⟨v, he, ⟨I, s, hv⟩, bel⟩ => ?_
  · have := x4 j x hx
    rw [List.getD_eq_getElem?_getD, Array.getElem?_toList] at this
    rw [Array.getD_eq_getD_getElem?]; exact this
  subst he
  obtain rfl := hv.bool_inv
  have hA2 := shut_all laidOut bel [9] args.toList [d0] p (by kernel_rfl) hA
  exact ⟨_, rfl, _, _, _, [], _, [], hW', trodAll_mk1 (shut_bool Tryz.underlying4 _), hA2, rfl, bel.frame _, fun h => by cases h⟩

theorem rotorTexts_row : Rows.RotorTextsSaid :=
  OpenClaim.holds_of_wide 3 Tryz.f3 rfl rfl rfl rfl rfl rfl rfl ⟨rfl, rfl, rfl, rfl, rfl⟩ rfl rfl rfl rfl rfl (by kernel_rfl) Tryz.func3 (by kernel_rfl)
    (of_decide_eq_true (by kernel_rfl)) (by unfold Func.isWrapper; first | (rw [if_pos (by decide +kernel)]; kernel_rfl) | (rw [if_neg (by decide +kernel)]; exact ⟨rfl, rfl⟩))
    (fun os started H enc _ => lifted os started H enc)

theorem rotorTexts_holds : Rows.RotorTextsCardSaid :=
  Claim7.holds_tied_plain_at .later [] [.data, .data, .data, .data, .sentinel, .sentinel, .data, .pinned] true (true, "28d7797669e79a3a6a624d6dbb8ea80b213b93cb9d0fa89fe47abc9d590a2fbe") true
    rotorTexts_row (fun _ h => by cases h) (by kernel_rfl) (fun _ h => by cases h) rotorTexts_row_tie rfl ⟨rfl, rfl⟩ (by kernel_rfl) rfl
    (fun f fn hf hfn => by
      obtain rfl : f = 3 := Option.some.inj ((show Tryz.prog.funcNamed "nacelle/nacellelaw03.RotorTexts" = some 3 by kernel_rfl).symm.trans hf) |>.symm
      obtain rfl : fn = Tryz.f3 := (Option.some.inj (Tryz.func3.symm.trans hfn)).symm
      exact ⟨by kernel_rfl, fun j t ht => by
        rw [Tryz.params3] at ht
        have hm : t ∈ [9] := by simpa using Array.mem_of_getElem? ht
        have hall : ([9].all fun u => !Tryz.prog.wantsStandIn u) = true := by kernel_rfl
        exact (show Tryz.prog.wantsStandIn t = false by simpa using List.all_eq_true.1 hall t hm)⟩)
    (by kernel_rfl)
end Go.Proofs.YtfoenhiohhmnlaaGreatDoor
