/-
  IxRow1: TopHawseFinest: the row.
-/
import Derived.Test.YtllmejkmogepjaaRows
import Derived.Test.YtllmejkmogepjaaXRt3
import Derived.Test.YtllmejkmogepjaaXSh
import Derived.WalkKit
import Derived.ProofKit
import Derived.OpenShut
import Derived.ChangeOld
import Derived.Below
import Derived.SizedLaws
namespace Go.Proofs.Ytllmejkmogepjaa
open Go.ChangeShapes Go.WideShapes Go.ChangeAt Go.RowKit Go.Proofs.Ytllmejkmogepjaa.Ix
set_option linter.unusedVariables false

theorem own : ownKnob Try.prog.godebug = none := by kernel_rfl
theorem laidOut : laidOutB Try.prog = true := by kernel_rfl

theorem shape27 : shpB Try.prog bladeShp 27 = true := by kernel_rfl
theorem shape29 : shpB Try.prog flowShp 29 = true := by kernel_rfl
theorem shape30 : shpB Try.prog (.agg [(1, .int .u8), (1, .int .u8)]) 30 = true := by kernel_rfl

set_option maxRecDepth 100000 in
theorem lifted3 (os : Os) (started : os.Started) (H : Type) (enc : TypeId × Value → H) :
    ReturnsInHanded {} Try.checked os 3 .any (Rows.topHawseFinestSpec.pre6 enc Try.prog Try.f3 Rows.topHawseFinestRow.domain false) (Rows.topHawseFinestSpec.post enc Try.prog Try.f3 false true false false) := by
  refine returnsInHanded_of_change_sized (C := Try.checked) own started (by kernel_rfl) Try.func3
    (ChangeSpec.witness6 (enc := enc) (C := Try.checked) false ⟨#[], #[.agg #[.slice none 0 0, .slice none 0 0, .slice none 0 0], .agg #[.int .i64 0, .int .i64 0, .int .i64 0], .agg #[.int .u8 0, .int .u8 0]], []⟩ 8 (by kernel_rfl) (by kernel_rfl) (by kernel_rfl) (by kernel_rfl)) ?_
  intro W base args ds gs before hval0 hW hcnd hsz0 _
  have hval : ∀ (j : Nat) t v, Try.f3.params[j]? = some t → args[j]? = some v → Value.okWide Try.prog W .any base t v := hval0
  have hW' := hW
  obtain ⟨p, q, hA0, hV, rfl, hfz, hnd⟩ := hW
  have hA : DataW.TrodAll enc Try.prog W 0 (fun _ => true) true Try.f3.params.toList args.toList ds p := hA0
  rw [Try.params3] at hA hval
  obtain ⟨rfl, rfl⟩ := trodVars_none hV
  obtain ⟨d0, d1, d2, rfl⟩ : ∃ d0 d1 d2, ds = [d0, d1, d2] := by
    match ds, trodAll_len _ _ _ _ hA with
    | [a, b, c], _ => exact ⟨a, b, c, rfl⟩
  obtain ⟨xs, x1, x2, x3, x4⟩ := open_shps [bladeShp, flowShp, .agg [(1, .int .u8), (1, .int .u8)]] [27, 29, 30] args.toList [d0, d1, d2] p rfl (fun j s t h1 h2 => by
      match j, h1, h2 with
      | 0, h1, h2 => cases h1; cases h2; exact shp_ok _ _ shape27
      | 1, h1, h2 => cases h1; cases h2; exact shp_ok _ _ shape29
      | 2, h1, h2 => cases h1; cases h2; exact shp_ok _ _ shape30
      | _ + 3, h1, h2 => cases h1) (fun j t v h1 h2 => hval j t v (by simpa using h1) (by simpa using h2)) hA
  obtain ⟨y0, y1, y2, rfl⟩ : ∃ y0 y1 y2, xs = [y0, y1, y2] := by
    match xs, x1.trans x2 with
    | [a, b, c], _ => exact ⟨a, b, c, rfl⟩
  obtain ⟨b, hb, _⟩ := fit_blade (x3 0 _ _ rfl rfl)
  obtain ⟨f, rfl⟩ := fit_flow (x3 1 _ _ rfl rfl)
  obtain ⟨zs, rfl, hz⟩ := x3 2 _ _ rfl rfl
  obtain ⟨ez, hz⟩ := fit_u8s 2 zs hz
  obtain ⟨a0, a1, rfl, k0, k1⟩ : ∃ a0 a1, zs = [.int .u8 a0, .int .u8 a1] ∧ (0 ≤ a0 ∧ a0 < 256) ∧ (0 ≤ a1 ∧ a1 < 256) := ⟨_, _, ez, hz 0 (by omega), hz 1 (by omega)⟩
  have hc : Comp Try.prog (fun _ => .dead) 3 [] [y0, f.iv, .agg [.int .u8 a0, .int .u8 a1]] (.bool true) [] :=
    Comp.le (show leL _ [b.iv, f.iv, _] from ⟨hb, leV_refl _, leV_refl _, trivial⟩) (c_TopHawseFinest (gl := fun _ => .dead) [] b f a0 a1 k0 k1)
  refine (hc.run (vals := args) (by simpa using x1) (fun j x hx => ?_)).mono fun e W' ⟨v, he, ⟨I, s, hv⟩, bel⟩ => ?_
  · have := x4 j x hx
    rw [List.getD_eq_getElem?_getD, Array.getElem?_toList] at this
    rw [Array.getD_eq_getD_getElem?]; exact this
  subst he
  obtain rfl := hv.bool_inv
  have hA2 := shut_all laidOut bel [27, 29, 30] args.toList [d0, d1, d2] p (by kernel_rfl) hA
  exact ⟨_, rfl, _, _, _, [], _, [], hW', trodAll_mk1 (shut_bool Try.underlying4 _), hA2, rfl, bel.frame _, fun h => by cases h⟩

theorem over3 : Rows.topHawseFinestRow.holds Try.pinned (OpenSpec.ofChange Rows.topHawseFinestSpec) :=
  OpenClaim.holds_of_wide 3 Try.f3 rfl rfl rfl rfl rfl rfl rfl ⟨rfl, rfl, rfl, rfl, rfl⟩ rfl rfl rfl rfl rfl (by kernel_rfl) Try.func3 (by kernel_rfl)
    (of_decide_eq_true (by kernel_rfl)) (by unfold Func.isWrapper; first | (rw [if_pos (by decide +kernel)]; kernel_rfl) | (rw [if_neg (by decide +kernel)]; exact ⟨rfl, rfl⟩))
    (fun os started H enc _ => lifted3 os started H enc)

theorem topHawseFinest_holds : Rows.TopHawseFinestSaid := over3
end Go.Proofs.Ytllmejkmogepjaa
