/-
  Ix29: copies into rows just made.
-/
import Derived.Test.YtllmejkmogepjaaDoorX11
namespace Go.Proofs.YtllmejkmogepjaaDoor.Ix
set_option linter.unusedVariables false

section
variable {Γ : Env} {S : St} {a : Act} {w : World} {I : Imm} {X : Nat → Prop} {β : Beta} {σ : Nat → Sig} {K : St → Prop}

/-- A copy into a row just made. -/
theorem copyI_sound {ty sT rty el t e n : Nat} {o : Option Nat} {x : IV} {vs vx : Value} (hT : TOK Γ.P Γ.T) (hk : (Γ.T ty).k = .slice el) (he : (Γ.T el).size = e) (h : copyI Γ S o t e n x K) (r : Rel Γ S a w I X β σ)
    (hs : V I β (σ 0) (.raw t e n) vs) (hx : V I β (σ 0) x vx) :
    ∃ w', (Builtin.copy_ #[ty, sT] rty #[vs, vx]).run Γ.P w = .ok (.int .i64 n) w' ∧ Aft Γ K I X w β σ (a.put o (.int .i64 n)) w' := by
  subst he
  obtain ⟨b, el0, ht, rfl⟩ : ∃ b el0, σ 0 t = some ⟨b, el0, (Γ.T el).size, 0, n⟩ ∧ vs = .slice (some ⟨b, 0, none⟩) n n := by
    cases hs with
    | data h => cases h
    | raw t e n b el ht => exact ⟨b, el, ht, rfl⟩
  obtain ⟨inf, dd, z, tk⟩ := TOK.get hT (t := ty) (.inr (by rw [hk]; simp))
  have kd := tk.kind
  rw [hk] at kd
  obtain ⟨rfl, hel⟩ := kd
  obtain ⟨inf', d', z', tk'⟩ := TOK.get hT (t := el) (.inl hel)
  obtain ⟨cur, c1, c2, c3, c4, c5, c6, c7⟩ := r.own.row t _ ht
  simp only at c1 c2 c3 c4 c5 c6 c7
  obtain ⟨tm, ce, up⟩ := S
  unfold copyI at h
  split at h
  case h_2 => exact h.elim
  rename_i tm' ce' up' o2 e2 m g heq
  cases heq
  split at h
  case h_2 => exact h.elim
  rename_i he2
  have he2 := (beq_iff _ _).1 he2
  subst he2
  obtain ⟨h1, h⟩ := chk_spec h
  simp at h1
  subst h1
  rw [fps_eq, fcs_eq] at h
  have fin : ∀ {w' : World}, (∃ I' σ', Rel Γ ⟨settleT t (Γ.T el).size m g tm, settleC t (Γ.T el).size m g ce, up⟩ a w' I' X β σ' ∧ Ext I X w I' w' ∧ Above β β σ σ') → Aft Γ K I X w β σ (a.put o (.int .i64 m)) w' := fun hq => by
    obtain ⟨I', σ', r', he', ha'⟩ := hq
    obtain ⟨S', hk', r''⟩ := putT_sound h r' (.data (.int .i64 m))
    exact ⟨S', I', β, σ', hk', r'', he', ha'⟩
  rcases hx.lst_inv with ⟨px, rfl, rfl⟩ | ⟨b2, off2, cc2, vg, rfl, hnc2, hown2, hl2, hI2, ho2, hD2⟩
  · refine ⟨w, ?_, fin (settle_sound (S := ⟨tm, ce, up⟩) r ht c4 (fun j u hu => ?_) (fun i hi => by omega) (fun i j x hi => by omega) w c1 (fun k o _ ho => ho) (Nat.le_refl _) rfl rfl rfl)⟩
    · cases px <;> simp [Builtin.copy_, run_underlying tk.und, Builtin.lenOf, Builtin.firstCells, run_sz tk'.msize, loadCells, loadCellsFrom, storeCells, goInt]
    · have := (Array.getElem?_eq_some_iff.1 hu).1
      rw [c4] at this; omega
  · have hlen2 : (rowL (Γ.T el).size m vg).length = m * (Γ.T el).size := by simp [rowL]
    have hf := run_firstCells_some (P := Γ.P) w inf'.size m ⟨b2, off2, none⟩ m cc2 (rowL (Γ.T el).size m vg) (by simp [rowL, tk'.size]) (fun j v hj => rowL_cell r hI2 j v hj)
    have hst := run_storeCells_at Γ.P b 0 el0 (rowL (Γ.T el).size m vg) 0 cur w c1 (by rw [hlen2, c4]; omega) (rowL_one ho2)
    have hvs : (cur.toList.take 0 ++ rowL (Γ.T el).size m vg ++ cur.toList.drop (0 + (rowL (Γ.T el).size m vg).length)).toArray = (rowL (Γ.T el).size m vg).toArray := by
      rw [hlen2, List.drop_eq_nil_of_le (by simp [c4])]; simp
    refine ⟨w.setRow b (rowL (Γ.T el).size m vg).toArray, ?_, fin (settle_sound (S := ⟨tm, ce, up⟩) (vs := (rowL (Γ.T el).size m vg).toArray) r ht (by simp [hlen2]) (fun j u hu => ?_) hl2 (fun i j x hi hx => ?_) _ (setRow_heap w b cur _ el0 _ c1) (fun k o hk ho => by rw [setRow_other w b k _ hk]; exact ho) (by simp) rfl rfl rfl)⟩
    · rw [← hvs]
      simp only [Nat.add_zero] at hst
      simp [Builtin.copy_, run_underlying tk.und, Builtin.lenOf, sizeOf, typeInfo, tk'.info, hf, hst, goInt]
    · exact rowL_one ho2 u (List.mem_of_getElem? (by simpa using hu))
    · have hj : j < (Γ.T el).size := by rw [← hl2 i hi]; exact (List.getElem?_eq_some_iff.1 hx).1
      have hb : i * (Γ.T el).size + j < m * (Γ.T el).size := by
        have := Nat.mul_le_mul_right (Γ.T el).size (show i + 1 ≤ m by omega)
        rw [Nat.add_mul] at this; omega
      rw [Array.getD_eq_getD_getElem?, List.getElem?_toArray, rowL_get, if_pos hb]
      have h1 : (i * (Γ.T el).size + j) / (Γ.T el).size = i := by rw [Nat.mul_comm, Nat.mul_add_div (by omega), Nat.div_eq_of_lt hj]; rfl
      have h2 : (i * (Γ.T el).size + j) % (Γ.T el).size = j := by rw [Nat.mul_comm, Nat.mul_add_mod, Nat.mod_eq_of_lt hj]
      rw [h1, h2]; exact hD2 i j x hi hx

end
end Go.Proofs.YtllmejkmogepjaaDoor.Ix
