/-
  Ix11: an append; a call.
-/
import Derived.Test.YtllmejkmogepjaaDoorX10
namespace Go.Proofs.YtllmejkmogepjaaDoor.Ix
set_option linter.unusedVariables false

section
variable {Γ : Env} {S : St} {a : Act} {w : World} {I : Imm} {X : Nat → Prop} {β : Beta} {σ : Nat → Sig} {K : St → Prop}

/-- The cells of a row that is read: a list. -/
def rowL (e n : Nat) (g : Nat → Nat → Value) : List Value := (List.range (n * e)).map fun j => g (j / e) (j % e)

theorem rowL_get {e n : Nat} {g : Nat → Nat → Value} (j : Nat) : (rowL e n g)[j]? = if j < n * e then some (g (j / e) (j % e)) else none := by
  unfold rowL
  by_cases h : j < n * e
  · simp [h]
  · simp [h]

theorem rowL_cell {e n b off : Nat} {g : Nat → Nat → Value} (r : Rel Γ S a w I X β σ) (hI : ∀ i j, i < n → j < e → I ⟨b, off + i * e + j, none⟩ = some (g i j)) (j : Nat) (u : Value)
    (hu : (rowL e n g)[j]? = some u) : w.cell? ((⟨b, off, none⟩ : Addr).add j) = some u := by
  rw [rowL_get] at hu
  split at hu
  · rename_i hj
    simp at hu; subst hu
    have he : 0 < e := by
      rcases Nat.eq_zero_or_pos e with h | h
      · subst h; simp at hj
      · exact h
    have h1 : j / e < n := Nat.div_lt_of_lt_mul (by rw [Nat.mul_comm]; exact hj)
    have h2 : j % e < e := Nat.mod_lt _ he
    have := r.mem.im _ _ (hI (j / e) (j % e) h1 h2)
    rw [add_none]
    have h3 : off + j / e * e + j % e = off + j := by rw [Nat.add_assoc, Nat.mul_comm, Nat.div_add_mod]
    rwa [h3] at this
  · cases hu

theorem appF_spec {n m e : Nat} {f g : Nat → List IV} (hf : ∀ i, i < n → (f i).length = e) (hg : ∀ i, i < m → (g i).length = e) (i : Nat) (hi : i < n + m) : (appF n f g i).length = e := by
  unfold appF
  split
  · exact hf i (by omega)
  · exact hg _ (by omega)

theorem appF_vals {n m e : Nat} {f g : Nat → List IV} {vf vg : Nat → Nat → Value} {vs : Array Value} (hf : ∀ i, i < n → (f i).length = e) (hg : ∀ i, i < m → (g i).length = e)
    (hvs : ∀ j, j < (n + m) * e → vs[j]? = (rowL e n vf ++ rowL e m vg)[j]?)
    (hD1 : ∀ i (j : Nat) x, i < n → (f i)[j]? = some x → D I x (vf i j)) (hD2 : ∀ i (j : Nat) x, i < m → (g i)[j]? = some x → D I x (vg i j)) :
    ∀ i (j : Nat) x, i < n + m → (appF n f g i)[j]? = some x → D I x (vs.getD (i * e + j) undef) := by
  intro i j x hi hx
  have hlen : (appF n f g i).length = e := appF_spec hf hg i hi
  have hj : j < e := by rw [← hlen]; exact (List.getElem?_eq_some_iff.1 hx).1
  have hb : i * e + j < (n + m) * e := by
    have := Nat.mul_le_mul_right e (show i + 1 ≤ n + m by omega)
    rw [Nat.add_mul] at this; omega
  have hl1 : (rowL e n vf).length = n * e := by simp [rowL]
  have hdm : ∀ q, (q * e + j) / e = q ∧ (q * e + j) % e = j := by
    intro q
    refine ⟨?_, ?_⟩
    · rw [Nat.mul_comm, Nat.mul_add_div (by omega), Nat.div_eq_of_lt hj]; rfl
    · rw [Nat.mul_comm, Nat.mul_add_mod, Nat.mod_eq_of_lt hj]
  rw [Array.getD_eq_getD_getElem?, hvs _ hb]
  unfold appF at hx
  split at hx
  · rename_i h
    have hb1 : i * e + j < n * e := by
      have := Nat.mul_le_mul_right e (show i + 1 ≤ n by omega)
      rw [Nat.add_mul] at this; omega
    rw [List.getElem?_append_left (by omega), rowL_get, if_pos hb1, (hdm i).1, (hdm i).2]
    exact hD1 i j x h hx
  · rename_i h
    have hge : n * e ≤ i * e := Nat.mul_le_mul_right _ (by omega)
    have hsub : i * e + j - n * e = (i - n) * e + j := by rw [Nat.sub_mul]; omega
    have hb2 : (i - n) * e + j < m * e := by
      have := Nat.mul_le_mul_right e (show (i - n) + 1 ≤ m by omega)
      rw [Nat.add_mul] at this; omega
    rw [List.getElem?_append_right (by omega), hl1, hsub, rowL_get, if_pos hb2, (hdm _).1, (hdm _).2]
    exact hD2 _ j x (by omega) hx

theorem maxLen_small {n : Nat} (h : n ≤ 1073741824) : n ≤ maxLen := by unfold maxLen; omega

theorem zeroCells_size (z : Array Value) (n : Nat) : (Builtin.zeroCells z n).size = n * z.size := by simp [Builtin.zeroCells]

theorem rowL_one {e n : Nat} {g : Nat → Nat → Value} (h : ∀ i j, i < n → j < e → (g i j).oneCell' = true) : ∀ u ∈ rowL e n g, u.oneCell' = true := by
  intro u hu
  simp only [rowL, List.mem_map, List.mem_range] at hu
  obtain ⟨j, hj, rfl⟩ := hu
  have he : 0 < e := by
    rcases Nat.eq_zero_or_pos e with h | h
    · subst h; simp at hj
    · exact h
  exact h _ _ (Nat.div_lt_of_lt_mul (by rw [Nat.mul_comm]; exact hj)) (Nat.mod_lt _ he)

theorem run_append_room' {P : Program} (t ty e el : TypeId) (i : TypeInfo) (ht : P.underlying t = some (.slice e)) (hi : P.info? e = some i)
    (g sLen sCap : Nat) (cur : Array Value) (hg : w.heap[g]? = some (.cells cur el (0, 0)))
    (a : Addr) (m c : Nat) (news : List Value) (hl : news.length = m * i.size) (hnews : ∀ (j : Nat) u, news[j]? = some u → w.cell? (a.add j) = some u) (h1 : ∀ u ∈ news, u.oneCell' = true)
    (hroom : sLen + m ≤ sCap) (hfit : sLen * i.size + news.length ≤ cur.size) :
    (Builtin.append_ #[t, t] ty #[.slice (some ⟨g, 0, none⟩) sLen sCap, .slice (some a) m c]).run P w =
      .ok (.slice (some ⟨g, 0, none⟩) (sLen + m) sCap) (w.setRow g (cur.toList.take (sLen * i.size) ++ news ++ cur.toList.drop (sLen * i.size + news.length)).toArray) := by
  have hf := run_firstCells_some (P := P) w i.size m a m c news hl hnews
  have hst := run_storeCells_at P g (sLen * i.size) el news 0 cur w hg (by simpa using hfit) h1
  simp only [Nat.add_zero] at hst
  simp [Builtin.append_, run_underlying ht, sizeOf, typeInfo, hi, Builtin.lenOf, hroom, hf, add_none, hst]

/-- An append, to nil or to a row of the call's own. -/
theorem appendI_sound {t ty e d : Nat} {s x : IV} {vs vx : Value} (hT : TOK Γ.P Γ.T) (hk : (Γ.T t).k = .slice e) (h : appendI Γ S d (Γ.T e).size s x K) (r : Rel Γ S a w I X β σ)
    (hs : V I β (σ 0) s vs) (hx : V I β (σ 0) x vx) :
    ∃ v w', (Builtin.append_ #[t, t] ty #[vs, vx]).run Γ.P w = .ok v w' ∧ Aft Γ K I X w β σ (a.put (some d) v) w' := by
  obtain ⟨inf, dd, z, tk⟩ := TOK.get hT (t := t) (.inr (by rw [hk]; simp))
  have kd := tk.kind
  rw [hk] at kd
  obtain ⟨rfl, he⟩ := kd
  obtain ⟨inf', d', z', tk'⟩ := TOK.get hT (t := e) (.inl he)
  have hz' := tk'.zsize
  -- nothing appended
  have empty : ∀ (base p : Option Addr) (n c : Nat), n ≤ c → (Builtin.append_ #[t, t] ty #[.slice base n c, .slice p 0 0]).run Γ.P w = .ok (.slice base n c) w := by
    intro base p n c hnc
    cases base <;> cases p <;> simp [loadCells, loadCellsFrom, Builtin.append_, run_underlying tk.und, run_sz tk'.msize, Builtin.lenOf, Builtin.firstCells, hnc, storeCells]
  unfold appendI at h
  split at h
  · obtain ⟨px, rfl⟩ := hx.nilS_inv
    split at h
    · rename_i o e' n f
      rcases hs.lst_inv with ⟨ps, rfl, rfl⟩ | ⟨b, off, c, g, rfl, hnc, hown, hl, hI, ho, hD⟩
      · exact ⟨_, _, empty ps px 0 0 (Nat.le_refl _), put_aft h r (.data (.lstN _ _))⟩
      · exact ⟨_, _, empty _ px n c hnc, put_aft h r (.data (.lst e' n f b off c g hnc hl hI ho hD))⟩
    · obtain ⟨ps, rfl⟩ := hs.nilS_inv
      exact ⟨_, _, empty ps px 0 0 (Nat.le_refl _), put_aft h r (.data .nilS)⟩
    · exact h.elim
  · rename_i o2 e2 m g
    split at h
    · exact h.elim
    rename_i he2
    have he2 := (beq_iff _ _).1 he2
    subst he2
    have hpos := tk'.pos
    have hbytes : ∀ k, k ≤ 1073741824 → k * inf'.bytes ≤ 140737488355328 := by
      intro k hk
      have := Nat.mul_le_mul hk tk'.bytes
      omega
    -- to a nil slice
    have fromNil : ∀ {S0 : St} {σ0 : Nat → Sig} (ps : Option Addr), Rel Γ S0 a w I X β σ0 → σ0 0 d = none → m ≤ 1073741824 → putT Γ S0 (some d) (.lst (some d) (Γ.T e).size m g) K → 
        ∃ v w', (Builtin.append_ #[t, t] ty #[.slice ps 0 0, vx]).run Γ.P w = .ok v w' ∧ Aft Γ K I X w β σ0 (a.put (some d) v) w' := by
      intro S0 σ0 ps r0 hd0 hm hput
      rcases hx.lst_inv with ⟨px, rfl, rfl⟩ | ⟨b, off, c, vg, rfl, hnc, hown, hl, hI, ho, hD⟩
      · exact ⟨_, _, empty ps px 0 0 (Nat.le_refl _), put_aft hput r0 (.ownN _ _ _)⟩
      · by_cases hm0 : m = 0
        · subst hm0
          refine ⟨.slice ps 0 0, w, ?_, put_aft hput r0 (.ownN _ _ _)⟩
          cases ps <;> simp [storeCells, Builtin.append_, run_underlying tk.und, run_sz tk'.msize, Builtin.lenOf, Builtin.firstCells, loadCells, loadCellsFrom]
        · have hr : (Builtin.append_ #[t, t] ty #[.slice ps 0 0, .slice (some ⟨b, off, none⟩) m c]).run Γ.P w = .ok (.slice (some ⟨w.heap.size, 0, none⟩) m (grownCap w m 0 e))
              (w.drew.alloc (.cells ((rowL (Γ.T e).size m vg).toArray ++ Builtin.zeroCells z'.cells (grownCap w m 0 e - m)) e)) := by
            cases ps with
            | none => exact (run_append_nil (P := Γ.P) w t ty e inf' z' tk.und tk'.info tk'.zero ⟨b, off, none⟩ m c (rowL (Γ.T e).size m vg) (by simp [rowL, tk'.size]) (fun j v hj => rowL_cell r hI j v hj) (by omega) (by omega) (by have := hbytes m hm; omega))
            | some q =>
              have := run_append_grow (P := Γ.P) w t ty e inf' z' tk.und tk'.info tk'.zero q 0 0 [] (by simp) (fun j v h => by simp at h) ⟨b, off, none⟩ m c (rowL (Γ.T e).size m vg) (by simp [rowL, tk'.size])
                (fun j v hj => rowL_cell r hI j v hj) (by omega) (by omega) (growslice_fits (by omega) (by have := hbytes m hm; simpa using this))
              simpa using this
          obtain ⟨f1, f2, f3, f4⟩ := fresh_block r0
          have hcap := grownCap_ge w m 0 e
          have hlen : (rowL (Γ.T e).size m vg).length = m * (Γ.T e).size := by simp [rowL]
          refine ⟨_, _, hr, row_sound (el := e) r0 hd0 hput hcap (grownCap_le_maxLen w m 0 e (maxLen_small hm)) ?_ (fun j u hu hj => ?_) hl (fun i j x hi hxj => ?_) _ (heap_alloc_new w.drew _)
            (fun k o hk ho => by rw [heap_alloc_old w.drew _ k (heap_lt ho)]; exact ho) (by simp) f1 f2 f3 (fun x v hx hb => absurd hb (f4 x v hx)) rfl rfl rfl (fresh_fix w)⟩
          · simp only [Array.size_append, List.size_toArray, hlen, zeroCells_size, hz']
            rw [← Nat.add_mul]; congr 1; omega
          · rw [Array.getElem?_append_left (by simp; omega)] at hu
            exact rowL_one ho u (List.mem_of_getElem? (by simpa using hu))
          · have hj : j < (Γ.T e).size := by rw [← hl i hi]; exact (List.getElem?_eq_some_iff.1 hxj).1
            have hb : i * (Γ.T e).size + j < m * (Γ.T e).size := by
              have := Nat.mul_le_mul_right (Γ.T e).size (show i + 1 ≤ m by omega)
              rw [Nat.add_mul] at this; omega
            rw [Array.getD_eq_getD_getElem?, Array.getElem?_append_left (by simp [hlen]; omega), List.getElem?_toArray, rowL_get, if_pos hb]
            have h1 : (i * (Γ.T e).size + j) / (Γ.T e).size = i := by rw [Nat.mul_comm, Nat.mul_add_div (by omega), Nat.div_eq_of_lt hj]; rfl
            have h2 : (i * (Γ.T e).size + j) % (Γ.T e).size = j := by rw [Nat.mul_comm, Nat.mul_add_mod, Nat.mod_eq_of_lt hj]
            rw [h1, h2]; exact hD i j x hi hxj
    split at h
    · obtain ⟨ps, rfl⟩ := hs.nilS_inv
      obtain ⟨h1, h⟩ := chk_spec h
      simp at h1
      obtain ⟨S1, hk1, r1, _, _⟩ := untag_sound h r
      obtain ⟨v, w', hr, haft⟩ := fromNil ps r1 (by simp [setSig]) h1 hk1
      exact ⟨v, w', hr, haft.sig (fun _ => rfl)⟩
    · rename_i tt e1 n f
      split at h
      · exact h.elim
      rename_i he1
      have he1 := (beq_iff _ _).1 he1
      subst he1
      obtain ⟨h1, h⟩ := chk_spec h
      simp at h1
      obtain ⟨S1, hk1, r1, _, _⟩ := untag_sound h r
      obtain ⟨S2, hk2, r2, _, _⟩ := untag_sound hk1 r1
      have hs2 : ∀ u g0, (setSig (setSig σ fun u => if u = tt then none else σ 0 u) fun u => if u = d then none else (setSig σ fun u => if u = tt then none else σ 0 u) 0 u) 0 u = some g0 → σ 0 u = some g0 ∧ u ≠ tt := by
        intro u g0 hu
        simp only [setSig] at hu
        split at hu
        · cases hu
        · split at hu
          · cases hu
          · rename_i h; exact ⟨hu, h⟩
      rcases hs.lst_inv with ⟨ps, rfl, rfl⟩ | ⟨b, off, c, vf, rfl, hnc, hown, hl, hI, ho, hD⟩
      · obtain ⟨v, w', hr, haft⟩ := fromNil ps r2 (by simp [setSig]) (by omega) (by
          have : appF 0 f g = g := by funext i; simp [appF]
          simpa [this] using hk2)
        exact ⟨v, w', hr, (haft.sig (fun _ => rfl)).sig (fun _ => rfl)⟩
      · obtain ⟨rfl, el, htt⟩ := hown tt rfl
        obtain ⟨cur, c1, c2, c3, c4, c5, c6, c7⟩ := r.own.row tt _ htt
        simp only at c1 c2 c3 c4 c5 c6 c7
        have hσb : ∀ u g0, (setSig (setSig σ fun u => if u = tt then none else σ 0 u) fun u => if u = d then none else (setSig σ fun u => if u = tt then none else σ 0 u) 0 u) 0 u = some g0 → g0.b ≠ b := by
          intro u g0 hu hb
          obtain ⟨k1, k2⟩ := hs2 u g0 hu
          exact k2 (r.own.inj u tt g0 _ k1 htt hb)
        have hd2 : (setSig (setSig σ fun u => if u = tt then none else σ 0 u) fun u => if u = d then none else (setSig σ fun u => if u = tt then none else σ 0 u) 0 u) 0 d = none := by simp [setSig]
        have hcur : ∀ j, j < n * (Γ.T e).size → cur[j]? = (rowL (Γ.T e).size n vf)[j]? := by
          intro j hj
          have h0 : (rowL (Γ.T e).size n vf)[j]? = some (vf (j / (Γ.T e).size) (j % (Γ.T e).size)) := by rw [rowL_get, if_pos hj]
          have := rowL_cell r hI j _ h0
          rw [add_none, cell_of_row w b _ cur el _ c1] at this
          rw [h0]; simpa using this
        have hIb : ∀ x v, I x = some v → x.block = b → x.off < n * (Γ.T e).size ∧ cur[x.off]? = some v := by
          intro x v hx hb
          have h0 := r.mem.im x v hx
          obtain ⟨xb, xo, xs⟩ := x
          simp only at hb; subst hb
          have hsp : xs = none := by
            unfold World.cell? at h0
            split at h0
            · split at h0
              · cases h0
              · rename_i h; simpa using h
            · cases h0
          subst hsp
          rw [cell_of_row w xb _ cur el _ c1] at h0
          refine ⟨?_, h0⟩
          rcases Nat.lt_or_ge xo (n * (Γ.T e).size) with hlt | hge
          · exact hlt
          · rw [c5 xo hge] at hx; cases hx
        have hsz1 : n * (Γ.T e).size ≤ cur.size := by rw [c4]; exact Nat.mul_le_mul_right _ hnc
        have hone1 : ∀ (j : Nat) u, j < n * (Γ.T e).size → cur[j]? = some u → u.oneCell' = true := by
          intro j u hj hu
          rw [hcur j hj] at hu
          exact rowL_one ho u (List.mem_of_getElem? hu)
        have fin : ∀ {v : Value} {w' : World}, Aft Γ K I X w β (setSig (setSig σ fun u => if u = tt then none else σ 0 u) fun u => if u = d then none else (setSig σ fun u => if u = tt then none else σ 0 u) 0 u) (a.put (some d) v) w' → Aft Γ K I X w β σ (a.put (some d) v) w' :=
          fun h => (h.sig (fun _ => rfl)).sig (fun _ => rfl)
        rcases hx.lst_inv with ⟨px, rfl, rfl⟩ | ⟨b2, off2, c2', vg, rfl, hnc2, hown2, hl2, hI2, ho2, hD2⟩
        · refine ⟨_, _, empty _ px n c hnc, fin (row_sound (el := el) r2 hd2 hk2 (by simpa using hnc) c3 c4 (fun j u hu hj => hone1 j u (by simpa using hj) hu) (fun i hi => appF_spec hl (fun i hi => by omega) i hi)
            (appF_vals (vf := vf) (vg := vf) hl (fun i hi => by omega) (fun j hj => ?_) hD (fun i j x hi => by omega)) w c1 (fun k o _ ho => ho) (Nat.le_refl _) c6 c7 hσb (fun x v hx hb => by simpa using hIb x v hx hb) rfl rfl rfl (cells_fix c1))⟩
          rw [hcur j (by simpa using hj)]; simp [rowL]
        · have hlen2 : (rowL (Γ.T e).size m vg).length = m * (Γ.T e).size := by simp [rowL]
          have hlen1 : (rowL (Γ.T e).size n vf).length = n * (Γ.T e).size := by simp [rowL]
          by_cases hroom : n + m ≤ c
          · have hfit : n * (Γ.T e).size + (rowL (Γ.T e).size m vg).length ≤ cur.size := by
              rw [hlen2, c4, ← Nat.add_mul]; exact Nat.mul_le_mul_right _ hroom
            have hr := run_append_room' (P := Γ.P) (w := w) t ty e el inf' tk.und tk'.info b n c cur c1 ⟨b2, off2, none⟩ m c2' (rowL (Γ.T e).size m vg) (by simp [rowL, tk'.size])
              (fun j v hj => rowL_cell r hI2 j v hj) (rowL_one ho2) hroom (by rw [tk'.size]; exact hfit)
            have htk : (cur.toList.take (n * (Γ.T e).size)).length = n * (Γ.T e).size := by simp; omega
            have hget : ∀ j, j < (n + m) * (Γ.T e).size → (cur.toList.take (n * inf'.size) ++ rowL (Γ.T e).size m vg ++ cur.toList.drop (n * inf'.size + (rowL (Γ.T e).size m vg).length)).toArray[j]? = (rowL (Γ.T e).size n vf ++ rowL (Γ.T e).size m vg)[j]? := by
              intro j hj
              rw [tk'.size, List.getElem?_toArray, List.append_assoc]
              by_cases hj1 : j < n * (Γ.T e).size
              · rw [List.getElem?_append_left (by omega), List.getElem?_take, if_pos hj1, List.getElem?_append_left (by omega), ← hcur j hj1]; simp
              · rw [List.getElem?_append_right (by omega), htk, List.getElem?_append_left (by rw [hlen2]; rw [Nat.add_mul] at hj; omega), List.getElem?_append_right (by omega), hlen1]
            refine ⟨_, _, hr, fin (row_sound (el := el) r2 hd2 hk2 hroom c3 ?_ (fun j u hu hj => ?_) (fun i hi => appF_spec hl hl2 i hi)
              (appF_vals hl hl2 hget hD hD2) _ (setRow_heap w b cur _ el _ c1) (fun k o hk ho => by rw [setRow_other w b k _ hk]; exact ho) (by simp) c6 c7 hσb (fun x v hx hb => ?_) rfl rfl rfl (cells_fix c1))⟩
            · simp only [List.size_toArray, List.length_append, List.length_take, List.length_drop, Array.length_toList, tk'.size]; omega
            · rw [hget j hj] at hu
              have := List.mem_of_getElem? hu
              rcases List.mem_append.1 this with h | h
              · exact rowL_one ho u h
              · exact rowL_one ho2 u h
            · obtain ⟨k1, k2⟩ := hIb x v hx hb
              have hlt : x.off < (n + m) * (Γ.T e).size := by rw [Nat.add_mul]; omega
              refine ⟨hlt, ?_⟩
              rw [hget _ hlt, List.getElem?_append_left (by omega), ← hcur _ k1]; exact k2
          · have holds : ∀ (j : Nat) u, (rowL (Γ.T e).size n vf)[j]? = some u → w.cell? ((⟨b, 0, none⟩ : Addr).add j) = some u := fun j u hj => rowL_cell r hI j u hj
            have hr := run_append_grow (P := Γ.P) w t ty e inf' z' tk.und tk'.info tk'.zero ⟨b, 0, none⟩ n c (rowL (Γ.T e).size n vf) (by simp [rowL, tk'.size]) holds ⟨b2, off2, none⟩ m c2'
              (rowL (Γ.T e).size m vg) (by simp [rowL, tk'.size]) (fun j v hj => rowL_cell r hI2 j v hj) (by omega) (by omega) (growslice_fits (by omega) (hbytes _ h1))
            obtain ⟨f1, f2, f3, f4⟩ := fresh_block r2
            have hcap := grownCap_ge w (n + m) c e
            have hget : ∀ j, j < (n + m) * (Γ.T e).size → ((rowL (Γ.T e).size n vf).toArray ++ (rowL (Γ.T e).size m vg).toArray ++ Builtin.zeroCells z'.cells (grownCap w (n + m) c e - (n + m)))[j]? = (rowL (Γ.T e).size n vf ++ rowL (Γ.T e).size m vg)[j]? := by
              intro j hj
              rw [Array.getElem?_append_left (by simp [hlen1, hlen2]; rw [Nat.add_mul] at hj; omega)]
              simp
            refine ⟨_, _, hr, fin (row_sound (el := e) r2 hd2 hk2 hcap (grownCap_le_maxLen w (n + m) c e (maxLen_small h1)) ?_ (fun j u hu hj => ?_) (fun i hi => appF_spec hl hl2 i hi)
              (appF_vals hl hl2 hget hD hD2) _ (heap_alloc_new w.drew _) (fun k o hk ho => by rw [heap_alloc_old w.drew _ k (heap_lt ho)]; exact ho) (by simp) f1 f2 f3 (fun x v hx hb => absurd hb (f4 x v hx)) rfl rfl rfl (fresh_fix w))⟩
            · simp only [Array.size_append, List.size_toArray, hlen1, hlen2, zeroCells_size, hz']
              rw [← Nat.add_mul, ← Nat.add_mul]; congr 1; omega
            · rw [hget j hj] at hu
              have := List.mem_of_getElem? hu
              rcases List.mem_append.1 this with h | h
              · exact rowL_one ho u h
              · exact rowL_one ho2 u h
    · exact h.elim
  · exact h.elim

end
end Go.Proofs.YtllmejkmogepjaaDoor.Ix
