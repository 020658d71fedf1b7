/- YtfoenhiohhmnlaaGreatDoorM4 -/
import Derived.Test.YtfoenhiohhmnlaaGreatDoorM3
import Derived.MapKept
import Derived.OrdersHeld
namespace Go.Proofs.YtfoenhiohhmnlaaGreatDoor.Ix
set_option linter.unusedVariables false
set_option linter.unusedSimpArgs false
section
variable {sp : Nat → Bool} {C : Con} {Γ : Env} {fl : Option (List Nat)} {ops : Array Oper} {p : Nat} {S0 : St} {val : Nat → IV} {act : Nat → Bool} {w0 : World} {I0 : Imm} {X : Nat → Prop} {β0 : Beta} {σ0 : Nat → Sig} {ℓ : Nat → Bool} {a : Act} {w : World}
  {I : Imm} {β : Beta} {σ : Nat → Sig} {bl : Nat → Nat} {cr : List Nat}
theorem tupBB {I : Imm} {β : Beta} {s : Sig} (x y : Bool) : V I β s (.tup [.bool x, .bool y]) (.tuple #[.bool x, .bool y]) := by
  refine .tup _ _ rfl fun j z hz => ?_
  match j, hz with
  | 0, hz => cases hz; exact .data (.bool x)
  | 1, hz => cases hz; exact .data (.bool y)
theorem setF_or {ℓ : Nat → Bool} {i j : Nat} (h : setF ℓ i true j = true) : j = i ∨ ℓ j = true := by
  unfold setF at h
  split at h
  · exact .inl (by assumption)
  · exact .inr h
theorem Inv.stores (k : DOK ops p fl) (hdc : DC ops ℓ) {i : Nat} {o : Oper} {t : Nat} {y x : Operand} (ho : ops[i]? = some o) (hi : i < p) (hn : ℓ i = false) (hl : ∀ j, bindOn o j = true → ℓ j = true) (hop : o.op = .store t y x)
    (hs : (Γ.P.info? t).map (·.size) = some (Γ.T t).size) {c : List IV} (hc : cellsI (evo Γ (some' S0 ops val p ℓ) x) = some c) (hcl : c.length = (Γ.T t).size)
    (v : Inv Γ ops p S0 val w0 I0 X β0 σ0 ℓ a w I β σ bl) :
    ∃ w', (Instr.storeAt t (a.eval y) (a.eval x)).run Γ.P w = .ok () w' ∧ Inv Γ ops p S0 val w0 I0 X β0 σ0 (setF ℓ i true) a w' I β σ bl := by
  obtain ⟨d, rfl, hd, hg, j, oj, hj, hoj, hoj1, hoj2, hoj3⟩ := k.st i o t y x ho hi hop
  have hmemd : d ∈ looks ops.toList o := by
    simp only [looks, hop, List.mem_append]
    exact .inl (mem_opTs (x := .tmp d) (by simp [Op.operands]) (by simp [opT]))
  have hlj : ℓ j = true := hl j (k.look i o ho hi d hmemd j (by omega) (by rw [dst_of hoj, hoj2])).2
  obtain ⟨h1, h2, h3, arr, el, h4, h5⟩ := v.blk j oj d (by omega) hoj (.inl ⟨t, hoj1⟩) hoj2 hlj
  have hfree : ∀ (s : Nat) os t' x', s < p → ops[s]? = some os → ℓ s = true → os.op ≠ .store t' (.tmp d) x' := fun s os t' x' hs' hos hls e => by
    have := k.st1 i s o os t t' d x x' hi hs' ho hos hop e
    subst this; rw [hn] at hls; cases hls
  obtain ⟨hsz, _⟩ := h5.fresh t hoj1 hfree
  have hcv := (evo_V v.rel x).cells hc
  have hvs : (a.eval x).cells.size = (Γ.T t).size := by rw [← hcv.1, hcl]
  have hrun := run_storeAt (P := Γ.P) (t := t) (off := 0) hs h4 hvs hcv.2.1 (by simp; omega)
  have hval : a.eval (.tmp d) = .pointer (some ⟨bl j, 0, none⟩) := h2
  have harr : (arr.toList.take 0 ++ (a.eval x).cells.toList ++ arr.toList.drop (0 + (a.eval x).cells.toList.length)).toArray = (a.eval x).cells := by
    have : arr.toList.drop (a.eval x).cells.toList.length = [] := List.drop_eq_nil_of_le (by simp; omega)
    simp only [Nat.zero_add, this]
    simp
  rw [harr] at hrun
  refine ⟨_, by rw [hval]; exact hrun, ?_⟩
  have hXb : X (bl j) ∨ Hid ops p ℓ bl (bl j) := .inr ⟨j, by omega, hlj, ⟨oj, hoj, .inl (.inl ⟨t, hoj1⟩)⟩, rfl⟩
  have hmi : ¬ MkAt ops i := fun ⟨o', e1, e2⟩ => by
    rw [ho] at e1; cases e1
    rcases e2 with (⟨t', e⟩ | ⟨t', x', e⟩) | ⟨t', r', e⟩ <;> rw [hop] at e <;> cases e
  have hup : ∀ j, MkAt ops j → setF ℓ i true j = true → ℓ j = true := fun j hm h => by
    rcases setF_or h with e | h
    · subst e; exact absurd hm hmi
    · exact h
  have hnX : ¬ X (bl j) := fun hx => by have := v.x0 _ hx; omega
  have hr : Rel Γ (some' S0 ops val p (setF ℓ i true)) a (w.setRow (bl j) (a.eval x).cells) I (fun b => X b ∨ Hid ops p (setF ℓ i true) bl b) β σ := by
    have r1 := v.rel.lays hXb (fun q => by
      cases hI : I ⟨bl j, q, none⟩ with
      | none => rfl
      | some u => exact (h3 _ u hI rfl).elim) h3 (a.eval x).cells
    refine (r1.congr (S' := some' S0 ops val p (setF ℓ i true)) (fun u => by rw [look_upd k ho hi hn u, hd]; rfl) rfl rfl).sub fun b hb => ?_
    rcases hb with hb | ⟨q, q1, q2, q3, q4⟩
    · exact .inl hb
    · exact .inr ⟨q, q1, hup q q3 q2, q3, q4⟩
  refine ⟨hr, v.ext.trans (.setRow hnX _), v.abv, v.x0, fun q oq dq hq hoq hm hdq hlq => ?_, fun i' j' hi' hj' hm hm' hl1 hl2 hb => v.inj i' j' hi' hj' hm hm' (hup _ hm hl1) (hup _ hm' hl2) hb, fun q oq dq hq hoq hm hdq hlq => ?_⟩
  rotate_left
  · have hlq' := hup q ⟨oq, hoq, .inr hm⟩ hlq
    obtain ⟨g1, g2, g3, ⟨es, clock, g4, g5⟩, g6⟩ := v.mblk q oq dq hq hoq hm hdq hlq'
    have hqj : q ≠ j := fun e => by
      subst e
      rw [hoj] at hoq; cases hoq
      obtain ⟨t', r', e⟩ := hm
      rw [hoj1] at e; cases e
    have hne : bl q ≠ bl j := fun e => hqj (v.inj q j hq (by omega) ⟨oq, hoq, .inr hm⟩ ⟨oj, hoj, .inl (.inl ⟨t, hoj1⟩)⟩ hlq' hlj e)
    refine ⟨g1, g2, g3, ⟨es, clock, by rw [setRow_other w _ _ _ hne]; exact g4, g5.keep k hdc ho hi hn (fun t' k' x' e => ?_) fun _ _ => rfl⟩, fun q' oq' e hq' hoq' f1 f2 f3 f4 => ?_⟩
    · rw [hop] at e; cases e
    · rcases setF_or f4 with e' | f4
      · subst e'
        rw [ho] at hoq'; cases hoq'
        rw [hop] at f1; cases f1
      · exact g6 q' oq' e hq' hoq' f1 f2 f3 f4
  have hlq' := hup q ⟨oq, hoq, .inl hm⟩ hlq
  obtain ⟨g1, g2, g3, arrq, elq, g4, g5⟩ := v.blk q oq dq hq hoq hm hdq hlq'
  by_cases hqj : q = j
  · subst hqj
    rw [hoj] at hoq; cases hoq
    rw [hoj2] at hdq; cases hdq
    refine ⟨g1, g2, g3, (a.eval x).cells, el, setRow_heap w _ _ _ _ _ h4, fun t' e hno => ?_, fun t' e s os t2 x' hs' hos hls hop' => ?_, fun t' x' e => ?_⟩
    · exact absurd hop (hno i o t x hi ho (setF_self _ _ _))
    · have := k.st1 i s o os t t2 d x x' hi hs' ho hos hop hop'
      subst this; rw [ho] at hos; cases hos
      rw [hop] at hop'; cases hop'; rfl
    · rw [hoj1] at e; cases e
  · have hne : bl q ≠ bl j := fun e => hqj (v.inj q j hq (by omega) ⟨oq, hoq, .inl hm⟩ ⟨oj, hoj, .inl (.inl ⟨t, hoj1⟩)⟩ hlq' hlj e)
    refine ⟨g1, g2, g3, arrq, elq, by rw [setRow_other w _ _ _ hne]; exact g4, g5.keep k hdc hoq hq hlq' ho hi hn (fun t' x' e => ?_) fun _ _ => rfl⟩
    rw [hop] at e; cases e
    exact hqj (k.dst q j d hq (by omega) (by rw [dst_of hoq, hdq]) (by rw [dst_of hoj, hoj2]))
theorem Rel.mapSet {S : St} {b : Nat} {es es' : Array MapEntry} {c c' : Nat} (r : Rel Γ S a w I X β σ) (hX : X b) (hI' : ∀ x v, I x = some v → x.block = b → False) (hb : w.heap[b]? = some (.map es c)) :
    Rel Γ S a { w with heap := w.heap.setIfInBounds b (.map es' c') } I X β σ ∧ ∀ {J : Imm} {Y : Nat → Prop} {w1 : World}, Ext J Y w1 I w → ¬ Y b → w1.heap.size ≤ b → Ext J Y w1 I { w with heap := w.heap.setIfInBounds b (.map es' c') } := by
  obtain ⟨s1, s2⟩ := MapKept.heap_set (o' := .map es' c') hb
  have fix : ∀ (k : Nat) o, w.heap[k]? = some o → fixed o = true → (w.heap.setIfInBounds b (.map es' c'))[k]? = some o := fun k o hk ho => by
    by_cases e : k = b
    · subst e; rw [hb] at hk; cases hk; cases ho
    · rw [s2 k e]; exact hk
  have hI : ∀ j, I ⟨b, j, none⟩ = none := fun j => by
    cases h : I ⟨b, j, none⟩ with
    | none => rfl
    | some u => exact (hI' _ u h rfl).elim
  refine ⟨⟨r.tm, r.df.to fix (fun _ _ h => h), r.nt, ⟨fun l d cc hc => ?_, r.mem.inj, r.mem.keys, fun x u hx => ?_, r.mem.glo, fun q hq => by simpa using r.mem.xb q hq, r.mem.gz.one r.mem.glo b hI (fun q hq => s2 q hq)⟩, ⟨fun t g hg => ?_, r.own.inj⟩⟩, fun {J Y w1} he hY _ => ⟨he.os, he.tape, he.output, by simpa using he.size, fun q hq => ?_, he.imm, he.new, fun q o hq ho => fix q o (he.fix q o hq ho) ho⟩⟩
  · obtain ⟨q, arr, el, g1, g2, g3, g4, g5, g6, g7⟩ := r.mem.cell l d cc hc
    exact ⟨q, arr, el, g1, by rw [← g2]; exact s2 q (fun e => by rw [e, hb] at g2; cases g2), g3, g4, g5, g6, g7⟩
  · have hbx : x.block ≠ b := fun e => hI' x u hx e
    have := r.mem.im x u hx
    rw [← this]
    exact hcell_of_block (s2 x.block hbx)
  · obtain ⟨cur, g1, g2⟩ := r.own.row t g hg
    exact ⟨cur, by rw [← g1]; exact s2 g.b (fun e => by rw [e, hb] at g1; cases g1), g2⟩
  · rw [← he.keep q hq]
    exact s2 q (fun e => hY (e ▸ hq))
theorem Inv.inserts (hT : TOK Γ.P Γ.T) (k : DOK ops p fl) (hdc : DC ops ℓ) {i : Nat} {o : Oper} {t : Nat} {m ky x : Operand} (ho : ops[i]? = some o) (hi : i < p) (hn : ℓ i = false) (hl : ∀ j, bindOn o j = true → ℓ j = true) (hop : o.op = .insert t m ky x)
    (hMT : MapT Γ t)
    (v : Inv Γ ops p S0 val w0 I0 X β0 σ0 ℓ a w I β σ bl) :
    ∃ w', (Instr.mapUpdate t (a.eval m) (a.eval ky) (a.eval x)).run Γ.P w = .ok () w' ∧ Inv Γ ops p S0 val w0 I0 X β0 σ0 (setF ℓ i true) a w' I β σ bl := by
  obtain ⟨_, d, key, rfl, rfl, hd, hg, j, oj, rj, hj, hoj, hoj1, hoj2, hoj3⟩ := k.ins i o t m ky x ho hop
  have hmemd : d ∈ looks ops.toList o := by
    simp only [looks, hop, List.mem_append]
    exact .inl (mem_opTs (x := .tmp d) (by simp [Op.operands]) (by simp [opT]))
  have hlj : ℓ j = true := hl j (k.look i o ho hi d hmemd j (by omega) (by rw [dst_of hoj, hoj2])).2
  have hmj : MkM oj := ⟨t, rj, hoj1⟩
  obtain ⟨h1, h2, h3, ⟨es, clock, h4, h5⟩, h6⟩ := v.mblk j oj d (by omega) hoj hmj hoj2 hlj
  have hfree : ∀ e ∈ es.toList, e.key ≠ .string key := fun e he hk => by
    obtain ⟨s, os, t', k', x', e1, e2, e3, e4, e5⟩ := h5.got e he
    rw [e4] at hk; cases hk
    have := k.ins1 s i os o _ _ _ _ _ _ e1 ho e3 hop
    subst this; rw [hn] at e2; cases e2
  obtain ⟨kt, et, hk1, hk2⟩ := hMT
  obtain ⟨inf, dd, z, tk⟩ := TOK.get hT (t := t) (.inr (by rw [hk1]; simp))
  have kd := tk.kind
  rw [hk1] at kd
  obtain ⟨rfl, _⟩ := kd
  obtain ⟨inf', dd', z', tk'⟩ := TOK.get hT (t := kt) (.inr (by rw [hk2]; simp))
  have kd' := tk'.kind
  rw [hk2] at kd'
  have kd' : dd' = .string := kd'
  subst kd'
  have hkeys : ∀ e ∈ es.toList, MapKept.IsKey .string e.key := fun e he => by
    obtain ⟨s, os, t', k', x', e1, e2, e3, e4, e5⟩ := h5.got e he
    rw [e4]; trivial
  have hfind : Instr.findNow .string (.string key) es.toList 0 = some none := by
    rcases MapKept.findNow_spec (d := .string) (k := .string key) trivial es.toList 0 hkeys with ⟨q, _⟩ | ⟨j', e, q, q1, q2⟩
    · exact q
    · exact absurd q2 (hfree e (List.mem_of_getElem? q1))
  have hval : a.eval (.tmp d) = .map (some (bl j)) := h2
  have hrun : (Instr.mapUpdate t (a.eval (.tmp d)) (a.eval (.const (.string key))) (a.eval x)).run Γ.P w = .ok () { w with heap := w.heap.setIfInBounds (bl j) (.map (es.push { key := .string key, val := a.eval x, born := clock }) (clock + 1)) } := by
    have he : a.eval (.const (.string key)) = .string key := rfl
    rw [hval, he]
    unfold Instr.mapUpdate
    simp only [Sem.run_bind, run_underlying tk.und, Result.andThen_ok, MapKept.run_getObj_map h4, MapKept.run_checkKey (d := .string) tk'.und (k := .string key) trivial, MapKept.run_findKey tk'.und hfind, MapKept.run_setObj_map _ h4]
  have hXb : X (bl j) ∨ Hid ops p ℓ bl (bl j) := .inr ⟨j, by omega, hlj, ⟨oj, hoj, .inr hmj⟩, rfl⟩
  have hmi : ¬ MkAt ops i := fun ⟨o', e1, e2⟩ => by
    rw [ho] at e1; cases e1
    rcases e2 with (⟨t', e⟩ | ⟨t', x', e⟩) | ⟨t', r', e⟩ <;> rw [hop] at e <;> cases e
  have hup : ∀ j, MkAt ops j → setF ℓ i true j = true → ℓ j = true := fun j hm h => by
    rcases setF_or h with e | h
    · subst e; exact absurd hm hmi
    · exact h
  have hnX : ¬ X (bl j) := fun hx => by have := v.x0 _ hx; omega
  obtain ⟨r1, hext⟩ := v.rel.mapSet (es' := es.push { key := .string key, val := a.eval x, born := clock }) (c' := clock + 1) hXb h3 h4
  obtain ⟨s1, s2⟩ := MapKept.heap_set (o' := .map (es.push { key := .string key, val := a.eval x, born := clock }) (clock + 1)) h4
  refine ⟨_, hrun, (r1.congr (S' := some' S0 ops val p (setF ℓ i true)) (fun u => by rw [look_upd k ho hi hn u, hd]; rfl) rfl rfl).sub fun b hb => ?_, hext v.ext hnX h1, v.abv, v.x0, fun q oq dq hq hoq hm hdq hlq => ?_, fun i' j' hi' hj' hm hm' hl1 hl2 hb => v.inj i' j' hi' hj' hm hm' (hup _ hm hl1) (hup _ hm' hl2) hb, fun q oq dq hq hoq hm hdq hlq => ?_⟩
  · rcases hb with hb | ⟨q, q1, q2, q3, q4⟩
    · exact .inl hb
    · exact .inr ⟨q, q1, hup q q3 q2, q3, q4⟩
  · have hlq' := hup q ⟨oq, hoq, .inl hm⟩ hlq
    obtain ⟨g1, g2, g3, arrq, elq, g4, g5⟩ := v.blk q oq dq hq hoq hm hdq hlq'
    have hne : bl q ≠ bl j := fun e => by
      rw [e, h4] at g4; cases g4
    refine ⟨g1, g2, g3, arrq, elq, by rw [← g4]; exact s2 _ hne, g5.keep k hdc hoq hq hlq' ho hi hn (fun t' x' e => ?_) fun _ _ => rfl⟩
    rw [hop] at e; cases e
  · have hlq' := hup q ⟨oq, hoq, .inr hm⟩ hlq
    obtain ⟨g1, g2, g3, ⟨esq, cq, g4, g5⟩, g6⟩ := v.mblk q oq dq hq hoq hm hdq hlq'
    have hmv : ∀ (q' : Nat) oq' e, q' < p → ops[q']? = some oq' → oq'.op = .move (.tmp dq) → oq'.guard = none → oq'.dst = some e → setF ℓ i true q' = true → a.tmps.getD e undef = .map (some (bl q)) := fun q' oq' e hq' hoq' f1 f2 f3 f4 => by
      rcases setF_or f4 with e' | f4
      · subst e'
        rw [ho] at hoq'; cases hoq'
        rw [hop] at f1; cases f1
      · exact g6 q' oq' e hq' hoq' f1 f2 f3 f4
    by_cases hqj : q = j
    · subst hqj
      rw [hoj] at hoq; cases hoq
      rw [hoj2] at hdq; cases hdq
      refine ⟨g1, g2, g3, ⟨_, _, s1, ⟨fun e he => ?_, fun s os t' k' x' hos hls hop' => ?_⟩⟩, hmv⟩
      · rw [Array.toList_push, List.mem_append] at he
        rcases he with he | he
        · obtain ⟨s, os, t', k', x', e1, e2, e3, e4⟩ := h5.got e he
          exact ⟨s, os, t', k', x', e1, by unfold setF; split <;> simp [e2], e3, e4⟩
        · simp at he
          subst he
          exact ⟨i, o, t, key, x, ho, setF_self _ _ _, hop, rfl, rfl⟩
      · rcases setF_or hls with e | hls
        · subst e
          rw [ho] at hos; cases hos
          rw [hop] at hop'; cases hop'
          exact ⟨{ key := .string key, val := a.eval x, born := clock }, by rw [Array.toList_push]; simp, rfl⟩
        · obtain ⟨e, e1, e2⟩ := h5.has s os t' k' x' hos hls hop'
          exact ⟨e, by rw [Array.toList_push]; simp [e1], e2⟩
    · have hne : bl q ≠ bl j := fun e => hqj (v.inj q j hq (by omega) ⟨oq, hoq, .inr hm⟩ ⟨oj, hoj, .inr hmj⟩ hlq' hlj e)
      refine ⟨g1, g2, g3, ⟨esq, cq, by rw [← g4]; exact s2 _ hne, g5.keep k hdc ho hi hn (fun t' k' x' e => ?_) fun _ _ => rfl⟩, hmv⟩
      rw [hop] at e; cases e
      exact hqj (k.dst q j d hq (by omega) (by rw [dst_of hoq, hdq]) (by rw [dst_of hoj, hoj2]))
theorem selS_mem {s : ByteArray} {b : Bool} : ∀ {l : List (ByteArray × Bool)}, (∀ k b b', (k, b) ∈ l → (k, b') ∈ l → b = b') → (s, b) ∈ l → selS s l = b ∧ hasS s l = true
  | (k, c) :: r, hu, hm => by
    simp only [selS, hasS]
    cases hk : s == k with
    | true =>
      have := (MapKept.bytes_beq _ _).1 hk
      subst this
      exact ⟨hu s c b (by simp) hm, rfl⟩
    | false =>
      rcases List.mem_cons.1 hm with e | hm
      · cases e
        have := (MapKept.bytes_beq s s).2 rfl
        rw [this] at hk; cases hk
      · simpa using selS_mem (fun k b b' h1 h2 => hu k b b' (List.mem_cons_of_mem _ h1) (List.mem_cons_of_mem _ h2)) hm
theorem selS_none {s : ByteArray} : ∀ {l : List (ByteArray × Bool)}, (∀ b, (s, b) ∉ l) → selS s l = false ∧ hasS s l = false
  | [], _ => ⟨rfl, rfl⟩
  | (k, c) :: r, hno => by
    simp only [selS, hasS]
    cases hk : s == k with
    | true =>
      have := (MapKept.bytes_beq _ _).1 hk
      subst this
      exact absurd (List.mem_cons_self ..) (hno c)
    | false => simpa using selS_none fun b hm => hno b (List.mem_cons_of_mem _ hm)
theorem Inv.asks (hT : TOK Γ.P Γ.T) (k : DOK ops p fl) (hdc : DC ops ℓ) {i : Nat} {o : Oper} {t : Nat} {m x : Operand} {ok : Bool} (ho : ops[i]? = some o) (hi : i < p) (hn : ℓ i = false) (hl : ∀ j, bindOn o j = true → ℓ j = true) (hop : o.op = .lookup t m x ok) (h40 : mapO ops.toList o = true)
    (hMT : MapT Γ t) {s : ByteArray} {l : List (ByteArray × Bool)} (hs : evo Γ (some' S0 ops val p ℓ) x = .str s) {d0 : Nat} (hd0 : m = .tmp d0) (hl0 : InsOf Γ (lex S0 ops.toList val i) (rootD d0 ops.toList) ops.toList l)
    (v : Inv Γ ops p S0 val w0 I0 X β0 σ0 ℓ a w I β σ bl) :
    (Instr.lookup t (a.eval m) (a.eval x) ok).run Γ.P w = .ok (.tuple #[.bool (selS s l), .bool (hasS s l)]) w := by
  obtain ⟨rfl, e, hdm, ⟨j, oj, rj, hj, hoj, hoj1, hoj2, hoj3⟩, hins, hroot⟩ := k.lk i o t m x ok ho hop h40
  subst hdm
  have hdd : e = d0 := by simpa using hd0
  subst hdd
  obtain ⟨d, hdr⟩ : ∃ d, d = rootD e ops.toList := ⟨_, rfl⟩
  rw [← hdr] at hoj2 hins hroot hl0
  have hmemd : e ∈ looks ops.toList o := by
    simp only [looks, hop, List.mem_append]
    exact .inl (mem_opTs (x := .tmp e) (by simp [Op.operands]) (by simp [opT]))
  have hmj : MkM oj := ⟨t, rj, hoj1⟩
  have hlj : ℓ j = true := by
    rcases hroot with hr | ⟨q, oq, hq, hoq, hq1, hq2, hq3⟩
    · exact hl j (k.look i o ho hi e hmemd j (by omega) (by rw [dst_of hoj, hoj2, hr])).2
    · have hlq := hl q (k.look i o ho hi e hmemd q hq (by rw [dst_of hoq, hq2])).2
      have hmem : d ∈ looks ops.toList oq := by
        simp only [looks, hq1, List.mem_append]
        exact .inl (mem_opTs (x := .tmp d) (by simp [Op.operands]) (by simp [opT]))
      exact hdc q oq hoq hlq j (k.look q oq hoq hq d hmem j (by omega) (by rw [dst_of hoj, hoj2])).2
  obtain ⟨h1, h2, h3, ⟨es, clock, h4, h5⟩, h6⟩ := v.mblk j oj d (by omega) hoj hmj hoj2 hlj
  obtain ⟨kt, et, hk1, hk2⟩ := hMT
  obtain ⟨inf, dd, z, tk⟩ := TOK.get hT (t := t) (.inr (by rw [hk1]; simp))
  have kd := tk.kind
  rw [hk1] at kd
  obtain ⟨rfl, ie, hie, hze⟩ := kd
  obtain ⟨inf', dd', z', tk'⟩ := TOK.get hT (t := kt) (.inr (by rw [hk2]; simp))
  have kd' := tk'.kind
  rw [hk2] at kd'
  have kd' : dd' = .string := kd'
  subst kd'
  have hkeys : ∀ e ∈ es.toList, MapKept.IsKey .string e.key := fun e he => by
    obtain ⟨s, os, t', k', x', e1, e2, e3, e4, e5⟩ := h5.got e he
    rw [e4]; trivial
  have hput : ∀ (q : Nat) (oq : Oper) (t' : Nat) (k' : ByteArray) (x' : Operand), ops[q]? = some oq → oq.op = .insert t' (.tmp d) (.const (.string k')) x' → ℓ q = true ∧ evo Γ (some' S0 ops val p ℓ) x' = evo Γ (lex S0 ops.toList val i) x' := fun q oq t' k' x' hq hqop => by
    obtain ⟨hqi, hqb⟩ := hins q oq t' _ x' hq hqop
    have hlq := bindOn2_spec hdc (Array.getElem?_eq_some_iff.1 hq).1 hqb hl
    refine ⟨hlq, ?_⟩
    cases x' with
    | tmp u =>
      have hu : u ∈ looks ops.toList oq := ins_looks hqop (by simp [opT]) _
      have hqp : q < p := (k.ins q oq _ _ _ _ hq hqop).1
      have e1 := look_agree (S0 := S0) (val := val) k hdc hq hqp (fun j hb => hdc q oq hq hlq j hb) hu
      show look (some' S0 ops val p ℓ).tm u = look (lex S0 ops.toList val i).tm u
      rw [e1]
      simp only [lex]
      by_cases hex : ∃ j, j < p ∧ dstOf ops.toList j = some u
      · obtain ⟨j', hj', hjd⟩ := hex
        have hji := (k.look q oq hq hqp u hu j' hj' hjd).1
        rw [look_tmL_some (i := j') (fun j2 hj2 hjd' => k.dst j2 j' u (by omega) hj' hjd' hjd) hji rfl hjd, look_tmL_some (i := j') (fun j2 hj2 hjd' => k.dst j2 j' u (by omega) hj' hjd' hjd) (by omega) rfl hjd]
      · rw [look_tmL_none fun j' hj' _ e => hex ⟨j', by omega, e⟩, look_tmL_none fun j' hj' _ e => hex ⟨j', by omega, e⟩]
    | const c => rfl
    | global g => rfl
    | func f => rfl
  have huniq : ∀ k' b b', (k', b) ∈ l → (k', b') ∈ l → b = b' := fun k' b b' m1 m2 => by
    obtain ⟨q1, o1, t1, x1, e1, e2, e3⟩ := hl0.got k' b m1
    obtain ⟨q2, o2, t2, x2, e4, e5, e6⟩ := hl0.got k' b' m2
    have := k.ins1 q1 q2 o1 o2 _ _ _ _ _ _ (by simpa using e1) (by simpa using e4) e2 e5
    subst this
    rw [e1] at e4; cases e4
    rw [e2] at e5; cases e5
    rw [e3] at e6; cases e6; rfl
  have hval : a.eval (.tmp e) = .map (some (bl j)) := by
    rcases hroot with hr | ⟨q, oq, hq, hoq, hq1, hq2, hq3⟩
    · rw [← hr]; exact h2
    · have hlq := hl q (k.look i o ho hi e hmemd q hq (by rw [dst_of hoq, hq2])).2
      exact h6 q oq e hq hoq hq1 hq3 hq2 hlq
  have hx : a.eval x = .string s := by
    have := evo_V v.rel x
    rw [hs] at this
    exact this.str_inv
  rw [hval, hx]
  unfold Instr.lookup
  rcases MapKept.findNow_spec (d := .string) (k := .string s) trivial es.toList 0 hkeys with ⟨q, hno⟩ | ⟨j', e, q, q1, q2⟩
  · have hn0 := selS_none (s := s) (l := l) fun b hm => by
      obtain ⟨q1, o1, t1, x1, e1, e2, e3⟩ := hl0.got s b hm
      have e1 : ops[q1]? = some o1 := by simpa using e1
      obtain ⟨e, e4, e5⟩ := h5.has q1 o1 t1 s x1 e1 (hput q1 o1 t1 s x1 e1 e2).1 e2
      exact hno e e4 e5
    rw [hn0.1, hn0.2]
    simp [Sem.run_bind, run_underlying tk.und, Result.andThen_ok, MapKept.run_getObj_map h4, MapKept.run_checkKey (d := .string) tk'.und (k := .string s) trivial, MapKept.run_findKey tk'.und q, zeroValue, typeInfo, hie, hze]
  · have hem := List.mem_of_getElem? q1
    obtain ⟨q2', o2, t2, k2, x2, e1, e2, e3, e4, e5⟩ := h5.got e hem
    rw [q2] at e4; cases e4
    obtain ⟨b, hm, hb⟩ := hl0.has q2' o2 t2 s x2 (by simpa using e1) e3
    have hn0 := selS_mem huniq hm
    rw [hn0.1, hn0.2]
    have hv : e.val = .bool b := by
      rw [e5]
      have := evo_V v.rel x2
      rw [(hput q2' o2 t2 s x2 e1 e3).2, hb] at this
      exact this.bool_inv
    simp [Sem.run_bind, run_underlying tk.und, Result.andThen_ok, MapKept.run_getObj_map h4, MapKept.run_checkKey (d := .string) tk'.und (k := .string s) trivial, MapKept.run_findKey tk'.und q, hv]
theorem Oper.wp_move {P : Program} {o : Oper} {a : Act} {w : World} {K : Act → World → Prop} {Q : Exit → Act → World → Prop} (h : o.wp P a w K Q) :
    o.wp P a w (fun a' w' => K a' w' ∧ ∀ x e, o.op = .move (.tmp x) → o.dst = some e → e < a.tmps.size → a'.tmps.getD e undef = a.tmps.getD x undef) Q := by
  by_cases hm : ∃ x, o.op = .move (.tmp x)
  · obtain ⟨x, hop⟩ := hm
    unfold Oper.wp at *
    have hr : (execOp a.eval o).run P w = .ok (.value (a.eval (.tmp x))) w := by simp [execOp, hop]
    rw [hr] at h ⊢
    rw [Oper.upon_value] at h ⊢
    refine ⟨h, fun x' e h1 h2 h3 => ?_⟩
    rw [hop] at h1; cases h1
    rw [h2]
    simp [Act.put, h3, Act.eval]
  · refine Oper.wp_mono (fun a' w' hk => ⟨hk, fun x e h1 => absurd ⟨x, h1⟩ hm⟩) h
theorem front_step (hT : TOK Γ.P Γ.T) (hC : HC C Γ) (k : DOK ops p fl)
    (hf : ∀ (j : Nat) o, j < p → ops[j]? = some o → Fact sp C Γ ops.toList cr S0 val act j o) (hnt : noTags cr S0) (hcr : ∀ (i : Nat) o d, i < p → ops[i]? = some o → creates o = true → o.dst = some d → d ∈ cr)
    (hdc : DC ops ℓ) {i : Nat} (hsp : sp i = false) {o : Oper} (ho : ops[i]? = some o) (hi : i < p) (hn : ℓ i = false) (hl : ∀ j, bindOn o j = true → ℓ j = true) (v : Inv Γ ops p S0 val w0 I0 X β0 σ0 ℓ a w I β σ bl)
    (Q : Exit → Act → World → Prop) :
    wpOp Γ.P ops Q i (fun a' w' => ∃ I' β' σ' bl', Inv Γ ops p S0 val w0 I0 X β0 σ0 (setF ℓ i true) a' w' I' β' σ' bl') a w := by
  have F := hf i o hi ho
  have hag : ∀ t ∈ looks ops.toList o, look (some' S0 ops val p ℓ).tm t = look (lex S0 ops.toList val i).tm t := fun t ht => look_agree k hdc ho hi hl ht
  have halike : Alike (opTs o.op.operands.toList) (lex S0 ops.toList val i) (some' S0 ops val p ℓ) := ⟨fun t ht => (hag t (by simp only [looks, List.mem_append]; exact .inl ht)).symm, rfl, rfl⟩
  have hevo : ∀ x, x ∈ o.op.operands.toList → evo Γ (lex S0 ops.toList val i) x = evo Γ (some' S0 ops val p ℓ) x := fun x hx => evo_alikes hx halike
  have hw : Region.wanted o (yielded ops a.tmps) = act i := by
    have g := F.guard
    cases hgd : o.guard with
    | none => rw [hgd] at g; simp only at g; rw [g]; simp [Region.wanted, hgd]
    | some jw =>
      obtain ⟨j, want⟩ := jw
      rw [hgd] at g
      obtain ⟨t, hd, hbo⟩ := g
      have hmem : t ∈ looks ops.toList o := by simp only [looks, hgd, hd, List.mem_append]; exact .inr (by simp)
      have hv := v.rel.tm t
      rcases hbo with ⟨b, hb, he⟩ | ⟨hb, he⟩
      · rw [hag t hmem, hb] at hv
        have hy := yielded_of hd hv.bool_inv
        rw [he]
        simp only [Region.wanted, hgd, hy]
        cases want <;> cases b <;> rfl
      · rw [hag t hmem, hb] at hv
        have hy := yielded_und hd hv.und_inv
        rw [he]
        simp only [Region.wanted, hgd, hy]
        cases want <;> rfl
  unfold wpOp
  simp only [ho]
  have hput : ∀ u t, o.dst ≠ some t → (a.put o.dst u).tmps.getD t undef = a.tmps.getD t undef := fun u t ht => by
    cases hd : o.dst with
    | none => rfl
    | some d =>
      have hne : d ≠ t := fun e => ht (by rw [hd, e])
      simp only [Act.put, Array.getD_eq_getD_getElem?]
      rw [Array.getElem?_setIfInBounds_ne hne]
  cases hact : act i with
  | false =>
    rw [hact] at hw
    simp only [hw, Bool.false_eq_true, if_false]
    have hg0 : ¬ (o.guard = none) := fun e => by
      have g := F.guard
      rw [e] at g; simp only at g; rw [hact] at g; cases g
    have hmk : ¬ Mk o := fun e => hg0 (k.made i o ho hi e).2
    have hns : ∀ t y x, o.op ≠ .store t y x := fun t y x e => by obtain ⟨_, _, _, e2, _⟩ := k.st i o t y x ho hi e; exact hg0 e2
    have hmm : ¬ MkM o := fun ⟨t, r, e⟩ => hg0 (k.mkm i o t r ho e).2.2.2
    have hni : ∀ t m ky x, o.op ≠ .insert t m ky x := fun t m ky x e => by obtain ⟨_, _, _, _, _, _, e2, _⟩ := k.ins i o t m ky x ho e; exact hg0 e2
    refine ⟨I, β, σ, bl, v.quiet k hdc ho hi hn hmk hmm hns hni (fun x e _ hg _ => absurd hg hg0) ?_ (.refl _ _ _) (.refl _ _) (hput undef)⟩
    rw [F.off hact]
    cases hd : o.dst with
    | none => exact v.rel
    | some d => exact v.rel.put (F.nt d hd) (.data D.und)
  | true =>
    rw [hact] at hw
    simp only [hw, if_true]
    refine .inl ?_
    by_cases h1 : ∃ t, o.op = .alloc t
    · obtain ⟨t, hop⟩ := h1
      obtain ⟨h0, hv⟩ := F.alloc hact t hop
      obtain ⟨⟨d, hd⟩, _⟩ := k.made i o ho hi (.inl ⟨t, hop⟩)
      obtain ⟨inf, dd, z, tk⟩ := TOK.get hT (t := t) (.inl (by omega))
      obtain ⟨bl', hv'⟩ := v.makes (arr := z.cells) (el := t) k hdc ho hi hn hl (.inl ⟨t, hop⟩) hd (F.nt d hd) hv ⟨fun t' e => (by rw [hop] at e; cases e; exact ⟨tk.zsize, fun I β s => zero_CV tk I β s⟩), fun t' x e => (by rw [hop] at e; cases e)⟩
      refine wp_val (w' := w.alloc (.cells z.cells t)) (v := .pointer (some ⟨w.heap.size, 0, none⟩)) ?_ ⟨I, β, σ, bl', by rw [hd]; exact hv'⟩
      simp [execOp, hop, Instr.alloc, zeroValue, typeInfo, tk.info, tk.zero, newVar, newRow]
    · by_cases h2 : ∃ t x, o.op = .box t x
      · obtain ⟨t, x, hop⟩ := h2
        obtain ⟨⟨c, hc⟩, hv⟩ := F.box hact t x hop
        obtain ⟨⟨d, hd⟩, _⟩ := k.made i o ho hi (.inr ⟨t, x, hop⟩)
        obtain ⟨bl', hv'⟩ := v.makes (arr := (a.eval x).cells) (el := t) k hdc ho hi hn hl (.inr ⟨t, x, hop⟩) hd (F.nt d hd) hv ⟨fun t' e => (by rw [hop] at e; cases e), fun t' x' e => (by rw [hop] at e; cases e; rfl)⟩
        refine wp_val (w' := w.alloc (.cells (a.eval x).cells t)) (v := .pointer (some ⟨w.heap.size, 0, none⟩)) ?_ ⟨I, β, σ, bl', by rw [hd]; exact hv'⟩
        simp [execOp, hop, Instr.box, newVar, newRow]
      · by_cases h3 : ∃ t y x, o.op = .store t y x
        · obtain ⟨t, y, x, hop⟩ := h3
          obtain ⟨h0, c, hc, hcl⟩ := F.store hact t y x hop
          obtain ⟨_, _, hdn, _⟩ := k.st i o t y x ho hi hop
          obtain ⟨inf, dd, z, tk⟩ := TOK.get hT (t := t) (.inl (by omega))
          rw [hevo x (by rw [hop]; simp [Op.operands])] at hc
          obtain ⟨w', hr, hv'⟩ := v.stores k hdc ho hi hn hl hop tk.msize hc hcl
          refine wp_skp (w' := w') ?_ ⟨I, β, σ, bl, by rw [hdn]; exact hv'⟩
          simp [execOp, hop, hr]
        · by_cases h4 : mapO ops.toList o = true
          · have h40 := h4
            obtain ⟨m1, m2, m3⟩ := F.maps hact
            unfold mapO at h4
            split at h4
            · rename_i t r hop
              obtain ⟨_, rfl, ⟨d, hd⟩, _⟩ := k.mkm i o t r ho hop
              obtain ⟨bl', hv'⟩ := v.makesM k hdc ho hi hn hl hop hd (F.nt d hd) (m1 t none hop)
              refine wp_val (w' := w.alloc (.map #[] 0)) (v := .map (some w.heap.size)) ?_ ⟨I, β, σ, bl', by rw [hd]; exact hv'⟩
              simp [execOp, hop, Instr.makeMap, newObj]
              rfl
            · rename_i t m ky x hop
              obtain ⟨hMT, _⟩ := m2 t m ky x hop
              obtain ⟨_, _, _, _, _, hdn, _⟩ := k.ins i o t m ky x ho hop
              obtain ⟨w', hr, hv'⟩ := v.inserts hT k hdc ho hi hn hl hop hMT
              refine wp_skp (w' := w') ?_ ⟨I, β, σ, bl, by rw [hdn]; exact hv'⟩
              simp [execOp, hop, hr]
            · rename_i t md x ok hop
              obtain ⟨d, hmd, hMT, s, l, hs, hl0, hv⟩ := m3 t _ x ok hop h40
              have hs' : evo Γ (some' S0 ops val p ℓ) x = .str s := by rw [← hevo x (by rw [hop]; simp [Op.operands])]; exact hs
              have hr := v.asks hT k hdc ho hi hn hl hop h40 hMT hs' hmd hl0
              refine wp_val (w' := w) (v := .tuple #[.bool (selS s l), .bool (hasS s l)]) (by simp [execOp, hop, hr]) ⟨I, β, σ, bl, v.quiet k hdc ho hi hn (fun e => by rcases e with ⟨t, e⟩ | ⟨t, x, e⟩ <;> rw [hop] at e <;> cases e) (fun ⟨t, r, e⟩ => by rw [hop] at e; cases e) (fun t y x e => by rw [hop] at e; cases e) (fun t m ky x e => by rw [hop] at e; cases e) (fun x e h1 => by rw [hop] at h1; cases h1) ?_ (.refl _ _ _) (.refl _ _) (hput _)⟩
              rw [hv]
              cases hd : o.dst with
              | none => exact v.rel
              | some d => exact v.rel.put (F.nt d hd) (tupBB _ _)
            · cases h4
          have h4 : mapO ops.toList o = false := by simpa using h4
          have hmm : ¬ MkM o := fun ⟨t, r, e⟩ => by simp [mapO, e] at h4
          have hni : ∀ t m ky x, o.op ≠ .insert t m ky x := fun t m ky x e => by simp [mapO, e] at h4
          have hns : ∀ t y x, o.op ≠ .store t y x := fun t y x e => h3 ⟨t, y, x, e⟩
          have hmk : ¬ Mk o := fun e => by
            rcases e with ⟨t, e⟩ | ⟨t, x, e⟩
            · exact h1 ⟨t, e⟩
            · exact h2 ⟨t, x, e⟩
          obtain ⟨hpv, _⟩ := F.other hact (fun t e => h1 ⟨t, e⟩) (fun t x e => h2 ⟨t, x, e⟩) hns h4
          have hiop : iop C Γ (some' S0 ops val p ℓ) o (fun S' => S' = putS (some' S0 ops val p ℓ) o.dst (val i)) := by
            refine pval_iop (fun d hd hcre => ?_) (pval_alike halike (hpv hsp _ ?_))
            · have hdcr := hcr i o d hi ho hcre hd
              have hdi : dstOf ops.toList i = some d := by rw [dst_of ho, hd]
              refine ⟨tmTag_tmL (hnt d hdcr).1 fun j hj hlj hdj => ?_, (hnt d hdcr).2⟩
              cases ht : hasTag d (val j) with
              | false => rfl
              | true =>
                have := tag_listed k hf hnt hdc hi hdi hdcr (j + 1) j (Nat.lt_succ_self j) hj hlj hdj ht
                rw [hn] at this; cases this
            · show putT Γ (some' S0 ops val p ℓ) o.dst (val i) _
              cases hd : o.dst with
              | none => rfl
              | some d =>
                have hb : Nat.blt d Γ.nt = true := by simp [Nat.blt]; exact F.nt d hd
                simp only [some', putT, hb, putS]
          refine Oper.wp_mono ?_ (Oper.wp_move (Oper.wp_put (iop_all hT hC o hiop v.rel Q)))
          rintro a' w' ⟨⟨⟨S', I', β', σ', rfl, hr, he, hab⟩, ha⟩, hmv⟩
          exact ⟨I', β', σ', bl, v.quiet k hdc ho hi hn hmk hmm hns hni (fun x e h1 _ h3 => hmv x e h1 h3 (Nat.lt_of_lt_of_le (F.nt e h3) v.rel.nt)) hr he hab ha⟩
theorem float_yields {S : St} {o : Oper} {v : IV} {β' : Beta} {σ' : Nat → Sig} {Y : Nat → Prop} (hp : pureO o = true) (h : ∀ K : IV → Prop, K v → pval C Γ S o K) (r : Rel Γ S a w I Y β' σ') : ∃ u, V I β' (σ' 0) v u ∧ ∀ w', (execOp a.eval o).run Γ.P w' = .ok (.value u) w' := by
  have h1 := h (fun x => x = v) rfl
  unfold pureO at hp
  unfold pval at h1
  split at hp
  · rename_i t ix hop
    simp only [hop, ival, fv_eq] at h1
    split at h1
    · rename_i xs hx
      rw [nthI_eq] at h1
      split at h1
      · rename_i y hy
        have hvx := evo_V r t
        rw [hx] at hvx
        obtain ⟨vs, hvs, hl, hV⟩ := hvx.tup_inv
        have hlt : ix < vs.size := by rw [← hl]; exact (List.getElem?_eq_some_iff.1 hy).1
        exact ⟨vs.getD ix undef, h1 ▸ hV ix y hy, fun w' => by simp [execOp, hop, Instr.extract, hvs, hlt]⟩
      · exact h1.elim
    · exact h1.elim
  · rename_i x hop
    simp only [hop, ival, ev_eq] at h1
    exact ⟨a.eval x, h1 ▸ evo_V r x, fun w' => by simp [execOp, hop]⟩
  · rename_i c hop
    simp only [hop] at h1
    unfold pcall at h1
    split at hp
    · rename_i hc
      simp only [hc, fvL_eq, evoL_eq] at h1
      have hrun : ∀ {u : Value} {w' w2 : World}, (builtin .min c.argTypes o.type (c.args.map fun | .const _ => true | _ => false) (c.args.map a.eval)).run Γ.P w' = .ok (.value u) w2 → (execOp a.eval o).run Γ.P w' = .ok (.value u) w2 := by
        intro u w' w2 h
        simp only [execOp, hop, resolve, hc, Sem.run_bind, Sem.run_pure, Result.andThen_ok, invoke]
        exact h
      cases hl : c.args.toList with
      | nil => simp [hl] at h1
      | cons p l => cases l with
        | nil => simp [hl] at h1
        | cons q l =>
          simp only [hl, List.map_cons] at h1
          have hargs : c.args = (p :: q :: l).toArray := by rw [← Array.toArray_toList (xs := c.args), hl]
          have hvp := evo_V r p
          have hvq := evo_V r q
          generalize hx : evo Γ S p = x at h1 hvp
          generalize hy : evo Γ S q = y at h1 hvq
          have h1 : minI x y fun v' => minL v' (l.map (evo Γ S)) fun x => x = v := h1
          unfold minI at h1
          split at h1
          · rename_i k m k' m' _hz
            have key : ∀ w', ∃ n, v = .int k n ∧ (execOp a.eval o).run Γ.P w' = .ok (.value (.int k n)) w' := fun w' => by
              obtain ⟨n, hn, hr⟩ := minL_run (P := Γ.P) (I := I) (β := β') (σ := σ' 0) w' (l.map (evo Γ S)) (l.map a.eval) k _ h1 (by simp) (fun j x hx => by
                rw [List.getElem?_map, Option.map_eq_some_iff] at hx
                obtain ⟨y, hy, rfl⟩ := hx
                have := evo_V r y
                exact ⟨_, by rw [List.getElem?_map, hy]; rfl, this⟩)
              exact ⟨n, hn.symm, hrun (by simp [builtin, Builtin.min_, hargs, hvp.int_inv, hvq.int_inv, Builtin.min2]; rw [hr]; rfl)⟩
            obtain ⟨n, hn, _⟩ := key w
            exact ⟨.int k n, hn ▸ .data (.int _ _), fun w' => by
              obtain ⟨n', hn', hr⟩ := key w'
              rw [hn] at hn'
              cases hn'
              exact hr⟩
          · exact h1.elim
    · rename_i hc
      simp only [hc, fvL_eq, evoL_eq] at h1
      have hrun : ∀ {u : Value} {w' w2 : World}, (builtin .max c.argTypes o.type (c.args.map fun | .const _ => true | _ => false) (c.args.map a.eval)).run Γ.P w' = .ok (.value u) w2 → (execOp a.eval o).run Γ.P w' = .ok (.value u) w2 := by
        intro u w' w2 h
        simp only [execOp, hop, resolve, hc, Sem.run_bind, Sem.run_pure, Result.andThen_ok, invoke]
        exact h
      cases hl : c.args.toList with
      | nil => simp [hl] at h1
      | cons p l => cases l with
        | nil => simp [hl] at h1
        | cons q l =>
          simp only [hl, List.map_cons] at h1
          have hargs : c.args = (p :: q :: l).toArray := by rw [← Array.toArray_toList (xs := c.args), hl]
          have hvp := evo_V r p
          have hvq := evo_V r q
          generalize hx : evo Γ S p = x at h1 hvp
          generalize hy : evo Γ S q = y at h1 hvq
          have h1 : maxI x y fun v' => maxL v' (l.map (evo Γ S)) fun x => x = v := h1
          unfold maxI at h1
          split at h1
          · rename_i k m k' m' _hz
            have key : ∀ w', ∃ n, v = .int k n ∧ (execOp a.eval o).run Γ.P w' = .ok (.value (.int k n)) w' := fun w' => by
              obtain ⟨n, hn, hr⟩ := maxL_run (P := Γ.P) (I := I) (β := β') (σ := σ' 0) w' (l.map (evo Γ S)) (l.map a.eval) k _ h1 (by simp) (fun j x hx => by
                rw [List.getElem?_map, Option.map_eq_some_iff] at hx
                obtain ⟨y, hy, rfl⟩ := hx
                have := evo_V r y
                exact ⟨_, by rw [List.getElem?_map, hy]; rfl, this⟩)
              exact ⟨n, hn.symm, hrun (by simp [builtin, Builtin.max_, hargs, hvp.int_inv, hvq.int_inv, Builtin.max2]; simp only [gt_iff_lt] at hr; rw [hr]; rfl)⟩
            obtain ⟨n, hn, _⟩ := key w
            exact ⟨.int k n, hn ▸ .data (.int _ _), fun w' => by
              obtain ⟨n', hn', hr⟩ := key w'
              rw [hn] at hn'
              cases hn'
              exact hr⟩
          · exact h1.elim
    · cases hp
  · cases hp
theorem float_step (hT : TOK Γ.P Γ.T) (hC : HC C Γ) (k : DOK ops p fl)
    (hf : ∀ (j : Nat) o, j < p → ops[j]? = some o → Fact sp C Γ ops.toList cr S0 val act j o) (hnt : noTags cr S0) (hcr : ∀ (i : Nat) o d, i < p → ops[i]? = some o → creates o = true → o.dst = some d → d ∈ cr)
    (hdc : DC ops ℓ) {i : Nat} (hsp : sp i = false) {o : Oper} (ho : ops[i]? = some o) (hi : i < p) (hn : ℓ i = false) (hl : ∀ j, bindOn o j = true → ℓ j = true) (v : Inv Γ ops p S0 val w0 I0 X β0 σ0 ℓ a w I β σ bl)
    (hp : pureO o = true) (hg : o.guard = none) :
    ∃ u, (∀ w', (execOp a.eval o).run Γ.P w' = .ok (.value u) w') ∧ ∃ I' β' σ' bl', Inv Γ ops p S0 val w0 I0 X β0 σ0 (setF ℓ i true) (a.put o.dst u) w I' β' σ' bl' := by
  have F := hf i o hi ho
  have hact : act i = true := by have g := F.guard; rw [hg] at g; exact g
  have hag : ∀ t ∈ looks ops.toList o, look (some' S0 ops val p ℓ).tm t = look (lex S0 ops.toList val i).tm t := fun t ht => look_agree k hdc ho hi hl ht
  have halike : Alike (opTs o.op.operands.toList) (lex S0 ops.toList val i) (some' S0 ops val p ℓ) := ⟨fun t ht => (hag t (by simp only [looks, List.mem_append]; exact .inl ht)).symm, rfl, rfl⟩
  have h1 : ∀ t, o.op ≠ .alloc t := fun t e => by simp [pureO, e] at hp
  have h2 : ∀ t x, o.op ≠ .box t x := fun t x e => by simp [pureO, e] at hp
  have h3 : ∀ t y x, o.op ≠ .store t y x := fun t y x e => by simp [pureO, e] at hp
  have h4 : mapO ops.toList o = false := by
    unfold mapO
    split <;> first | rfl | (rename_i e; simp [pureO, e] at hp)
  obtain ⟨hpv, _⟩ := F.other hact h1 h2 h3 h4
  obtain ⟨u, _, hu⟩ := float_yields hp (fun K hk => pval_alike halike (hpv hsp K hk)) v.rel
  have st := front_step hT hC k hf hnt hcr hdc hsp ho hi hn hl v (fun _ _ _ => False)
  unfold wpOp at st
  simp only [ho] at st
  have hw : Region.wanted o (yielded ops a.tmps) = true := by simp [Region.wanted, hg]
  rw [if_pos hw] at st
  rcases st with st | ⟨_, h⟩
  · unfold Oper.wp at st
    rw [hu w, Oper.upon_value] at st
    exact ⟨u, hu, st⟩
  · obtain ⟨_, _, h⟩ := h
    exact h.elim
theorem storeTo_some {l : List Oper} {d : Nat} {x : Operand} (h : storeTo l d = some x) : ∃ (s : Nat) (os : Oper) (t : Nat), l[s]? = some os ∧ os.op = .store t (.tmp d) x := by
  induction l with
  | nil => cases h
  | cons o r ih =>
    unfold storeTo at h
    split at h
    · rename_i t d' x' hop
      split at h
      · rename_i hb
        have := (beq_iff _ _).1 hb
        subst this
        cases h
        exact ⟨0, o, t, rfl, hop⟩
      · obtain ⟨s, os, t, h1, h2⟩ := ih h; exact ⟨s + 1, os, t, by simpa using h1, h2⟩
    · obtain ⟨s, os, t, h1, h2⟩ := ih h; exact ⟨s + 1, os, t, by simpa using h1, h2⟩
theorem storeTo_none {l : List Oper} {d : Nat} (h : storeTo l d = none) : ∀ (s : Nat) (os : Oper) (t : Nat) x, l[s]? = some os → os.op ≠ .store t (.tmp d) x := by
  induction l with
  | nil => intro s os t x h; simp at h
  | cons o r ih =>
    intro s os t x hs hop
    unfold storeTo at h
    cases s with
    | zero =>
      simp at hs; subst hs
      rw [hop] at h
      simp only at h
      have : Nat.beq d d = true := Nat.beq_refl d
      rw [this] at h; cases h
    | succ s =>
      split at h
      · split at h
        · cases h
        · exact ih h s os t x (by simpa using hs) hop
      · exact ih h s os t x (by simpa using hs) hop
theorem take_get {l : List Oper} {p s : Nat} {o : Oper} (h : (l.take p)[s]? = some o) : s < p ∧ l[s]? = some o := by
  rw [List.getElem?_take] at h
  split at h
  · exact ⟨by assumption, h⟩
  · cases h
theorem adopt_all (hT : TOK Γ.P Γ.T) (k : DOK ops p fl) {K : St → Prop} (v : Inv Γ ops p S0 val w0 I0 X β0 σ0 ℓ a w I β σ bl) (hall : ∀ i, i < p → ℓ i = true) :
    ∀ (rest : List Oper) (i : Nat) (S : St) (β' : Beta), (∀ j, rest[j]? = (ops.toList.take p)[i + j]?) → Above β β' σ σ →
      Rel Γ S a w I (fun b => X b ∨ ∃ j, i ≤ j ∧ j < p ∧ MkAt ops j ∧ bl j = b) β' σ → adopt Γ (ops.toList.take p) rest K S →
      ∃ S' β'', K S' ∧ Rel Γ S' a w I X β'' σ ∧ Above β β'' σ σ
  | [], i, S, β', hr, hab, r, h => ⟨S, β', h, r.sub fun b hb => .inl hb, hab⟩
  | o :: rest, i, S, β', hr, hab, r, h => by
    have ho0 : (ops.toList.take p)[i]? = some o := by have := hr 0; simpa using this.symm
    obtain ⟨hi, ho1⟩ := take_get ho0
    have ho : ops[i]? = some o := by simpa using ho1
    have hr' : ∀ j, rest[j]? = (ops.toList.take p)[i + 1 + j]? := fun j => by
      have := hr (j + 1)
      simp only [List.getElem?_cons_succ] at this
      rw [this]; congr 1; omega
    have one : ∀ d x0 t0 (c : List IV), Mk o → o.dst = some d → content Γ S t0 x0 (fun c => newC Γ S d c (adopt Γ (ops.toList.take p) rest K)) →
        (∀ arr, Cont Γ ops p ℓ o d arr a → ∀ K' : List IV → Prop, content Γ S t0 x0 K' → ∃ c, K' c ∧ CV I β' (σ 0) c arr) → c = c →
        ∃ S' β'', K S' ∧ Rel Γ S' a w I X β'' σ ∧ Above β β'' σ σ := fun d x0 t0 _ hmk hd h hcon _ => by
      obtain ⟨h1, h2, h3, arr, el, h4, h5⟩ := v.blk i o d hi ho hmk hd (hall i hi)
      obtain ⟨c, hk, hcv⟩ := hcon arr h5 _ h
      obtain ⟨S', β2, g1, g2, g3⟩ := adopt_sound (b := bl i) (el := el) (X := fun b => X b ∨ ∃ j, i + 1 ≤ j ∧ j < p ∧ MkAt ops j ∧ bl j = b) hk r (.inr ⟨i, Nat.le_refl _, hi, ⟨o, ho, .inl hmk⟩, rfl⟩)
        (fun b hb => by rcases hb with hb | ⟨j, e1, e2⟩; · exact .inl hb
                        · exact .inr ⟨j, by omega, e2⟩)
        (fun hb => by
          rcases hb with hb | ⟨j, e1, e2, e3, e4⟩
          · have := v.x0 _ hb; omega
          · have := v.inj j i e2 hi e3 ⟨o, ho, .inl hmk⟩ (hall j e2) (hall i hi) e4; omega)
        h4 (fun j => by
          cases hI : I ⟨bl i, j, none⟩ with
          | none => rfl
          | some u => exact (h3 _ u hI rfl).elim) h2 hcv
      exact adopt_all hT k v hall rest (i + 1) S' β2 hr' (hab.trans g3) g2 g1
    unfold adopt at h
    split at h
    · rename_i t d hop hd
      refine one d _ t [] (.inl ⟨t, hop⟩) hd h (fun arr hc K' hk => ?_) rfl
      unfold content at hk
      cases hst : storeTo (ops.toList.take p) d with
      | none =>
        rw [hst] at hk
        obtain ⟨h0, hk⟩ := tyK_spec hk
        rw [fvL_eq] at hk
        exact ⟨_, hk, (hc.fresh t hop fun s os t' x hs hos _ => storeTo_none hst s os t' x (by rw [List.getElem?_take, if_pos hs]; simpa using hos)).2 I β' (σ 0)⟩
      | some x =>
        rw [hst] at hk
        simp only [ev_eq] at hk
        split at hk
        · rename_i c hcx
          obtain ⟨s, os, t', hs, hops⟩ := storeTo_some hst
          obtain ⟨hs1, hs2⟩ := take_get hs
          rw [hc.laid t hop s os t' x hs1 (by simpa using hs2) (hall s hs1) hops]
          exact ⟨c, hk, (evo_V r x).cells hcx⟩
        · exact hk.elim
    · rename_i t x d hop hd
      refine one d _ 0 [] (.inr ⟨t, x, hop⟩) hd h (fun arr hc K' hk => ?_) rfl
      unfold content at hk
      simp only [ev_eq] at hk
      split at hk
      · rename_i c hcx
        rw [hc.box t x hop]
        exact ⟨c, hk, (evo_V r x).cells hcx⟩
      · exact hk.elim
    · rename_i n1 n2
      refine adopt_all hT k v hall rest (i + 1) S β' hr' hab (r.sub fun b hb => ?_) h
      rcases hb with hb | ⟨j, e1, e2⟩
      · exact .inl hb
      · exact .inr ⟨j, by omega, e2⟩
end
end Go.Proofs.YtfoenhiohhmnlaaGreatDoor.Ix

namespace Go.Proofs.YtfoenhiohhmnlaaGreatDoor.Ix
set_option linter.unusedVariables false
set_option linter.unusedSimpArgs false
def cntF (ℓ : Nat → Bool) : Nat → Nat
  | 0 => 0
  | n + 1 => cntF ℓ n + if ℓ n then 0 else 1
theorem cntF_pos {ℓ : Nat → Bool} {i : Nat} (h : ℓ i = false) : ∀ {n : Nat}, i < n → 1 ≤ cntF ℓ n
  | n + 1, hi => by
    simp only [cntF]
    rcases Nat.lt_or_ge i n with h' | h'
    · have := cntF_pos h h'; omega
    · have : i = n := by omega
      subst this; rw [h]; simp
theorem cntF_same {ℓ : Nat → Bool} {i : Nat} : ∀ {n : Nat}, n ≤ i → cntF (setF ℓ i true) n = cntF ℓ n
  | 0, _ => rfl
  | n + 1, hi => by
    simp only [cntF]
    rw [cntF_same (n := n) (by omega), show setF ℓ i true n = ℓ n from by simp [setF]; omega]
theorem cntF_set {ℓ : Nat → Bool} {i : Nat} (h : ℓ i = false) : ∀ {n : Nat}, i < n → cntF (setF ℓ i true) n + 1 = cntF ℓ n
  | n + 1, hi => by
    simp only [cntF]
    rcases Nat.lt_or_ge i n with h' | h'
    · have := cntF_set h h'
      rw [show setF ℓ i true n = ℓ n from by simp [setF]; omega]; omega
    · have : i = n := by omega
      subst this
      rw [cntF_same (Nat.le_refl _), setF_self, h]; simp
def Lof (listed : Array Bool) : Nat → Bool := fun i => listed.getD i false
theorem Lof_set {listed : Array Bool} {i : Nat} (h : i < listed.size) : Lof (listed.setIfInBounds i true) = setF (Lof listed) i true := by
  funext j
  simp only [Lof, setF, Array.getD_eq_getD_getElem?, Array.getElem?_setIfInBounds]
  by_cases e : i = j
  · subst e; simp [h]
  · have e' : ¬ j = i := fun e' => e e'.symm
    simp [e, e']
section
variable {sp : Nat → Bool} {C : Con} {Γ : Env} {fl : Option (List Nat)} {ops : Array Oper} {p : Nat} {S : St} {S0 : St} {val : Nat → IV} {act : Nat → Bool} {w0 : World} {I0 : Imm} {X : Nat → Prop} {β0 : Beta} {σ0 : Nat → Sig} {a : Act} {w : World}
  {I : Imm} {β : Beta} {σ : Nat → Sig} {cr : List Nat} {K : St → Prop} {Q : Exit → Act → World → Prop}
theorem ready_spec {listed : Array Bool} {i : Nat} (hsz : listed.size = ops.size) : i ∈ Region.ready .any ops listed ↔ Lof listed i = false ∧ ∃ o, ops[i]? = some o ∧ ∀ j, bindOn o j = true → Lof listed j = true := by
  rw [mem_ready]
  constructor
  · rintro ⟨h1, o, ho, h⟩
    have hi : i < ops.size := (Array.getElem?_eq_some_iff.1 ho).1
    refine ⟨?_, o, ho, fun j hj => ?_⟩
    · simp only [Lof, Array.getD_eq_getD_getElem?] at h1 ⊢
      have : i < listed.size := by omega
      simpa [this] using h1
    · unfold bindOn at hj
      rw [List.any_eq_true] at hj
      obtain ⟨e, he, hb⟩ := hj
      simp only [Bool.and_eq_true] at hb
      have := (beq_iff _ _).1 hb.2
      subst this
      exact h e (by simpa using he) hb.1
  · rintro ⟨h1, o, ho, h⟩
    have hi : i < ops.size := (Array.getElem?_eq_some_iff.1 ho).1
    refine ⟨?_, o, ho, fun e he hb => ?_⟩
    · simp only [Lof, Array.getD_eq_getD_getElem?] at h1 ⊢
      have : i < listed.size := by omega
      simpa [this] using h1
    · refine h e.on ?_
      unfold bindOn
      rw [List.any_eq_true]
      exact ⟨e, by simpa using he, by simp [hb]⟩
theorem bindOn_lt (k : DOK ops p fl) {i : Nat} {o : Oper} (ho : ops[i]? = some o) {j : Nat} (h : bindOn o j = true) : j < i := by
  unfold bindOn at h
  rw [List.any_eq_true] at h
  obtain ⟨e, he, hb⟩ := h
  simp only [Bool.and_eq_true] at hb
  have := (beq_iff _ _).1 hb.2
  subst this
  exact k.acy i o ho e (by simpa using he) hb.1
theorem ready_first (k : DOK ops p fl) {listed : Array Bool} (hsz : listed.size = ops.size) {i : Nat} (hi : i < ops.size) (hn : Lof listed i = false) (hl : ∀ j, j < i → Lof listed j = true) : i ∈ Region.ready .any ops listed := by
  rw [ready_spec hsz]
  exact ⟨hn, ops[i], by simp [hi], fun j hj => hl j (bindOn_lt k (by simp [hi]) hj)⟩
theorem first_false {ℓ : Nat → Bool} : ∀ (n : Nat), ℓ n = false → ∃ i, i ≤ n ∧ ℓ i = false ∧ ∀ j, j < i → ℓ j = true
  | 0, h => ⟨0, Nat.le_refl _, h, fun j hj => by omega⟩
  | n + 1, h => by
    by_cases hx : ∃ i, i ≤ n ∧ ℓ i = false
    · obtain ⟨i, hi, hf⟩ := hx
      obtain ⟨i', h1, h2, h3⟩ := first_false' i n hi hf
      exact ⟨i', by omega, h2, h3⟩
    · refine ⟨n + 1, Nat.le_refl _, h, fun j hj => ?_⟩
      cases hj' : ℓ j with
      | true => rfl
      | false => exact absurd ⟨j, by omega, hj'⟩ hx
where
  first_false' {ℓ : Nat → Bool} (i n : Nat) (hi : i ≤ n) (hf : ℓ i = false) : ∃ i, i ≤ n ∧ ℓ i = false ∧ ∀ j, j < i → ℓ j = true := by
    induction i using Nat.strongRecOn with
    | ind i ih =>
      by_cases hx : ∃ j, j < i ∧ ℓ j = false
      · obtain ⟨j, hj, hjf⟩ := hx
        exact ih j hj (by omega) hjf
      · refine ⟨i, hi, hf, fun j hj => ?_⟩
        cases hj' : ℓ j with
        | true => rfl
        | false => exact absurd ⟨j, hj, hj'⟩ hx
theorem tail_any (hT : TOK Γ.P Γ.T) (hC : HC C Γ) (k : DOK ops p fl) (hQ : ∀ a' w', Aft Γ K I X w β σ a' w' → Q .normal a' w') :
    ∀ (fuel n : Nat) (listed : Array Bool) (S' : St) (a' : Act) (w' : World) (I' : Imm) (β' : Beta) (σ' : Nat → Sig), listed.size = ops.size → p ≤ n → n ≤ ops.size → (∀ j, j < n → Lof listed j = true) → (∀ j, n ≤ j → Lof listed j = false) →
      cntF (Lof listed) ops.size ≤ fuel → iops C Γ ops.toList (ops.toList.drop n) K S' → Rel Γ S' a' w' I' X β' σ' → Ext I X w I' w' → Above β β' σ σ' → wpAny Γ.P .any ops Q fuel listed a' w' := by
  intro fuel
  induction fuel with
  | zero =>
    intro n listed S' a' w' I' β' σ' hsz hp hn hl1 hl2 hc h r he ha
    have hnn : n = ops.size := by
      rcases Nat.lt_or_ge n ops.size with h' | h'
      · have := cntF_pos (hl2 n (Nat.le_refl _)) h'; omega
      · omega
    subst hnn
    have hd : ops.toList.drop ops.size = [] := List.drop_eq_nil_of_le (by simp)
    rw [hd] at h
    refine ⟨?_, hQ _ _ ⟨S', I', β', σ', h, r, he, ha⟩⟩
    cases hr : Region.ready .any ops listed with
    | nil => rfl
    | cons i l =>
      have : i ∈ Region.ready .any ops listed := by rw [hr]; simp
      rw [ready_spec hsz] at this
      obtain ⟨h1, o, ho, _⟩ := this
      rw [hl1 i (Array.getElem?_eq_some_iff.1 ho).1] at h1; cases h1
  | succ fuel ih =>
    intro n listed S' a' w' I' β' σ' hsz hp hn hl1 hl2 hc h r he ha
    rcases Nat.lt_or_ge n ops.size with hlt | hge
    · have hmem : n ∈ Region.ready .any ops listed := ready_first k hsz hlt (hl2 n (Nat.le_refl _)) hl1
      refine ⟨fun e => (by rw [e] at hmem; cases hmem), fun i hi => ?_⟩
      rw [ready_spec hsz] at hi
      obtain ⟨h1, o, ho, h2⟩ := hi
      have hin : i = n := by
        rcases Nat.lt_trichotomy i n with h' | h' | h'
        · rw [hl1 i h'] at h1; cases h1
        · exact h'
        · have := k.suf i o ho (by omega) (Lof listed) (fun i' o' ho' hl' j hb => hl1 j (by
            have hlt' := bindOn_lt k ho' hb
            rcases Nat.lt_or_ge i' n with h9 | h9
            · omega
            · rw [hl2 i' h9] at hl'; cases hl')) h2 n h'
          rcases this with this | this
          · rw [hl2 n (Nat.le_refl _)] at this; cases this
          · have := (floatB_spec (show ops[n]? = some ops[n] by simp [hlt]) this).1
            omega
      subst hin
      have hdrop : ops.toList.drop i = o :: ops.toList.drop (i + 1) := by
        have hi' : i < ops.toList.length := by simpa using hlt
        rw [List.drop_eq_getElem_cons hi']
        congr 1
        have := (Array.getElem?_eq_some_iff.1 ho).2
        simpa using this
      rw [hdrop, iops_cons] at h
      have h1' := iop1_sound hT hC (ops := ops) o h r Q
      have next : ∀ a2 w2, Aft Γ (fun S' => iops C Γ ops.toList (ops.toList.drop (i + 1)) K S') I' X w' β' σ' a2 w2 → wpAny Γ.P .any ops Q fuel (listed.setIfInBounds i true) a2 w2 := by
        rintro a2 w2 ⟨S2, I2, β2, σ2, k1, k2, k3, k4⟩
        have hset := Lof_set (listed := listed) (i := i) (by omega)
        refine ih (i + 1) _ S2 a2 w2 I2 β2 σ2 (by simpa using hsz) (by omega) hlt (fun j hj => ?_) (fun j hj => ?_) ?_ k1 k2 (he.trans k3) (ha.trans k4)
        · rw [hset]; unfold setF; split
          · rfl
          · exact hl1 j (by omega)
        · rw [hset]; unfold setF; split
          · omega
          · exact hl2 j (by omega)
        · rw [hset]
          have := cntF_set h1 hlt; omega
      unfold wpOp
      simp only [ho]
      split
      · rename_i hw
        rw [if_pos hw] at h1'
        exact .inl (Oper.wp_mono next h1')
      · rename_i hw
        rw [if_neg hw] at h1'
        exact next _ _ h1'
    · have hnn : n = ops.size := by omega
      subst hnn
      have hd : ops.toList.drop ops.size = [] := List.drop_eq_nil_of_le (by simp)
      rw [hd] at h
      refine ⟨fun _ => hQ _ _ ⟨S', I', β', σ', h, r, he, ha⟩, fun i hi => ?_⟩
      rw [ready_spec hsz] at hi
      obtain ⟨h1, o, ho, _⟩ := hi
      rw [hl1 i (Array.getElem?_eq_some_iff.1 ho).1] at h1; cases h1
theorem front_any (hT : TOK Γ.P Γ.T) (hC : HC C Γ) (k : DOK ops p none)
    (hsp : ∀ i, i < p → sp i = false) (hf : ∀ (j : Nat) o, j < p → ops[j]? = some o → Fact sp C Γ ops.toList cr S0 val act j o) (hnt : noTags cr S0) (hcr : ∀ (i : Nat) o d, i < p → ops[i]? = some o → creates o = true → o.dst = some d → d ∈ cr)
    {Se : St} (hse : Is S0 ops.toList val p Se) (hk : adopt Γ (ops.toList.take p) (ops.toList.take p) (iops C Γ ops.toList (ops.toList.drop p) K) Se)
    (hQ : ∀ a' w', Aft Γ K I X w β σ a' w' → Q .normal a' w') (hP : ∀ c a' w', ¬ Q (.panic c) a' w') :
    ∀ (fuel : Nat) (listed : Array Bool) (a' : Act) (w' : World) (I' : Imm) (β' : Beta) (σ' : Nat → Sig) (bl : Nat → Nat), listed.size = ops.size → (∀ j, p ≤ j → Lof listed j = false) → cntF (Lof listed) ops.size ≤ fuel → DC ops (Lof listed) →
      Inv Γ ops p S0 val w I X β σ (Lof listed) a' w' I' β' σ' bl → wpAny Γ.P .any ops Q fuel listed a' w' := by
  have whole : ∀ (fuel : Nat) (listed : Array Bool) (a' : Act) (w' : World) (I' : Imm) (β' : Beta) (σ' : Nat → Sig) (bl : Nat → Nat), listed.size = ops.size → (∀ j, p ≤ j → Lof listed j = false) → cntF (Lof listed) ops.size ≤ fuel →
      Inv Γ ops p S0 val w I X β σ (Lof listed) a' w' I' β' σ' bl → (∀ j, j < p → Lof listed j = true) → wpAny Γ.P .any ops Q fuel listed a' w' := by
    intro fuel listed a' w' I' β' σ' bl hsz hl2 hc v hall
    have r1 : Rel Γ Se a' w' I' (fun b => X b ∨ ∃ j, 0 ≤ j ∧ j < p ∧ MkAt ops j ∧ bl j = b) β' σ' := by
      refine (v.rel.congr (fun t => ?_) hse.ce hse.up).sub fun b hb => ?_
      · rw [hse.tm t]
        simp only [lex, some']
        congr 1
        have : ∀ n, n ≤ p → tmL S0.tm (dstOf ops.toList) val (fun _ => true) n = tmL S0.tm (dstOf ops.toList) val (Lof listed) n := by
          intro n
          induction n with
          | zero => intro _; rfl
          | succ n ih => intro hn; simp only [tmL]; rw [ih (by omega), hall n (by omega)]
        exact this p (Nat.le_refl _)
      · rcases hb with hb | ⟨j, _, h2, h3, h4⟩
        · exact .inl hb
        · exact .inr ⟨j, h2, hall j h2, h3, h4⟩
    obtain ⟨S', β2, g1, g2, g3⟩ := adopt_all hT k v hall (ops.toList.take p) 0 Se β' (fun j => by simp) (.refl _ _) r1 hk
    exact tail_any hT hC k hQ fuel p listed S' a' w' I' β2 σ' hsz (Nat.le_refl _) k.le hall hl2 hc g1 g2 v.ext (v.abv.trans g3)
  intro fuel
  induction fuel with
  | zero =>
    intro listed a' w' I' β' σ' bl hsz hl2 hc hdc v
    refine whole 0 listed a' w' I' β' σ' bl hsz hl2 hc v fun j hj => ?_
    cases hj' : Lof listed j with
    | true => rfl
    | false => have := cntF_pos hj' (n := ops.size) (by have := k.le; omega); omega
  | succ fuel ih =>
    intro listed a' w' I' β' σ' bl hsz hl2 hc hdc v
    by_cases hfl : ∃ i o, i < p ∧ Lof listed i = false ∧ ops[i]? = some o ∧ (∀ j, bindOn o j = true → Lof listed j = true) ∧ floatB none ops.toList p i = true
    · obtain ⟨i, o, hip, g1, ho, g2, hfB⟩ := hfl
      obtain ⟨_, hpure, hgn, hap⟩ := floatB_spec ho hfB
      have hready : i ∈ Region.ready .any ops listed := by rw [ready_spec hsz]; exact ⟨g1, o, ho, g2⟩
      have his : i < ops.size := (Array.getElem?_eq_some_iff.1 ho).1
      obtain ⟨u, hy, I2, β2, σ2, bl2, v2⟩ := float_step hT hC k hf hnt hcr hdc (hsp i hip) ho hip g1 g2 v hpure hgn
      have hset := Lof_set (listed := listed) (i := i) (by omega)
      refine wpAny_first ho (fun j y cs b hy => k.ns j y cs b hy) (fun c a w h => (hP _ _ _ h).elim) fuel listed a' w' (fun j oj hj hji hlj hno => ?_) hready (.inl ⟨by simp [Region.wanted, hgn], hy⟩) ?_
      · rcases hap j oj hj hji with h | h | h
        · unfold bindOn at h
          rw [List.any_eq_true] at h
          obtain ⟨e, he, hb⟩ := h
          simp only [Bool.and_eq_true] at hb
          exact absurd ((beq_iff _ _).1 hb.2) (hno e (by simpa using he) hb.1)
        · have hL := g2 j h
          have hjs : j < listed.size := by rw [hsz]; exact (Array.getElem?_eq_some_iff.1 hj).1
          simp only [Lof, Array.getD_eq_getD_getElem?, Array.getElem?_eq_getElem hjs, Option.getD_some] at hL hlj
          rw [hL] at hlj; cases hlj
        · exact h
      · refine ih _ _ w' I2 β2 σ2 bl2 (by simpa using hsz) (fun j hj => ?_) ?_ ?_ (by rw [hset]; exact v2)
        · rw [hset]; unfold setF; split
          · omega
          · exact hl2 j hj
        · rw [hset]; have := cntF_set g1 his; omega
        · rw [hset]; exact hdc.upd ho g2
    by_cases hx : ∃ i, i < p ∧ Lof listed i = false
    · obtain ⟨i0, hi0, hf0⟩ := hx
      obtain ⟨i1, h1, h2, h3⟩ := first_false i0 hf0
      have hmem : i1 ∈ Region.ready .any ops listed := ready_first k hsz (by have := k.le; omega) h2 h3
      refine ⟨fun e => (by rw [e] at hmem; cases hmem), fun i hi => ?_⟩
      rw [ready_spec hsz] at hi
      obtain ⟨g1, o, ho, g2⟩ := hi
      have his : i < ops.size := (Array.getElem?_eq_some_iff.1 ho).1
      have hip : i < p := by
        rcases Nat.lt_or_ge i p with h' | h'
        · exact h'
        · have hi1 : i1 < ops.size := by have := k.le; omega
          rcases k.suf i o ho h' (Lof listed) hdc g2 i1 (by omega) with this | this
          · rw [h2] at this; cases this
          · exact absurd ⟨i1, ops[i1], by omega, h2, by simp [hi1], fun j hj => h3 j (bindOn_lt k (by simp [hi1]) hj), this⟩ hfl
      refine wpOp_mono ?_ (front_step hT hC k hf hnt hcr hdc (hsp i hip) ho hip g1 g2 v Q)
      rintro a2 w2 ⟨I2, β2, σ2, bl2, v2⟩
      have hset := Lof_set (listed := listed) (i := i) (by omega)
      refine ih _ a2 w2 I2 β2 σ2 bl2 (by simpa using hsz) (fun j hj => ?_) ?_ ?_ (by rw [hset]; exact v2)
      · rw [hset]; unfold setF; split
        · omega
        · exact hl2 j hj
      · rw [hset]; have := cntF_set g1 his; omega
      · rw [hset]; exact hdc.upd ho g2
    · refine whole (fuel + 1) listed a' w' I' β' σ' bl hsz hl2 hc v fun j hj => ?_
      cases hj' : Lof listed j with
      | true => rfl
      | false => exact absurd ⟨j, hj, hj'⟩ hx
theorem cntF_le (ℓ : Nat → Bool) : ∀ n, cntF ℓ n ≤ n
  | 0 => Nat.le_refl _
  | n + 1 => by simp only [cntF]; have := cntF_le ℓ n; split <;> omega
theorem drawn_any0 (hT : TOK Γ.P Γ.T) (hC : HC C Γ) {p : Nat} (hok : drawOK ops.toList p = true) (hd : drawn C Γ ops.toList p K S) (r : Rel Γ S a w I X β σ)
    (hQ : ∀ a' w', Aft Γ K I X w β σ a' w' → Q .normal a' w') (hP : ∀ c a' w', ¬ Q (.panic c) a' w') :
    wpAny Γ.P .any ops Q ops.size (Array.replicate ops.size false) a { w with drawn := w.drawn + 1 } ∧ ∀ (i : Nat) o, ops[i]? = some o → ∀ c, o.op ≠ .defer c := by
  have k := drawOK_spec hok
  have r1 := r.draw (w.drawn + 1)
  obtain ⟨S0, σ1, hp, r2, hab, hnt⟩ := untagL_sound (creators (ops.toList.take p)) [] S σ hd (fun d hd => by cases hd) r1
  obtain ⟨val, act, Se, hf, hse, hk, _⟩ := pres_spec (sp := fun _ => false) (C := C) (Γ := Γ) (all := ops.toList) (cr := creators (ops.toList.take p)) (S0 := S0) (p := p) (fun _ _ _ _ _ _ _ _ => trivial)
    (fun i o t a x hi ho hop => (k.st i o t a x (by simpa using ho) hi hop).choose_spec.2.1) (fun i o t m ky x ho hop => by obtain ⟨_, _, _, _, _, e, _⟩ := k.ins i o t m ky x (by simpa using ho) hop; exact e) (ops.toList.take p) 0 (fun _ => .dead) (fun _ => false) S0 (by have := k.le; simp; omega)
    (fun j hj => by rw [List.getElem?_take, if_pos (by simp at hj; omega)]; simp) ⟨fun _ => rfl, rfl, rfl⟩ (fun j o hj => by omega) hp
  refine ⟨?_, k.nd⟩
  have hlof : ∀ j, Lof (Array.replicate ops.size false) j = false := fun j => by
    simp only [Lof, Array.getD_eq_getD_getElem?, Array.getElem?_replicate]
    split <;> rfl
  refine front_any hT hC k (sp := fun _ => false) (fun _ _ => rfl) (fun j o hj ho => hf j o hj (by simpa using ho)) (by simpa using hnt) (fun i o d hi ho hc hdd => ?_) hse hk (I := I) (X := X) (β := β) (σ := σ) (w := w) hQ hP
    ops.size _ a _ I β σ1 (fun _ => 0) (by simp) (fun j _ => hlof j) (cntF_le _ _) (fun i o ho hl => by rw [hlof i] at hl; cases hl) ?_
  · refine creators_mem (List.mem_of_getElem? (i := i) ?_) hc hdd
    rw [List.getElem?_take, if_pos hi]; simpa using ho
  · refine ⟨?_, ⟨rfl, rfl, rfl, Nat.le_refl _, fun _ _ => rfl, fun _ _ h => h, fun _ _ => rfl, fun _ _ h _ => h⟩, ⟨fun _ => rfl, hab⟩, r.mem.xb, fun i o d _ _ _ _ hl => (by rw [hlof i] at hl; cases hl), fun i j _ _ _ _ hl => (by rw [hlof i] at hl; cases hl), fun i o d _ _ _ _ hl => (by rw [hlof i] at hl; cases hl)⟩
    refine (r2.congr (S' := some' S0 ops val p (Lof (Array.replicate ops.size false))) (fun t => ?_) rfl rfl).sub fun b hb => ?_
    · simp only [some']
      exact look_tmL_none fun i _ hl => by rw [hlof i] at hl; cases hl
    · rcases hb with hb | ⟨j, _, h2, _⟩
      · exact hb
      · rw [hlof j] at h2; cases h2
theorem V.pin {I : Imm} {β : Beta} {s : Sig} {x : IV} {u v : Value} (h : V I β s x u) (hp : pinI x = some v) : u = v := by
  cases x with
  | int k n => have := h.int_inv; simp [pinI] at hp; rw [this, hp]
  | row d e n c b => have := h.row_pin; simp [pinI] at hp; rw [this, hp]
  | _ => cases hp
def Held (hd : List Nat) (S0 : St) (a0 : Act) (w : World) : Prop := ∀ d ∈ hd, ∀ c, lookC S0.ce d = some c → ∀ (j : Nat) x v, c[j]? = some x → pinI x = some v → ∀ b, a0.tmps.getD d undef = .pointer (some ⟨b, 0, none⟩) → w.cell? ⟨b, j, none⟩ = some v
def HeldX (hd : List Nat) (S0 : St) (a0 : Act) (I0 : Imm) (w : World) : Prop := Held hd S0 a0 w ∧ ∀ x u, I0 x = some u → hcell w x = some u
theorem heldI_spec {S0 : St} : ∀ {hd : List Nat} {S : St}, heldI S0 hd S → ∀ d ∈ hd, lookC S.ce d = lookC S0.ce d ∧ look S.tm d = .ptr 0 d 0
  | [], _, _, d, h => by cases h
  | x :: r, S, h, d, hm => by
    rcases List.mem_cons.1 hm with rfl | hm
    · exact h.1
    · exact heldI_spec h.2 d hm
theorem heldI_of {S0 S : St} : ∀ {hd : List Nat}, (∀ d ∈ hd, lookC S.ce d = lookC S0.ce d ∧ look S.tm d = .ptr 0 d 0) → heldI S0 hd S
  | [], _ => trivial
  | x :: r, h => ⟨h x (by simp), heldI_of fun d hm => h d (by simp [hm])⟩
theorem held_of {hd : List Nat} {S' : St} {a0 a' : Act} {w' : World} {I' : Imm} {X' : Nat → Prop} {β' : Beta} {σ' : Nat → Sig} (r : Rel Γ S' a' w' I' X' β' σ') (h : heldI S0 hd S')
    (ht : ∀ d ∈ hd, a'.tmps.getD d undef = a0.tmps.getD d undef) : Held hd S0 a0 w' := by
  intro d hm c hc j x v hj hx b hb
  obtain ⟨h1, h2⟩ := heldI_spec h d hm
  have hv := r.tm d
  rw [h2] at hv
  obtain ⟨b', hb', hβ⟩ := hv.ptr_inv
  rw [ht d hm, hb] at hb'
  have hbb : b = b' := by simpa using hb'
  subst hbb
  obtain ⟨b2, arr, el, g1, g2, g3, g4, g5, g6, g7⟩ := r.mem.cell 0 d c (h1.trans hc)
  rw [hβ] at g1
  cases g1
  have hjl : j < c.length := (List.getElem?_eq_some_iff.1 hj).1
  have := (g5 j _ hj).pin hx
  rw [cell_of_row w' b _ arr el _ g2]
  have hja : j < arr.size := by omega
  simp [Array.getD_eq_getD_getElem?, hja] at this
  simp [hja, this]
theorem wpOp_put' {i : Nat} {o : Oper} (ho : ops[i]? = some o) {K : Act → World → Prop} {Q : Exit → Act → World → Prop} {a : Act} {w : World} (h : wpOp Γ.P ops Q i K a w) :
    wpOp Γ.P ops Q i (fun a' w' => K a' w' ∧ ∀ t, o.dst ≠ some t → a'.tmps.getD t undef = a.tmps.getD t undef) a w := by
  unfold wpOp at *
  simp only [ho] at *
  split
  · rename_i hw
    simp only [hw, if_true] at h
    exact h.imp Oper.wp_put id
  · rename_i hw
    simp only [hw] at h
    refine ⟨h, fun t ht => ?_⟩
    cases hd : o.dst with
    | none => rfl
    | some d =>
      have hne : d ≠ t := fun e => ht (by rw [hd, e])
      simp only [Act.put, Array.getD_eq_getD_getElem?]
      rw [Array.getElem?_setIfInBounds_ne hne]
theorem allInt_spec : ∀ {c : List IV}, allInt c = true → ∀ x ∈ c, ∃ k n, x = .int k n
  | [], _, x, h => by cases h
  | y :: r, h, x, hx => by
    cases y with
    | int k n =>
      rcases List.mem_cons.1 hx with rfl | hx
      · exact ⟨k, n, rfl⟩
      · exact allInt_spec (c := r) h x hx
    | _ => cases h
theorem float_yieldsH (hT : TOK Γ.P Γ.T) {hd : List Nat} {S : St} {o : Oper} {v : IV} {a0 : Act} {β' : Beta} {σ' : Nat → Sig} {I : Imm} {Y : Nat → Prop} (hp : pureL o = true) (h : ∀ K : IV → Prop, K v → pval C Γ S o K) (r : Rel Γ S a w I Y β' σ')
    {Sw : World → Prop} (hS : ∀ w', Sw w' → Held hd S0 a0 w') {vp : Bool} (hI : vp = true → ∀ w', Sw w' → ∀ x u, I x = some u → hcell w' x = some u)
    (hl : ∀ t x, o.op = .load t x → (∃ d off, evo Γ S x = .ptr 0 d off ∧ d ∈ hd ∧ ((∃ u, pinI v = some u) ∨ ∀ c, lookC S.ce d = some c → allInt c = true)) ∨ (vp = true ∧ (∃ e n f i j, evo Γ S x = .vptr e n f i j) ∧ ∃ k n, v = .int k n)) (hb : (∃ op t x y t', o.op = .binOp op t x y t') → ∃ k n, v = .int k n)
    (hh : heldI S0 hd S) (ht : ∀ d ∈ hd, a.tmps.getD d undef = a0.tmps.getD d undef) : ∃ u, V I β' (σ' 0) v u ∧ ∀ w', Sw w' → (execOp a.eval o).run Γ.P w' = .ok (.value u) w' := by
  by_cases hp0 : pureO o = true
  · obtain ⟨u, hv, hu⟩ := float_yields hp0 h r
    exact ⟨u, hv, fun w' _ => hu w'⟩
  have h1 := h (fun x => x = v) rfl
  unfold pureL at hp
  unfold pval at h1
  split at hp
  · rename_i t x i hop
    simp only [hop, ival] at h1
    split at h1
    · rename_i n e hk
      obtain ⟨k, m, hi, g1, g2, h1⟩ := idx_spec h1 (evo_V r i)
      obtain ⟨b, off, q, hp', hk', hq⟩ := addI_spec h1 (evo_V r x)
      obtain ⟨inf, d, z, tk⟩ := TOK.get hT (t := t) (.inr (by rw [hk]; simp))
      have kd := tk.kind
      rw [hk] at kd
      obtain ⟨rfl, he⟩ := kd
      obtain ⟨inf', d', z', tk'⟩ := TOK.get hT (t := e) (.inl he)
      have hc : 0 ≤ m ∧ m < (n : Int) := ⟨g1, g2⟩
      exact ⟨.pointer (some ⟨b, off + m.toNat * (Γ.T e).size, none⟩), hk' ▸ hq, fun w' _ => by simp [execOp, hop, Instr.indexAt, hi, asIntOf, run_underlying tk.und, hp', Instr.sureAddr, hc, run_sz tk'.msize, add_none]⟩
    · rename_i e oo e' n f hk hx
      obtain ⟨k, m, hi, g1, g2, h1⟩ := idx_spec h1 (evo_V r i)
      split at h1
      · rename_i he'
        have he' := (beq_iff _ _).1 he'
        obtain ⟨inf, d, z, tk⟩ := TOK.get hT (t := t) (.inr (by rw [hk]; simp))
        have kd := tk.kind
        rw [hk] at kd
        obtain ⟨rfl, he⟩ := kd
        obtain ⟨inf', d', z', tk'⟩ := TOK.get hT (t := e) (.inl he)
        have hv := evo_V r x
        rw [hx] at hv
        rcases hv.lst_inv with ⟨_, _, h0⟩ | ⟨b, off, c, g, hvx, hnc', hown, hl', hI', ho', hD⟩
        · omega
        · have hc : 0 ≤ m ∧ m < (n : Int) := ⟨g1, g2⟩
          exact ⟨.pointer (some ⟨b, off + m.toNat * (Γ.T e).size, none⟩), h1 ▸ (by rw [← he']; exact .data (.vptr e' n f m.toNat 0 b off g (by omega) hl' hI' ho' hD)), fun w' _ => by simp [execOp, hop, Instr.indexAt, hi, asIntOf, run_underlying tk.und, hvx, hc, run_sz tk'.msize, add_none]⟩
      · exact h1.elim
    · rename_i e d e' n _ _ hk hx
      obtain ⟨k, m, hi, g1, g2, h1⟩ := idx_spec h1 (evo_V r i)
      split at h1
      · rename_i he'
        have he' := (beq_iff _ _).1 he'
        obtain ⟨inf, d', z, tk⟩ := TOK.get hT (t := t) (.inr (by rw [hk]; simp))
        have kd := tk.kind
        rw [hk] at kd
        obtain ⟨rfl, he⟩ := kd
        obtain ⟨inf', d'', z', tk'⟩ := TOK.get hT (t := e) (.inl he)
        have hv := evo_V r x
        rw [hx] at hv
        obtain ⟨b, c, hvx, hb', hnc⟩ := hv.row_inv
        have hc : 0 ≤ m ∧ m < (n : Int) := ⟨g1, g2⟩
        refine ⟨.pointer (some ⟨b, 0 + m.toNat * (Γ.T e).size, none⟩), h1 ▸ (by rw [← he', Nat.zero_add]; exact .ptr 0 d _ b hb'), fun w' _ => by simp [execOp, hop, Instr.indexAt, hi, asIntOf, run_underlying tk.und, hvx, hc, run_sz tk'.msize, add_none]⟩
      · exact h1.elim
    · exact h1.elim
  · rename_i t x i hop
    simp only [hop, ival] at h1
    split at h1
    · rename_i fs hk
      split at h1
      · rename_i f hf
        obtain ⟨off, sz, ag⟩ := f
        rw [fieldAt_eq] at hf
        obtain ⟨inf, d, z, tk⟩ := TOK.get hT (t := t) (.inr (by rw [hk]; simp))
        have kd := tk.kind
        rw [hk] at kd
        obtain ⟨fields, rfl, hfl, hff⟩ := kd
        obtain ⟨f', g1, g2, g3, g4, g5, g6⟩ := hff i off sz ag hf
        obtain ⟨b, o', q, hp', hk', hq⟩ := addI_spec h1 (evo_V r x)
        have hz : ¬ sz = 0 := by omega
        exact ⟨.pointer (some ⟨b, o' + off, none⟩), hk' ▸ hq, fun w' _ => by simp [execOp, hop, Instr.fieldAt, run_underlying tk.und, g1, hp', Instr.sureAddr, fieldPlace, run_sz g3, hz, add_none, g2]⟩
      · exact h1.elim
    · exact h1.elim
  · rename_i op t x y t' hop
    obtain ⟨k, n, rfl⟩ := hb ⟨op, t, x, y, t', hop⟩
    simp only [hop, ival] at h1
    refine ⟨.int k n, .data (.int _ _), fun w' _ => ?_⟩
    have h1 : bin op (Γ.T t) (evo Γ S x) (evoB Γ S y) fun v => v = .int k n := by
      split at h1
      · obtain ⟨_, h1⟩ := tyK_iff.1 h1
        unfold nilB at h1
        split at h1 <;> first | exact h1.elim | cases h1
      · exact h1
    obtain ⟨iv, v', hk, hv, hr⟩ := bin_sound (P := Γ.P) (t := t) (w := w') h1 (evo_V r x) (evoB_V r y) (fun he => by
      rcases hT t with h1 | ⟨inf, d, z, tk⟩
      · rw [h1] at he; exact absurd rfl he
      · exact tk.eqs he) (fun hk b hz => by
      rcases hT t with h1 | ⟨inf, d, z, tk⟩
      · rw [h1] at hz; cases hz
      · rw [tk.und, tk.boo hk b hz]) (fun e hk => by
      rcases hT t with h1 | ⟨inf, d, z, tk⟩
      · rw [h1] at hk; cases hk
      · have := tk.kind
        rw [hk] at this
        rw [tk.und, this.1]) x y
    have hk : iv = .int k n := hk
    subst hk
    have := hv.int_inv
    subst this
    simp only [execOp, hop]
    rw [Sem.run_bind, hr]; rfl
  · rename_i t x hop
    simp only [hop, ival, fv_eq] at h1
    obtain ⟨h0, h1⟩ := tyK_spec h1
    obtain ⟨inf, dd, z, tk⟩ := TOK.get hT (t := t) (.inl (by omega))
    by_cases hvi : ∃ u, pinI v = some u
    rotate_left
    · rcases hl t x hop with ⟨d, off, hx, hm, hc2⟩ | ⟨_, _, h⟩
      rotate_left
      · obtain ⟨k, n, rfl⟩ := h
        exact absurd ⟨_, rfl⟩ hvi
      have hc2 := hc2.resolve_left hvi
      obtain ⟨g1, g2⟩ := heldI_spec hh d hm
      rw [hx] at h1
      simp only [loadI] at h1
      split at h1
      rotate_left
      · exact h1.elim
      rename_i c hc
      have hall := allInt_spec (hc2 c hc)
      have hvx := evo_V r x
      rw [hx] at hvx
      obtain ⟨b, hbx, hβ⟩ := hvx.ptr_inv
      have hvd := r.tm d
      rw [g2] at hvd
      obtain ⟨b', hb', hβ'⟩ := hvd.ptr_inv
      rw [hβ] at hβ'
      cases hβ'
      rw [ht d hm] at hb'
      obtain ⟨v', hv1, q1, q2, hv2⟩ := part1_sound (I := I) (β := β') (σ := σ' 0) (f := fun j => match c[j]? with | some (.int k n) => .int k n | _ => undef) h1
        (fun j hj => by
          obtain ⟨k, n, e⟩ := hall c[j] (List.getElem_mem hj)
          simp only [List.getElem?_eq_getElem hj, e]; rfl)
        (fun j y hy => by
          obtain ⟨k, n, rfl⟩ := hall y (List.mem_of_getElem? hy)
          simp only [hy]; exact .data (.int k n)) h0
      have hv1 : v' = v := hv1
      subst hv1
      refine ⟨_, hv2, fun w' hw' => ?_⟩
      have hlen : off + (Γ.T t).size ≤ c.length := by
        cases hag : (Γ.T t).agg with
        | true => exact q1 hag
        | false => have := tk.one hag; have := q2 hag; omega
      have := run_loadVar' (P := Γ.P) (f := fun j => match c[off + j]? with | some (.int k n) => .int k n | _ => undef) tk.msize tk.agg h0 (w := w') (b := b) (off := off) (fun j hj => by
        have hjl : off + j < c.length := by omega
        obtain ⟨k, n, e⟩ := hall c[off + j] (List.getElem_mem hjl)
        have hy : c[off + j]? = some (.int k n) := by rw [List.getElem?_eq_getElem hjl, e]
        simp only [hy]
        exact hS w' hw' d hm c (g1.symm.trans hc) (off + j) _ _ hy rfl b hb')
      simp [execOp, hop, Instr.loadAt, hbx, Instr.sureAddr, this]
    obtain ⟨u0, hu0⟩ := hvi
    rcases hl t x hop with ⟨d, off, hx, hm, _⟩ | ⟨hvp, ⟨e, m, f, i, j, hx⟩, hint⟩
    · obtain ⟨g1, g2⟩ := heldI_spec hh d hm
      rw [hx] at h1
      simp only [loadI] at h1
      split at h1
      rotate_left
      · exact h1.elim
      rename_i c hc
      have hvx := evo_V r x
      rw [hx] at hvx
      obtain ⟨b, hbx, hβ⟩ := hvx.ptr_inv
      have hvd := r.tm d
      rw [g2] at hvd
      obtain ⟨b', hb', hβ'⟩ := hvd.ptr_inv
      rw [hβ] at hβ'
      cases hβ'
      rw [ht d hm] at hb'
      cases hag : (Γ.T t).agg with
      | true =>
        rw [hag] at h1
        simp only [part1] at h1
        split at h1
        · have h1 : IV.agg _ = v := h1
          rw [← h1] at hu0; cases hu0
        · exact h1.elim
      | false =>
        rw [hag] at h1
        simp only [part1, nthI_eq] at h1
        split at h1
        rotate_left
        · exact h1.elim
        rename_i v' hv'
        have h1 : v' = v := h1
        subst h1
        have hsz := tk.one hag
        obtain ⟨b2, arr, el, q1, q2, q3, q4, q5, q6, q7⟩ := r.mem.cell 0 d c hc
        have hV := q5 off _ hv'
        have hue := hV.pin hu0
        rw [hue] at hV
        simp only [Nat.zero_add] at hV
        refine ⟨u0, hV, fun w' hw' => ?_⟩
        have hcell := hS w' hw' d hm c (g1.symm.trans hc) off _ _ hv' hu0 b hb'
        have := run_loadVar' (P := Γ.P) (f := fun _ => u0) tk.msize tk.agg h0 (w := w') (b := b) (off := off) (fun j hj => by
          have : j = 0 := by omega
          subst this
          simpa using hcell)
        simp [execOp, hop, Instr.loadAt, hbx, Instr.sureAddr, this, hag]
    · obtain ⟨k, n, rfl⟩ := hint
      refine ⟨.int k n, .data (.int _ _), fun w' hw' => ?_⟩
      rw [hx] at h1
      simp only [loadI] at h1
      have hvx := evo_V r x
      rw [hx] at hvx
      obtain ⟨b, off, g, hbx, hi, hl', hIc, ho', hD⟩ := hvx.vptr_inv
      cases hag : (Γ.T t).agg with
      | true =>
        rw [hag] at h1
        simp only [part1] at h1
        split at h1
        · cases h1
        · exact h1.elim
      | false =>
        rw [hag] at h1
        simp only [part1, nthI_eq] at h1
        split at h1
        · rename_i v' hv'
          have h1 : v' = .int k n := h1
          subst h1
          have hsz := tk.one hag
          have hje : j < e := by rw [← hl' i hi]; exact (List.getElem?_eq_some_iff.1 hv').1
          have hg : g i j = .int k n := (V.data (β := β') (σ := σ' 0) (hD i j _ hi hv')).int_inv
          have hcell := hI hvp w' hw' _ _ (hIc i j hi hje)
          rw [hg, hcell_none] at hcell
          have := run_loadVar' (P := Γ.P) (f := fun _ => .int k n) tk.msize tk.agg h0 (w := w') (b := b) (off := off + i * e + j) (fun j' hj => by
            have : j' = 0 := by omega
            subst this
            simpa using hcell)
          simp [execOp, hop, Instr.loadAt, hbx, Instr.sureAddr, this, hag]
        · exact h1.elim
  · exact absurd hp hp0
theorem tail_anyH (hT : TOK Γ.P Γ.T) (hC : HC C Γ) {fl : Option (List Nat)} (k : DOK ops p fl) {hd : List Nat} {a0 : Act} (hnw : ∀ d ∈ hd, ∀ (i : Nat) o, ops[i]? = some o → o.dst ≠ some d) (hQ : ∀ a' w', Aft Γ K I X w β σ a' w' → Q .normal a' w') :
    ∀ (fuel n : Nat) (listed : Array Bool) (S' : St) (a' : Act) (w' : World) (I' : Imm) (β' : Beta) (σ' : Nat → Sig), listed.size = ops.size → p ≤ n → n ≤ ops.size → (∀ j, j < n → Lof listed j = true) → (∀ j, n ≤ j → Lof listed j = false) →
      cntF (Lof listed) ops.size ≤ fuel → (∀ d ∈ hd, a'.tmps.getD d undef = a0.tmps.getD d undef) → iopsH C Γ ops.toList (heldI S0 hd) (ops.toList.drop n) K S' → Rel Γ S' a' w' I' X β' σ' → Ext I X w I' w' → Above β β' σ σ' → wpAnyH Γ.P .any ops Q (HeldX hd S0 a0 I) fuel listed a' w' := by
  intro fuel
  induction fuel with
  | zero =>
    intro n listed S' a' w' I' β' σ' hsz hp hn hl1 hl2 hc hat h r he ha
    have hnn : n = ops.size := by
      rcases Nat.lt_or_ge n ops.size with h' | h'
      · have := cntF_pos (hl2 n (Nat.le_refl _)) h'; omega
      · omega
    subst hnn
    have hdr : ops.toList.drop ops.size = [] := List.drop_eq_nil_of_le (by simp)
    rw [hdr] at h
    refine ⟨?_, hQ _ _ ⟨S', I', β', σ', h, r, he, ha⟩⟩
    cases hr : Region.ready .any ops listed with
    | nil => rfl
    | cons i l =>
      have : i ∈ Region.ready .any ops listed := by rw [hr]; simp
      rw [ready_spec hsz] at this
      obtain ⟨h1, o, ho, _⟩ := this
      rw [hl1 i (Array.getElem?_eq_some_iff.1 ho).1] at h1; cases h1
  | succ fuel ih =>
    intro n listed S' a' w' I' β' σ' hsz hp hn hl1 hl2 hc hat h r he ha
    rcases Nat.lt_or_ge n ops.size with hlt | hge
    · have hmem : n ∈ Region.ready .any ops listed := ready_first k hsz hlt (hl2 n (Nat.le_refl _)) hl1
      refine ⟨fun e => (by rw [e] at hmem; cases hmem), fun i hi => ?_⟩
      rw [ready_spec hsz] at hi
      obtain ⟨h1, o, ho, h2⟩ := hi
      have hin : i = n := by
        rcases Nat.lt_trichotomy i n with h' | h' | h'
        · rw [hl1 i h'] at h1; cases h1
        · exact h'
        · have := k.suf i o ho (by omega) (Lof listed) (fun i' o' ho' hl' j hb => hl1 j (by
            have hlt' := bindOn_lt k ho' hb
            rcases Nat.lt_or_ge i' n with h9 | h9
            · omega
            · rw [hl2 i' h9] at hl'; cases hl')) h2 n h'
          rcases this with this | this
          · rw [hl2 n (Nat.le_refl _)] at this; cases this
          · have := (floatB_spec (show ops[n]? = some ops[n] by simp [hlt]) this).1
            omega
      subst hin
      have hdrop : ops.toList.drop i = o :: ops.toList.drop (i + 1) := by
        have hi' : i < ops.toList.length := by simpa using hlt
        rw [List.drop_eq_getElem_cons hi']
        congr 1
        have := (Array.getElem?_eq_some_iff.1 ho).2
        simpa using this
      rw [hdrop] at h
      simp only [iopsH] at h
      rw [iops_cons] at h
      have h1' := iop1_sound hT hC (ops := ops) o h r Q
      have next : ∀ a2 w2, Aft Γ (fun S' => HOLD (heldI S0 hd S') (iopsH C Γ ops.toList (heldI S0 hd) (ops.toList.drop (i + 1)) K S')) I' X w' β' σ' a2 w2 → (∀ t, o.dst ≠ some t → a2.tmps.getD t undef = a'.tmps.getD t undef) →
          HeldX hd S0 a0 I w2 ∧ wpAnyH Γ.P .any ops Q (HeldX hd S0 a0 I) fuel (listed.setIfInBounds i true) a2 w2 := by
        rintro a2 w2 ⟨S2, I2, β2, σ2, k1, k2, k3, k4⟩ hta
        obtain ⟨k0, k1⟩ := k1
        have hat2 : ∀ d ∈ hd, a2.tmps.getD d undef = a0.tmps.getD d undef := fun d hm => (hta d (hnw d hm i o ho)).trans (hat d hm)
        have hset := Lof_set (listed := listed) (i := i) (by omega)
        refine ⟨⟨held_of k2 k0 hat2, fun x u hx => k2.mem.im _ _ ((he.trans k3).imm _ _ hx)⟩, ih (i + 1) _ S2 a2 w2 I2 β2 σ2 (by simpa using hsz) (by omega) hlt (fun j hj => ?_) (fun j hj => ?_) ?_ hat2 k1 k2 (he.trans k3) (ha.trans k4)⟩
        · rw [hset]; unfold setF; split
          · rfl
          · exact hl1 j (by omega)
        · rw [hset]; unfold setF; split
          · omega
          · exact hl2 j (by omega)
        · rw [hset]
          have := cntF_set h1 hlt; omega
      refine wpOp_mono (fun a2 w2 q => next a2 w2 q.1 q.2) (wpOp_put' ho (K := fun a2 w2 => Aft Γ (fun S' => HOLD (heldI S0 hd S') (iopsH C Γ ops.toList (heldI S0 hd) (ops.toList.drop (i + 1)) K S')) I' X w' β' σ' a2 w2) ?_)
      unfold wpOp
      simp only [ho]
      split
      · rename_i hw
        rw [if_pos hw] at h1'
        exact .inl h1'
      · rename_i hw
        rw [if_neg hw] at h1'
        exact h1'
    · have hnn : n = ops.size := by omega
      subst hnn
      have hdr : ops.toList.drop ops.size = [] := List.drop_eq_nil_of_le (by simp)
      rw [hdr] at h
      refine ⟨fun _ => hQ _ _ ⟨S', I', β', σ', h, r, he, ha⟩, fun i hi => ?_⟩
      rw [ready_spec hsz] at hi
      obtain ⟨h1, o, ho, _⟩ := hi
      rw [hl1 i (Array.getElem?_eq_some_iff.1 ho).1] at h1; cases h1
theorem isInH_spec {d : Nat} : ∀ (l : List Nat), floatsOK.isInH l d = true → d ∈ l
  | [], h => by cases h
  | y :: r, h => by
    simp only [floatsOK.isInH, Bool.or_eq_true] at h
    rcases h with h | h
    · rw [(beq_iff _ _).1 h]; simp
    · exact List.mem_cons_of_mem _ (isInH_spec r h)
theorem floatsOK_spec {S : St} {all : List Oper} {hd : List Nat} {vp : Bool} : ∀ {l : List Nat}, floatsOK Γ S all hd vp l = true → ∀ j ∈ l, ∃ o, all[j]? = some o ∧
    (∀ t x, o.op = .load t x → (∃ d off, evo Γ S x = .ptr 0 d off ∧ d ∈ hd ∧ (isPinAt S o.dst = true ∨ allIntC S d = true)) ∨ (vp = true ∧ (∃ e n f i j, evo Γ S x = .vptr e n f i j) ∧ isIntAt S o.dst = true)) ∧
    (∀ op t x y t', o.op = .binOp op t x y t' → isIntAt S o.dst = true)
  | [], _, j, hj => by cases hj
  | x :: r, h, j, hj => by
    simp only [floatsOK, Bool.and_eq_true, nthO_eq] at h
    obtain ⟨h1, h2⟩ := h
    rcases List.mem_cons.1 hj with rfl | hj
    · split at h1
      · rename_i o ho
        refine ⟨o, ho, fun t x hop => ?_, fun op t x y t' hop => ?_⟩
        · simp only [hop] at h1
          split at h1
          · rename_i d off hx
            simp only [Bool.and_eq_true, Bool.or_eq_true] at h1
            exact .inl ⟨d, off, hx, isInH_spec hd h1.1, h1.2⟩
          · rename_i e n f i j hx
            simp only [Bool.and_eq_true] at h1
            exact .inr ⟨h1.1, ⟨e, n, f, i, j, hx⟩, h1.2⟩
          · cases h1
        · simpa [hop] using h1
      · cases h1
    · exact floatsOK_spec h2 j hj
theorem isIntAt_spec {S : St} {d : Nat} (h : isIntAt S (some d) = true) : ∃ k n, look S.tm d = .int k n := by
  unfold isIntAt at h
  simp only at h
  split at h
  · rename_i k n hx; exact ⟨k, n, hx⟩
  · cases h
theorem float_at (hT : TOK Γ.P Γ.T) {fl : Option (List Nat)} (k : DOK ops p fl) {hd : List Nat} {a0 a' : Act} {w' : World} {I' : Imm} {β' : Beta} {σ' : Nat → Sig} {bl : Nat → Nat} {ℓ : Nat → Bool}
    (hsp : ∀ i, i < p → sp i = false) (hf : ∀ (j : Nat) o, j < p → ops[j]? = some o → Fact sp C Γ ops.toList cr S0 val act j o) {Se : St} (hse : Is S0 ops.toList val p Se) {vp : Bool} {l : List Nat} (hfo : floatsOK Γ Se ops.toList hd vp l = true)
    (hsome : heldI S0 hd (some' S0 ops val p ℓ)) (hat : ∀ d ∈ hd, a'.tmps.getD d undef = a0.tmps.getD d undef) {Sw : World → Prop} (hS : ∀ w', Sw w' → Held hd S0 a0 w') (hI : vp = true → ∀ w', Sw w' → ∀ x u, I' x = some u → hcell w' x = some u)
    (v : Inv Γ ops p S0 val w I X β σ ℓ a' w' I' β' σ' bl) (hdc : DC ops ℓ) {i : Nat} {o : Oper} (hil : i ∈ l) (hip : i < p) (ho : ops[i]? = some o) (g2 : ∀ j, bindOn o j = true → ℓ j = true) (hpure : pureL o = true) (hgn : o.guard = none) :
    ∃ u, V I' β' (σ' 0) (val i) u ∧ ∀ w', Sw w' → (execOp a'.eval o).run Γ.P w' = .ok (.value u) w' := by
  have F := hf i o hip ho
  have hact : act i = true := by have g := F.guard; rw [hgn] at g; exact g
  have hag : ∀ t ∈ looks ops.toList o, look (some' S0 ops val p ℓ).tm t = look (lex S0 ops.toList val i).tm t := fun t ht => look_agree k hdc ho hip g2 ht
  have halike : Alike (opTs o.op.operands.toList) (lex S0 ops.toList val i) (some' S0 ops val p ℓ) := ⟨fun t ht => (hag t (by simp only [looks, List.mem_append]; exact .inl ht)).symm, rfl, rfl⟩
  have n1 : ∀ t, o.op ≠ .alloc t := fun t e => by simp [pureL, pureO, e] at hpure
  have n2 : ∀ t x, o.op ≠ .box t x := fun t x e => by simp [pureL, pureO, e] at hpure
  have n3 : ∀ t y x, o.op ≠ .store t y x := fun t y x e => by simp [pureL, pureO, e] at hpure
  have n4 : mapO ops.toList o = false := by
    unfold mapO
    split <;> first | rfl | (rename_i e; simp [pureL, pureO, e] at hpure)
  obtain ⟨hpv, _⟩ := F.other hact n1 n2 n3 n4
  obtain ⟨o2, ho2, hL, hB⟩ := floatsOK_spec hfo i hil
  have hoo : o2 = o := by
    have : ops.toList[i]? = some o := by simpa using ho
    rw [this] at ho2; exact (Option.some.inj ho2).symm
  subst hoo
  have hval : ∀ d, o2.dst = some d → look Se.tm d = val i := fun d hd' => by
    rw [hse.tm d]
    simp only [lex]
    exact look_tmL_some (fun j hj hjd => k.dst j i d hj hip hjd (by rw [dst_of ho]; exact hd')) hip rfl (by rw [dst_of ho]; exact hd')
  have hint : isIntAt Se o2.dst = true → ∃ k n, val i = .int k n := fun q => by
    cases hd' : o2.dst with
    | none => rw [hd'] at q; cases q
    | some d =>
      rw [hd'] at q
      obtain ⟨k', n', e⟩ := isIntAt_spec q
      exact ⟨k', n', (hval d hd').symm.trans e⟩
  have hpin : isPinAt Se o2.dst = true → ∃ u, pinI (val i) = some u := fun q => by
    cases hd' : o2.dst with
    | none => rw [hd'] at q; cases q
    | some d =>
      rw [hd'] at q
      have e := hval d hd'
      unfold isPinAt at q
      simp only at q
      split at q
      · rename_i hx; rw [hx] at e; rw [← e]; exact ⟨_, rfl⟩
      · rename_i hx; rw [hx] at e; rw [← e]; exact ⟨_, rfl⟩
      · cases q
  have hsame : ∀ x, x ∈ o2.op.operands.toList → evo Γ (some' S0 ops val p ℓ) x = evo Γ Se x := fun x hx => by
    cases x with
    | tmp t' =>
      have ht' : t' ∈ looks ops.toList o2 := by simp only [looks, List.mem_append]; exact .inl (mem_opTs hx (by simp [opT]))
      show look (some' S0 ops val p ℓ).tm t' = look Se.tm t'
      rw [hag t' ht', hse.tm t']
      simp only [lex]
      by_cases hex : ∃ j, j < p ∧ dstOf ops.toList j = some t'
      · obtain ⟨j, hj, hjd⟩ := hex
        have hji := (k.look i o2 ho hip t' ht' j hj hjd).1
        rw [look_tmL_some (i := j) (fun j' hj' hjd' => k.dst j' j t' (by omega) hj hjd' hjd) hji rfl hjd, look_tmL_some (i := j) (fun j' hj' hjd' => k.dst j' j t' hj' hj hjd' hjd) hj rfl hjd]
      · rw [look_tmL_none fun j hj _ e => hex ⟨j, by omega, e⟩, look_tmL_none fun j hj _ e => hex ⟨j, hj, e⟩]
    | const c => rfl
    | global g => rfl
    | func f => rfl
  exact float_yieldsH (S0 := S0) (a0 := a0) hT hpure (fun K hk => pval_alike halike (hpv (hsp i hip) K hk)) v.rel hS hI
    (fun t x hop => by
      have hx : x ∈ o2.op.operands.toList := by simp [hop, Op.operands]
      rcases hL t x hop with ⟨d, off, h, hm, hq⟩ | ⟨h0, ⟨e, n, f, i', j', h⟩, hq⟩
      · refine .inl ⟨d, off, (hsame x hx).trans h, hm, ?_⟩
        rcases hq with hq | hq
        · exact .inl (hpin hq)
        · refine .inr fun c hc => ?_
          unfold allIntC at hq
          have hce : Se.ce = S0.ce := hse.ce
          rw [hce] at hq
          have hc : lookC S0.ce d = some c := hc
          rw [hc] at hq
          exact hq
      · exact .inr ⟨h0, ⟨e, n, f, i', j', (hsame x hx).trans h⟩, hint hq⟩)
    (fun q => by
      obtain ⟨op, t, x, y, t', hop⟩ := q
      exact hint (hB op t x y t' hop))
    hsome hat
theorem front_anyH (hT : TOK Γ.P Γ.T) (hC : HC C Γ) {rl l : List Nat} (k : DOK ops p (some (rl ++ l))) {hd : List Nat} {a0 : Act} (hnw : ∀ d ∈ hd, ∀ (i : Nat) o, ops[i]? = some o → o.dst ≠ some d) (hh0 : heldI S0 hd S0)
    (hsp : ∀ i, i < p → sp i = false) (hf : ∀ (j : Nat) o, j < p → ops[j]? = some o → Fact sp C Γ ops.toList cr S0 val act j o) (hnt : noTags cr S0) (hcr : ∀ (i : Nat) o d, i < p → ops[i]? = some o → creates o = true → o.dst = some d → d ∈ cr)
    {Se : St} (hse : Is S0 ops.toList val p Se) (hfo : floatsOK Γ Se ops.toList hd false l = true) (hk : adopt Γ (ops.toList.take p) (ops.toList.take p) (iopsH C Γ ops.toList (heldI S0 hd) (ops.toList.drop p) K) Se)
    (hQ : ∀ a' w', Aft Γ K I X w β σ a' w' → Q .normal a' w') (hP : ∀ c a' w', ¬ Q (.panic c) a' w') :
    ∀ (fuel : Nat) (listed : Array Bool) (a' : Act) (w' : World) (I' : Imm) (β' : Beta) (σ' : Nat → Sig) (bl : Nat → Nat), listed.size = ops.size → (∀ j, p ≤ j → Lof listed j = false) → cntF (Lof listed) ops.size ≤ fuel → DC ops (Lof listed) → (∀ j ∈ rl, Lof listed j = true) →
      (∀ d ∈ hd, a'.tmps.getD d undef = a0.tmps.getD d undef) → Inv Γ ops p S0 val w I X β σ (Lof listed) a' w' I' β' σ' bl → wpAnyH Γ.P .any ops Q (HeldX hd S0 a0 I) fuel listed a' w' := by
  have hsome : ∀ (ℓ : Nat → Bool), heldI S0 hd (some' S0 ops val p ℓ) := fun ℓ => heldI_of fun d hm => by
    refine ⟨rfl, ?_⟩
    simp only [some']
    rw [look_tmL_none]
    · exact (heldI_spec hh0 d hm).2
    · intro i _ _ e
      rw [dstOf_eq] at e
      cases ho : ops[i]? with
      | none => have : ops.toList[i]? = none := by simpa using ho
                simp [this] at e
      | some o =>
        have ho' : ops.toList[i]? = some o := by simpa using ho
        exact hnw d hm i o ho (by simpa [ho'] using e)
  have whole : ∀ (fuel : Nat) (listed : Array Bool) (a' : Act) (w' : World) (I' : Imm) (β' : Beta) (σ' : Nat → Sig) (bl : Nat → Nat), listed.size = ops.size → (∀ j, p ≤ j → Lof listed j = false) → cntF (Lof listed) ops.size ≤ fuel →
      (∀ d ∈ hd, a'.tmps.getD d undef = a0.tmps.getD d undef) → Inv Γ ops p S0 val w I X β σ (Lof listed) a' w' I' β' σ' bl → (∀ j, j < p → Lof listed j = true) → wpAnyH Γ.P .any ops Q (HeldX hd S0 a0 I) fuel listed a' w' := by
    intro fuel listed a' w' I' β' σ' bl hsz hl2 hc hat v hall
    have r1 : Rel Γ Se a' w' I' (fun b => X b ∨ ∃ j, 0 ≤ j ∧ j < p ∧ MkAt ops j ∧ bl j = b) β' σ' := by
      refine (v.rel.congr (fun t => ?_) hse.ce hse.up).sub fun b hb => ?_
      · rw [hse.tm t]
        simp only [lex, some']
        congr 1
        have : ∀ n, n ≤ p → tmL S0.tm (dstOf ops.toList) val (fun _ => true) n = tmL S0.tm (dstOf ops.toList) val (Lof listed) n := by
          intro n
          induction n with
          | zero => intro _; rfl
          | succ n ih => intro hn; simp only [tmL]; rw [ih (by omega), hall n (by omega)]
        exact this p (Nat.le_refl _)
      · rcases hb with hb | ⟨j, _, h2, h3, h4⟩
        · exact .inl hb
        · exact .inr ⟨j, h2, hall j h2, h3, h4⟩
    obtain ⟨S', β2, g1, g2, g3⟩ := adopt_all hT k v hall (ops.toList.take p) 0 Se β' (fun j => by simp) (.refl _ _) r1 hk
    exact tail_anyH hT hC k hnw hQ fuel p listed S' a' w' I' β2 σ' hsz (Nat.le_refl _) k.le hall hl2 hc hat g1 g2 v.ext (v.abv.trans g3)
  intro fuel
  induction fuel with
  | zero =>
    intro listed a' w' I' β' σ' bl hsz hl2 hc hdc hrl hat v
    refine whole 0 listed a' w' I' β' σ' bl hsz hl2 hc hat v fun j hj => ?_
    cases hj' : Lof listed j with
    | true => rfl
    | false => have := cntF_pos hj' (n := ops.size) (by have := k.le; omega); omega
  | succ fuel ih =>
    intro listed a' w' I' β' σ' bl hsz hl2 hc hdc hrl hat v
    have hS : HeldX hd S0 a0 I w' := ⟨held_of v.rel (hsome _) hat, fun x u hx => v.rel.mem.im _ _ (v.ext.imm _ _ hx)⟩
    by_cases hfl : ∃ i o, i < p ∧ Lof listed i = false ∧ ops[i]? = some o ∧ (∀ j, bindOn o j = true → Lof listed j = true) ∧ floatB (some (rl ++ l)) ops.toList p i = true
    · obtain ⟨i, o, hip, g1, ho, g2, hfB⟩ := hfl
      obtain ⟨_, hpure, hgn, hap⟩ := floatB_spec ho hfB
      simp only [floats, Bool.and_eq_true] at hpure
      obtain ⟨hil, hpure⟩ := hpure
      have hil : i ∈ l := by
        rcases List.mem_append.1 (by simpa using hil : i ∈ rl ++ l) with h | h
        · rw [hrl i h] at g1; cases g1
        · exact h
      have hready : i ∈ Region.ready .any ops listed := by rw [ready_spec hsz]; exact ⟨g1, o, ho, g2⟩
      have his : i < ops.size := (Array.getElem?_eq_some_iff.1 ho).1
      obtain ⟨u, _, hu⟩ := float_at (Sw := HeldX hd S0 a0 I) (vp := false) hT k hsp hf hse hfo (hsome _) hat (fun w' h => h.1) (fun h => by cases h) v hdc hil hip ho g2 hpure hgn
      have st := front_step hT hC k hf hnt hcr hdc (hsp i hip) ho hip g1 g2 v (fun _ _ _ => False)
      have st := wpOp_put' ho st
      unfold wpOp at st
      simp only [ho] at st
      have hw : Region.wanted o (yielded ops a'.tmps) = true := by simp [Region.wanted, hgn]
      rw [if_pos hw] at st
      rcases st with st | ⟨_, h⟩
      rotate_left
      · obtain ⟨_, _, h⟩ := h
        exact h.elim
      unfold Oper.wp at st
      rw [hu w' hS, Oper.upon_value] at st
      obtain ⟨⟨I2, β2, σ2, bl2, v2⟩, hta⟩ := st
      have hset := Lof_set (listed := listed) (i := i) (by omega)
      refine wpAnyH_first ho (fun j y cs b hy => k.ns j y cs b hy) (fun c a w h => (hP _ _ _ h).elim) fuel listed a' w' (fun j oj hj hji hlj hno => ?_) hready (.inl ⟨by simp [Region.wanted, hgn], hu⟩) hS ?_
      · rcases hap j oj hj hji with h | h | h
        · unfold bindOn at h
          rw [List.any_eq_true] at h
          obtain ⟨e, he, hb⟩ := h
          simp only [Bool.and_eq_true] at hb
          exact absurd ((beq_iff _ _).1 hb.2) (hno e (by simpa using he) hb.1)
        · have hLj := g2 j h
          have hjs : j < listed.size := by rw [hsz]; exact (Array.getElem?_eq_some_iff.1 hj).1
          simp only [Lof, Array.getD_eq_getD_getElem?, Array.getElem?_eq_getElem hjs, Option.getD_some] at hLj hlj
          rw [hLj] at hlj; cases hlj
        · exact h
      · refine ih _ _ w' I2 β2 σ2 bl2 (by simpa using hsz) (fun j hj => ?_) ?_ ?_ ?_ (fun d hm => (hta d (hnw d hm i o ho)).trans (hat d hm)) (by rw [hset]; exact v2)
        · rw [hset]; unfold setF; split
          · omega
          · exact hl2 j hj
        · rw [hset]; have := cntF_set g1 his; omega
        · rw [hset]; exact hdc.upd ho g2
        · intro j hj; rw [hset]; unfold setF; split
          · rfl
          · exact hrl j hj
    by_cases hx : ∃ i, i < p ∧ Lof listed i = false
    · obtain ⟨i0, hi0, hf0⟩ := hx
      obtain ⟨i1, h1, h2, h3⟩ := first_false i0 hf0
      have hmem : i1 ∈ Region.ready .any ops listed := ready_first k hsz (by have := k.le; omega) h2 h3
      refine ⟨fun e => (by rw [e] at hmem; cases hmem), fun i hi => ?_⟩
      rw [ready_spec hsz] at hi
      obtain ⟨g1, o, ho, g2⟩ := hi
      have his : i < ops.size := (Array.getElem?_eq_some_iff.1 ho).1
      have hip : i < p := by
        rcases Nat.lt_or_ge i p with h' | h'
        · exact h'
        · have hi1 : i1 < ops.size := by have := k.le; omega
          rcases k.suf i o ho h' (Lof listed) hdc g2 i1 (by omega) with this | this
          · rw [h2] at this; cases this
          · exact absurd ⟨i1, ops[i1], by omega, h2, by simp [hi1], fun j hj => h3 j (bindOn_lt k (by simp [hi1]) hj), this⟩ hfl
      refine wpOp_mono ?_ (wpOp_put' ho (front_step hT hC k hf hnt hcr hdc (hsp i hip) ho hip g1 g2 v Q))
      rintro a2 w2 ⟨⟨I2, β2, σ2, bl2, v2⟩, hta⟩
      have hset := Lof_set (listed := listed) (i := i) (by omega)
      have hat2 : ∀ d ∈ hd, a2.tmps.getD d undef = a0.tmps.getD d undef := fun d hm => (hta d (hnw d hm i o ho)).trans (hat d hm)
      refine ⟨⟨held_of v2.rel (hsome _) hat2, fun x u hx => v2.rel.mem.im _ _ (v2.ext.imm _ _ hx)⟩, ih _ a2 w2 I2 β2 σ2 bl2 (by simpa using hsz) (fun j hj => ?_) ?_ ?_ ?_ hat2 (by rw [hset]; exact v2)⟩
      · rw [hset]; unfold setF; split
        · omega
        · exact hl2 j hj
      · rw [hset]; have := cntF_set g1 his; omega
      · rw [hset]; exact hdc.upd ho g2
      · intro j hj; rw [hset]; unfold setF; split
        · rfl
        · exact hrl j hj
    · refine whole (fuel + 1) listed a' w' I' β' σ' bl hsz hl2 hc hat v fun j hj => ?_
      cases hj' : Lof listed j with
      | true => rfl
      | false => exact absurd ⟨j, hj, hj'⟩ hx
theorem roots_anyH (hT : TOK Γ.P Γ.T) (hC : HC C Γ) {rl l : List Nat} (k : DOK ops p (some (rl ++ l))) {hd : List Nat} {a0 : Act} (hnw : ∀ d ∈ hd, ∀ (i : Nat) o, ops[i]? = some o → o.dst ≠ some d) (hh0 : heldI S0 hd S0)
    (hsp : ∀ i, i < p → sp i = false) (hf : ∀ (j : Nat) o, j < p → ops[j]? = some o → Fact sp C Γ ops.toList cr S0 val act j o) (hnt : noTags cr S0) (hcr : ∀ (i : Nat) o d, i < p → ops[i]? = some o → creates o = true → o.dst = some d → d ∈ cr)
    {Se : St} (hse : Is S0 ops.toList val p Se) (hfr : floatsOK Γ Se ops.toList hd true rl = true) (hfo : floatsOK Γ Se ops.toList hd false l = true) (hk : adopt Γ (ops.toList.take p) (ops.toList.take p) (iopsH C Γ ops.toList (heldI S0 hd) (ops.toList.drop p) K) Se)
    (hQ : ∀ a' w', Aft Γ K I X w β σ a' w' → Q .normal a' w') (hP : ∀ c a' w', ¬ Q (.panic c) a' w') :
    ∀ (todo dn : List Nat) (fuel : Nat) (listed : Array Bool) (a' : Act) (β' : Beta) (σ' : Nat → Sig) (bl : Nat → Nat), rootsB (some (rl ++ l)) ops.toList p dn todo = true → (∀ j ∈ todo, j ∈ rl) → (∀ j ∈ rl, j ∈ todo ∨ j ∈ dn) → (∀ j, Lof listed j = true ↔ j ∈ dn) → listed.size = ops.size → (∀ j, p ≤ j → Lof listed j = false) → cntF (Lof listed) ops.size ≤ fuel → DC ops (Lof listed) →
      (∀ d ∈ hd, a'.tmps.getD d undef = a0.tmps.getD d undef) → Inv Γ ops p S0 val w I X β σ (Lof listed) a' w I β' σ' bl → wpAnyH Γ.P .any ops Q (HeldX hd S0 a0 I) fuel listed a' w
  | [], dn, fuel, listed, a', β', σ', bl, _, _, hall, hdn, hsz, hl2, hc, hdc, hat, v =>
    front_anyH hT hC k hnw hh0 hsp hf hnt hcr hse hfo hk hQ hP fuel listed a' w I β' σ' bl hsz hl2 hc hdc (fun j hj => (hdn j).2 (by rcases hall j hj with h | h; cases h; exact h)) hat v
  | i :: r, dn, fuel, listed, a', β', σ', bl, hB, htodo, hall, hdn, hsz, hl2, hc, hdc, hat, v => by
    simp only [rootsB, Bool.and_eq_true, nthO_eq] at hB
    obtain ⟨⟨⟨b1, b2⟩, b3⟩, b4⟩ := hB
    split at b3
    rotate_left
    · cases b3
    rename_i o ho'
    have ho : ops[i]? = some o := by simpa using ho'
    have his : i < ops.size := (Array.getElem?_eq_some_iff.1 ho).1
    obtain ⟨hip, hpure, hgn, hap⟩ := floatB_spec ho b2
    simp only [floats, Bool.and_eq_true] at hpure
    have g1 : Lof listed i = false := by
      cases h : Lof listed i with
      | false => rfl
      | true =>
        have := (hdn i).1 h
        simp [this] at b1
    have g2 : ∀ j, bindOn o j = true → Lof listed j = true := fun j hj => by
      have hji := bindOn_lt k ho hj
      have := upTo_spec b3 j (by simp; omega)
      rw [hj] at this
      exact (hdn j).2 (by simpa using this)
    obtain ⟨fuel, rfl⟩ : ∃ f, fuel = f + 1 := ⟨fuel - 1, by have := cntF_pos g1 his; omega⟩
    have hsome : ∀ (ℓ : Nat → Bool), heldI S0 hd (some' S0 ops val p ℓ) := fun ℓ => heldI_of fun d hm => by
      refine ⟨rfl, ?_⟩
      simp only [some']
      rw [look_tmL_none]
      · exact (heldI_spec hh0 d hm).2
      · intro i _ _ e
        rw [dstOf_eq] at e
        cases ho : ops[i]? with
        | none => have : ops.toList[i]? = none := by simpa using ho
                  simp [this] at e
        | some o =>
          have ho' : ops.toList[i]? = some o := by simpa using ho
          exact hnw d hm i o ho (by simpa [ho'] using e)
    have hS : HeldX hd S0 a0 I w := ⟨held_of v.rel (hsome _) hat, fun x u hx => v.rel.mem.im _ _ hx⟩
    obtain ⟨u, hv, hu⟩ := float_at (Sw := HeldX hd S0 a0 I) (vp := true) hT k hsp hf hse hfr (hsome _) hat (fun w' h => h.1) (fun _ w' h => h.2) v hdc (htodo i (by simp)) hip ho g2 hpure.2 hgn
    have hready : i ∈ Region.ready .any ops listed := by rw [ready_spec hsz]; exact ⟨g1, o, ho, g2⟩
    have F := hf i o hip ho
    have hput : ∀ t, o.dst ≠ some t → (a'.put o.dst u).tmps.getD t undef = a'.tmps.getD t undef := fun t ht => by
      cases hd : o.dst with
      | none => rfl
      | some d =>
        have hne : d ≠ t := fun e => ht (by rw [hd, e])
        simp only [Act.put, Array.getD_eq_getD_getElem?]
        rw [Array.getElem?_setIfInBounds_ne hne]
    have hmk : ¬ Mk o := fun e => by
      rcases e with ⟨t, e⟩ | ⟨t, x, e⟩ <;> simp [pureL, pureO, e] at hpure
    have hns : ∀ t y x, o.op ≠ .store t y x := fun t y x e => by simp [pureL, pureO, e] at hpure
    have hmm : ¬ MkM o := fun ⟨t, r, e⟩ => by simp [pureL, pureO, e] at hpure
    have hni : ∀ t m ky x, o.op ≠ .insert t m ky x := fun t m ky x e => by simp [pureL, pureO, e] at hpure
    have v2 : Inv Γ ops p S0 val w I X β σ (setF (Lof listed) i true) (a'.put o.dst u) w I β' σ' bl := by
      refine v.quiet k hdc ho hip g1 hmk hmm hns hni (fun x e h1 _ h3 => ?_) ?_ (.refl _ _ _) (.refl _ _) hput
      · have h5 := hu w hS
        simp [execOp, h1] at h5
        rw [h3, ← h5]
        have hne := Nat.lt_of_lt_of_le (F.nt e h3) v.rel.nt
        simp [Act.put, hne, Act.eval]
      cases hd : o.dst with
      | none => exact v.rel
      | some d => exact v.rel.put (F.nt d hd) hv
    have hset := Lof_set (listed := listed) (i := i) (by omega)
    refine wpAnyH_first ho (fun j y cs b hy => k.ns j y cs b hy) (fun c a w h => (hP _ _ _ h).elim) fuel listed a' w (fun j oj hj hji hlj hno => ?_) hready (.inl ⟨by simp [Region.wanted, hgn], hu⟩) hS ?_
    · rcases hap j oj hj hji with h | h | h
      · unfold bindOn at h
        rw [List.any_eq_true] at h
        obtain ⟨e, he, hb⟩ := h
        simp only [Bool.and_eq_true] at hb
        exact absurd ((beq_iff _ _).1 hb.2) (hno e (by simpa using he) hb.1)
      · have hLj := g2 j h
        have hjs : j < listed.size := by rw [hsz]; exact (Array.getElem?_eq_some_iff.1 hj).1
        simp only [Lof, Array.getD_eq_getD_getElem?, Array.getElem?_eq_getElem hjs, Option.getD_some] at hLj hlj
        rw [hLj] at hlj; cases hlj
      · exact h
    · refine roots_anyH hT hC k hnw hh0 hsp hf hnt hcr hse hfr hfo hk hQ hP r (i :: dn) fuel _ _ β' σ' bl b4 (fun j hj => htodo j (by simp [hj])) (fun j hj => ?_) (fun j => ?_) (by simpa using hsz) (fun j hj => ?_) ?_ ?_ (fun d hm => (hput d (hnw d hm i o ho)).trans (hat d hm)) (by rw [hset]; exact v2)
      · rcases hall j hj with h | h
        · rcases List.mem_cons.1 h with rfl | h
          · exact .inr (by simp)
          · exact .inl h
        · exact .inr (by simp [h])
      · rw [hset]; unfold setF; split
        · rename_i e; simp [e]
        · rename_i e; rw [hdn j]; simp [e]
      · rw [hset]; unfold setF; split
        · omega
        · exact hl2 j hj
      · rw [hset]; have := cntF_set g1 his; omega
      · rw [hset]; exact hdc.upd ho g2
theorem drawn_anyH (hT : TOK Γ.P Γ.T) (hC : HC C Γ) {p : Nat} {hd rl l : List Nat} (hok : (drawOK ops.toList p (some (rl ++ l)) && rootsB (some (rl ++ l)) ops.toList p [] rl && ops.toList.all (fun o => match o.dst with | some d => !hd.contains d | none => true)) = true) (hdr : drawnH C Γ ops.toList p hd rl l K S) (r : Rel Γ S a w I X β σ)
    (hQ : ∀ a' w', Aft Γ K I X w β σ a' w' → Q .normal a' w') (hP : ∀ c a' w', ¬ Q (.panic c) a' w') :
    wpAny Γ.P .any ops Q ops.size (Array.replicate ops.size false) a { w with drawn := w.drawn + 1 } ∧ ∀ (i : Nat) o, ops[i]? = some o → ∀ c, o.op ≠ .defer c := by
  simp only [Bool.and_eq_true] at hok
  obtain ⟨⟨hok, hrB⟩, hnw0⟩ := hok
  have hnw : ∀ d ∈ hd, ∀ (i : Nat) o, ops[i]? = some o → o.dst ≠ some d := fun d hm i o ho e => by
    rw [List.all_eq_true] at hnw0
    have := hnw0 o (List.mem_of_getElem? (i := i) (by simpa using ho))
    rw [e] at this
    simp at this
    exact this hm
  have k := drawOK_spec hok
  have r1 := r.draw (w.drawn + 1)
  obtain ⟨S0, σ1, hp, r2, hab, hnt⟩ := untagL_sound (creators (ops.toList.take p)) [] S σ hdr (fun d hd => by cases hd) r1
  obtain ⟨hh0, hp⟩ := hp
  obtain ⟨val, act, Se, hf, hse, hk, _⟩ := pres_spec (sp := fun _ => false) (C := C) (Γ := Γ) (all := ops.toList) (cr := creators (ops.toList.take p)) (S0 := S0) (p := p) (fun _ _ _ _ _ _ _ _ => trivial)
    (fun i o t a x hi ho hop => (k.st i o t a x (by simpa using ho) hi hop).choose_spec.2.1) (fun i o t m ky x ho hop => by obtain ⟨_, _, _, _, _, e, _⟩ := k.ins i o t m ky x (by simpa using ho) hop; exact e) (ops.toList.take p) 0 (fun _ => .dead) (fun _ => false) S0 (by have := k.le; simp; omega)
    (fun j hj => by rw [List.getElem?_take, if_pos (by simp at hj; omega)]; simp) ⟨fun _ => rfl, rfl, rfl⟩ (fun j o hj => by omega) hp
  split at hk
  · rename_i hfo
    simp only [Bool.and_eq_true] at hfo
    refine ⟨wpAny_of_held (S := HeldX hd S0 a I) _ _ _ _ ?_, k.nd⟩
    have hlof : ∀ j, Lof (Array.replicate ops.size false) j = false := fun j => by
      simp only [Lof, Array.getD_eq_getD_getElem?, Array.getElem?_replicate]
      split <;> rfl
    refine roots_anyH hT hC k hnw hh0 (sp := fun _ => false) (fun _ _ => rfl) (fun j o hj ho => hf j o hj (by simpa using ho)) (by simpa using hnt) (fun i o d hi ho hc hdd => ?_) hse hfo.1 hfo.2 hk (I := I) (X := X) (β := β) (σ := σ) (w := { w with drawn := w.drawn + 1 }) (fun a' w' h => hQ a' w' (by
        obtain ⟨S', I', β', σ', h1, h2, h3, h4⟩ := h
        exact ⟨S', I', β', σ', h1, h2, ⟨h3.os, h3.tape, h3.output, h3.size, h3.keep, h3.imm, h3.new, h3.fix⟩, h4⟩)) hP
      rl [] ops.size _ a β σ1 (fun _ => 0) hrB (fun j hj => hj) (fun j hj => .inl hj) (fun j => by rw [hlof j]; simp) (by simp) (fun j _ => hlof j) (cntF_le _ _) (fun i o ho hl => by rw [hlof i] at hl; cases hl) (fun _ _ => rfl) ?_
    · refine creators_mem (List.mem_of_getElem? (i := i) ?_) hc hdd
      rw [List.getElem?_take, if_pos hi]; simpa using ho
    · refine ⟨?_, ⟨rfl, rfl, rfl, Nat.le_refl _, fun _ _ => rfl, fun _ _ h => h, fun _ _ => rfl, fun _ _ h _ => h⟩, ⟨fun _ => rfl, hab⟩, r.mem.xb, fun i o d _ _ _ _ hl => (by rw [hlof i] at hl; cases hl), fun i j _ _ _ _ hl => (by rw [hlof i] at hl; cases hl), fun i o d _ _ _ _ hl => (by rw [hlof i] at hl; cases hl)⟩
      refine (r2.congr (S' := some' S0 ops val p (Lof (Array.replicate ops.size false))) (fun t => ?_) rfl rfl).sub fun b hb => ?_
      · simp only [some']
        exact look_tmL_none fun i _ hl => by rw [hlof i] at hl; cases hl
      · rcases hb with hb | ⟨j, _, h2, _⟩
        · exact hb
        · rw [hlof j] at h2; cases h2
  · exact hk.elim
end
end Go.Proofs.YtfoenhiohhmnlaaGreatDoor.Ix

namespace Go.Proofs.YtfoenhiohhmnlaaGreatDoor.Ix
set_option linter.unusedVariables false
set_option linter.unusedSimpArgs false
theorem pinVL_eq (t : Nat) (u : Value) : ∀ l, pinVL t u l = l.map (pinV t u)
  | [] => rfl
  | x :: r => by simp only [pinVL, pinVL_eq t u r, List.map_cons]
theorem pinT_look (t : Nat) (u : Value) : ∀ (l : Tms) i, look (pinT t u l) i = pinV t u (look l i)
  | [], i => rfl
  | (k, v) :: r, i => by
    simp only [pinT, look_cons, pinT_look t u r i]
    split <;> rfl
theorem pinC_look (t : Nat) (u : Value) : ∀ (l : Ces) d, lookC (pinC t u l) d = (lookC l d).map (pinVL t u)
  | [], d => rfl
  | (k, v) :: r, d => by
    simp only [pinC, lookC_cons, pinC_look t u r d]
    split <;> rfl
theorem D.pin {I : Imm} (t : Nat) (u : Value) {x : IV} {v : Value} (h : D I x v) : D I (pinV t u x) v := by
  induction h with
  | int k n => exact .int k n
  | bool b => exact .bool b
  | str s => exact .str s
  | lit v h => exact .lit v h
  | nilS => exact .nilS
  | lstN e f => exact .lstN e f
  | lst e n f b off c g hc hl hi h1 h ih => exact .lst e n f b off c g hc hl hi h1 h
  | vptr e n f i j b off g hi0 hl hi h1 h ih => exact .vptr e n f i j b off g hi0 hl hi h1 h
  | agg xs vs hl h1 _ ih =>
    simp only [pinV, pinVL_eq]
    exact .agg _ vs (by simpa using hl) h1 fun j x hx => by obtain ⟨y, hy, rfl⟩ := map_get hx; exact ih j y hy
  | tup xs vs hl _ ih =>
    simp only [pinV, pinVL_eq]
    exact .tup _ vs (by simpa using hl) fun j x hx => by obtain ⟨y, hy, rfl⟩ := map_get hx; exact ih j y hy
  | fn f xs ys vs us hl hk _ _ ih ih' =>
    simp only [pinV, pinVL_eq]
    exact .fn f _ _ vs us (by simpa using hl) (by simpa using hk) (fun j x hx => by obtain ⟨y, hy, rfl⟩ := map_get hx; exact ih j y hy)
      (fun j x hx => by obtain ⟨y, hy, rfl⟩ := map_get hx; exact ih' j y hy)
  | ifc d x => exact .ifc d x
  | dead v => exact .dead v
theorem V.pinned {I : Imm} {β : Beta} {σ σ' : Sig} (t : Nat) (u : Value) (tag : Tag) (hσ : σ t = some tag) (hu : u = .slice (some ⟨tag.b, 0, none⟩) tag.n tag.c)
    (hs : ∀ v g, v ≠ t → σ v = some g → σ' v = some g) {x : IV} {v : Value} (h : V I β σ x v) : V I β σ' (pinV t u x) v := by
  induction h with
  | data h => exact .data (h.pin t u)
  | ptr l d off b h => exact .ptr l d off b h
  | ownN t' e f =>
    simp only [pinV]
    split
    · exact .data (.dead _)
    · exact .ownN t' e f
  | own t' e n f b el c g ht hc hl hi h1 h =>
    simp only [pinV]
    split
    · rename_i he
      have he := (beq_iff _ _).1 he
      subst he
      rw [hσ] at ht
      cases ht
      split
      · exact .data (.dead _)
      · rw [hu]; exact .data (.lit _ rfl)
    · rename_i hne
      exact .own t' e n f b el c g (hs _ _ (beq_false hne) ht) hc hl hi h1 h
  | raw t' e n b el ht =>
    simp only [pinV]
    split
    · exact .data (.dead _)
    · rename_i hne
      exact .raw t' e n b el (hs _ _ (beq_false hne) ht)
  | row d e n b c h hc => exact .row d e n b c h hc
  | agg xs vs hl h1 _ ih =>
    simp only [pinV, pinVL_eq]
    exact .agg _ vs (by simpa using hl) h1 fun j x hx => by obtain ⟨y, hy, rfl⟩ := map_get hx; exact ih j y hy
  | tup xs vs hl _ ih =>
    simp only [pinV, pinVL_eq]
    exact .tup _ vs (by simpa using hl) fun j x hx => by obtain ⟨y, hy, rfl⟩ := map_get hx; exact ih j y hy
  | mp ks xs b vs hm hl _ ih =>
    simp only [pinV, pinVL_eq]
    exact .mp ks _ b vs hm (by simpa using hl) fun j x hx => by obtain ⟨y, hy, rfl⟩ := map_get hx; exact ih j y hy
  | fn f xs ys vs us hl hk _ _ ih ih' =>
    simp only [pinV, pinVL_eq]
    exact .fn f _ _ vs us (by simpa using hl) (by simpa using hk) (fun j x hx => by obtain ⟨y, hy, rfl⟩ := map_get hx; exact ih j y hy)
      (fun j x hx => by obtain ⟨y, hy, rfl⟩ := map_get hx; exact ih' j y hy)
mutual
theorem dropTag_none (t : Nat) : ∀ v, hasTag t v = false → dropTag t v = v
  | .lst (some u) e n f, h => by simp only [hasTag] at h; simp only [dropTag, h]
  | .lst none _ _ _, _ => rfl
  | .agg xs, h => by simp only [hasTag] at h; simp only [dropTag, dropTagL_none t xs h]
  | .tup xs, h => by simp only [hasTag] at h; simp only [dropTag, dropTagL_none t xs h]
  | .mp ks xs, h => by simp only [hasTag] at h; simp only [dropTag, dropTagL_none t xs h]
  | .fn f a c, h => by simp only [hasTag, Bool.or_eq_false_iff] at h; simp only [dropTag, dropTagL_none t a h.1, dropTagL_none t c h.2]
  | .raw u e n, h => by simp only [hasTag] at h; simp only [dropTag, h]
  | .int _ _, _ => rfl
  | .bool _, _ => rfl
  | .str _, _ => rfl
  | .lit _, _ => rfl
  | .nilS, _ => rfl
  | .vptr _ _ _ _ _, _ => rfl
  | .ptr _ _ _, _ => rfl
  | .row _ _ _ _ _, _ => rfl
  | .ifc, _ => rfl
  | .dead, _ => rfl
theorem dropTagL_none (t : Nat) : ∀ l, hasTagL t l = false → dropTagL t l = l
  | [], _ => rfl
  | x :: r, h => by simp only [hasTagL, Bool.or_eq_false_iff] at h; simp only [dropTagL, dropTag_none t x h.1, dropTagL_none t r h.2]
end
theorem ceDrop_none (t : Nat) : ∀ l, ceTag t l = false → ceDrop t l = l
  | [], _ => rfl
  | (i, c) :: r, h => by simp only [ceTag, Bool.or_eq_false_iff] at h; simp only [ceDrop, dropTagL_none t c h.1, ceDrop_none t r h.2]
structure Gh (w : World) (I : Imm) (X : Nat → Prop) (s : Sp) (bc : Nat × Nat) : Prop where
  row : ∃ el cur, w.heap[bc.1]? = some (.cells cur el (0, 0)) ∧ Room cur (s.k + 1) bc.2 ∧ bc.2 ≤ maxLen ∧ cur.size = bc.2 * s.e
  non : ∀ j, (s.k + 1) * s.e ≤ j → I ⟨bc.1, j, none⟩ = none
  nx : ¬ X bc.1
  got : ∃ g : Nat → Nat → Value, s.k + 1 ≤ bc.2 ∧ (∀ i, i < s.k + 1 → (s.f i).length = s.e) ∧ (∀ i j, i < s.k + 1 → j < s.e → I ⟨bc.1, i * s.e + j, none⟩ = some (g i j)) ∧ (∀ i j, i < s.k + 1 → j < s.e → (g i j).oneCell' = true) ∧
    ∀ i (j : Nat) x, i < s.k + 1 → (s.f i)[j]? = some x → D I x (g i j)
section
variable {Γ : Env} {S : St} {a : Act} {w : World} {I : Imm} {X : Nat → Prop} {β : Beta} {σ : Nat → Sig} {K : St → Prop}
theorem pin1_rel {s : Sp} (r : Rel Γ S a w I X β σ) (hl : locS S s) : ∃ b c σ', Rel Γ ⟨pinT s.t (pv s (b, c)) S.tm, pinC s.t (pv s (b, c)) S.ce, S.up⟩ a w I (fun x => X x ∨ x = b) β σ' ∧ (∀ l, σ' (l + 1) = σ (l + 1)) ∧ Gh w I X s (b, c) := by
  obtain ⟨c0, j0, xs, h1, h2⟩ := hl
  obtain ⟨b0, arr, el0, e1, e2, e3, e4, e5, e6⟩ := r.mem.cell 0 c0 xs h1
  rcases (e5 j0 _ h2).lst_inv with ⟨p, _, h0⟩ | ⟨b, off, c, g, hval, hc, ho, hlen, hI, h1c, hD⟩
  · omega
  obtain ⟨rfl, el, hσ⟩ := ho _ rfl
  have hσ : σ 0 s.t = some ⟨b, el, s.e, s.k + 1, c⟩ := hσ
  obtain ⟨cur, g1, g2, g3, g4, g5, g6, g7⟩ := r.own.row s.t _ hσ
  have hs : ∀ u g, u ≠ s.t → σ 0 u = some g → (if u = s.t then none else σ 0 u) = some g := fun u g hu hg => by rw [if_neg hu]; exact hg
  refine ⟨b, c, setSig σ fun u => if u = s.t then none else σ 0 u, ⟨fun i => ?_, ?_, r.nt, ⟨fun l d c' hc' => ?_, r.mem.inj, fun l d b' hb => ?_, r.mem.im, r.mem.glo, fun b' hb => ?_, r.mem.gz⟩, ⟨fun u g hu => ?_, fun u u' g g' hu hu' hb => ?_⟩⟩, fun l => rfl, ⟨⟨el, cur, g1, g2, g3, g4⟩, g5, g6, g, hc, hlen, fun i j hi hj => by simpa using hI i j hi hj, h1c, hD⟩⟩
  · show V I β _ (look (pinT s.t (pv s (b, c)) S.tm) i) _
    rw [pinT_look]
    exact (r.tm i).pinned s.t _ _ hσ rfl hs
  · exact r.df.to (fun _ _ h _ => h) fun D hD hx => by
      rintro (h | h)
      · exact hx h
      · subst h; rw [g1] at hD; cases hD
  · cases l with
    | zero =>
      have hc' : lookC (pinC s.t (pv s (b, c)) S.ce) d = some c' := hc'
      rw [pinC_look] at hc'
      cases hl : lookC S.ce d with
      | none => simp [hl] at hc'
      | some c1 =>
        simp [hl] at hc'; subst hc'
        obtain ⟨b', arr, el, k1, k2, k3, k4, k5, k6, k7⟩ := r.mem.cell 0 d c1 hl
        refine ⟨b', arr, el, k1, k2, by simp [pinVL_eq, k3], k4, fun j x hx => ?_, k6, ?_⟩
        · rw [pinVL_eq] at hx
          obtain ⟨y, hy, rfl⟩ := map_get hx
          exact (k5 j y hy).pinned s.t _ _ hσ rfl hs
        · rintro (h | h)
          · exact k7 h
          · subst h; exact g7 _ _ k1
    | succ l =>
      obtain ⟨b', arr, el, k1, k2, k3, k4, k5, k6, k7⟩ := r.mem.cell (l + 1) d c' hc'
      refine ⟨b', arr, el, k1, k2, k3, k4, k5, k6, ?_⟩
      rintro (h | h)
      · exact k7 h
      · subst h; exact g7 _ _ k1
  · cases l with
    | zero =>
      obtain ⟨c1, hc1⟩ := r.mem.keys 0 d b' hb
      refine ⟨pinVL s.t (pv s (b, c)) c1, ?_⟩
      show lookC (pinC s.t (pv s (b, c)) S.ce) d = _
      rw [pinC_look, show lookC S.ce d = some c1 from hc1]; rfl
    | succ l => exact r.mem.keys (l + 1) d b' hb
  · rcases hb with h | h
    · exact r.mem.xb b' h
    · subst h; exact heap_lt g1
  · simp only [setSig] at hu
    split at hu
    · cases hu
    · rename_i hne
      obtain ⟨cu, k1, k2, k3, k4, k5, k6, k7⟩ := r.own.row u g hu
      refine ⟨cu, k1, k2, k3, k4, k5, ?_, k7⟩
      rintro (h | h)
      · exact k6 h
      · exact hne (r.own.inj u s.t g _ hu hσ h)
  · simp only [setSig] at hu hu'
    split at hu
    · cases hu
    · split at hu'
      · cases hu'
      · exact r.own.inj u u' g g' hu hu' hb
theorem pinTs_congr {bc bc' : Nat → Nat × Nat} : ∀ {sps : List Sp} {tm : Tms}, (∀ s ∈ sps, bc s.q = bc' s.q) → pinTs bc sps tm = pinTs bc' sps tm
  | [], _, _ => rfl
  | s :: r, tm, h => by simp only [pinTs]; rw [h s (by simp), pinTs_congr fun s hs => h s (by simp [hs])]
theorem pinCs_congr {bc bc' : Nat → Nat × Nat} : ∀ {sps : List Sp} {ce : Ces}, (∀ s ∈ sps, bc s.q = bc' s.q) → pinCs bc sps ce = pinCs bc' sps ce
  | [], _, _ => rfl
  | s :: r, ce, h => by simp only [pinCs]; rw [h s (by simp), pinCs_congr fun s hs => h s (by simp [hs])]
theorem locS_pin {s s' : Sp} {u : Value} (hne : s'.t ≠ s.t) (h : locS S s') : locS ⟨pinT s.t u S.tm, pinC s.t u S.ce, S.up⟩ s' := by
  obtain ⟨c, j, xs, h1, h2⟩ := h
  refine ⟨c, j, pinVL s.t u xs, ?_, ?_⟩
  · show lookC (pinC s.t u S.ce) c = _
    rw [pinC_look, h1]; rfl
  · rw [pinVL_eq, List.getElem?_map, h2]
    have : Nat.beq s'.t s.t = false := by
      cases q : Nat.beq s'.t s.t with
      | false => rfl
      | true => exact absurd ((beq_iff _ _).1 q) hne
    simp only [Option.map_some, pinV, this]
theorem pin_rel : ∀ (sps : List Sp) (S : St) (X : Nat → Prop) (σ : Nat → Sig), Rel Γ S a w I X β σ → (∀ s ∈ sps, locS S s) → (sps.map Sp.q).Nodup → (sps.map Sp.t).Nodup →
    ∃ bc σ', Rel Γ ⟨pinTs bc sps S.tm, pinCs bc sps S.ce, S.up⟩ a w I (fun x => X x ∨ ∃ s ∈ sps, x = (bc s.q).1) β σ' ∧ (∀ l, σ' (l + 1) = σ (l + 1)) ∧ (∀ s ∈ sps, Gh w I X s (bc s.q)) ∧ ∀ s ∈ sps, ∀ s' ∈ sps, (bc s.q).1 = (bc s'.q).1 → s.q = s'.q
  | [], S, X, σ, r, _, _, _ => by
    refine ⟨fun _ => (0, 0), σ, r.sub fun b hb => ?_, fun _ => rfl, fun s hs => (by cases hs), fun s hs => (by cases hs)⟩
    rcases hb with h | ⟨s, hs, _⟩
    · exact h
    · cases hs
  | s :: sps, S, X, σ, r, hl, hq, ht => by
    simp only [List.map_cons, List.nodup_cons] at hq ht
    obtain ⟨b, c, σ1, r1, hσ1, gh⟩ := pin1_rel r (hl s (by simp))
    obtain ⟨bc, σ', r2, hσ2, gh2, inj⟩ := pin_rel sps _ _ σ1 r1 (fun s' hs' => locS_pin (fun e => ht.1 (by rw [← e]; exact List.mem_map_of_mem hs')) (hl s' (by simp [hs']))) hq.2 ht.2
    have hne : ∀ s' ∈ sps, s'.q ≠ s.q := fun s' hs' e => hq.1 (by rw [← e]; exact List.mem_map_of_mem hs')
    have hbc : ∀ s' ∈ sps, (if s'.q = s.q then (b, c) else bc s'.q) = bc s'.q := fun s' hs' => if_neg (hne s' hs')
    refine ⟨fun i => if i = s.q then (b, c) else bc i, σ', ?_, fun l => (hσ2 l).trans (hσ1 l), fun s' hs' => ?_, fun s1 h1 s2 h2 he => ?_⟩
    · simp only [pinTs, pinCs, if_pos rfl]
      rw [pinTs_congr (bc' := bc) hbc, pinCs_congr (bc' := bc) hbc]
      refine r2.sub fun x hx => ?_
      rcases hx with h | ⟨s', hs', h⟩
      · exact .inl (.inl h)
      · rcases List.mem_cons.1 hs' with rfl | hs'
        · rw [if_pos rfl] at h; exact .inl (.inr h)
        · rw [hbc s' hs'] at h; exact .inr ⟨s', hs', h⟩
    · rcases List.mem_cons.1 hs' with rfl | hs'
      · simp only [if_pos rfl]; exact gh
      · simp only [if_neg (hne s' hs')]
        have g := gh2 s' hs'
        exact ⟨g.row, g.non, fun h => g.nx (.inl h), g.got⟩
    · have he : (if s1.q = s.q then (b, c) else bc s1.q).1 = (if s2.q = s.q then (b, c) else bc s2.q).1 := he
      rcases List.mem_cons.1 h1 with k1 | k1 <;> rcases List.mem_cons.1 h2 with k2 | k2
      · rw [k1, k2]
      · have e1 : (if s1.q = s.q then (b, c) else bc s1.q) = (b, c) := if_pos (by rw [k1])
        have e2 : (if s2.q = s.q then (b, c) else bc s2.q) = bc s2.q := if_neg (hne s2 k2)
        rw [e1, e2] at he
        exact absurd (.inr he.symm) (gh2 s2 k2).nx
      · have e1 : (if s2.q = s.q then (b, c) else bc s2.q) = (b, c) := if_pos (by rw [k2])
        have e2 : (if s1.q = s.q then (b, c) else bc s1.q) = bc s1.q := if_neg (hne s1 k1)
        rw [e1, e2] at he
        exact absurd (.inr he) (gh2 s1 k1).nx
      · have e1 : (if s1.q = s.q then (b, c) else bc s1.q) = bc s1.q := if_neg (hne s1 k1)
        have e2 : (if s2.q = s.q then (b, c) else bc s2.q) = bc s2.q := if_neg (hne s2 k2)
        rw [e1, e2] at he
        exact inj s1 k1 s2 k2 he
end
section
variable {C : Con} {Γ : Env} {all : List Oper} {cr : List Nat} {sps : List Sp} {bc : Nat → Nat × Nat}
def spB (sps : List Sp) (i : Nat) : Bool := (spAt sps i).isSome
theorem spAt_mem : ∀ {sps : List Sp} {i : Nat} {s : Sp}, spAt sps i = some s → s ∈ sps ∧ s.q = i
  | x :: r, i, s, h => by
    simp only [spAt] at h
    split at h
    · rename_i e
      cases h
      exact ⟨by simp, (beq_iff _ _).1 e⟩
    · obtain ⟨h1, h2⟩ := spAt_mem h
      exact ⟨by simp [h1], h2⟩
theorem spAt_of : ∀ {sps : List Sp} {s : Sp}, (sps.map Sp.q).Nodup → s ∈ sps → spAt sps s.q = some s
  | x :: r, s, hq, hm => by
    simp only [List.map_cons, List.nodup_cons] at hq
    simp only [spAt]
    rcases List.mem_cons.1 hm with rfl | hm
    · rw [show Nat.beq s.q s.q = true by simp]
    · have hne : x.q ≠ s.q := fun e => hq.1 (by rw [e]; exact List.mem_map_of_mem hm)
      have : Nat.beq x.q s.q = false := by
        cases q : Nat.beq x.q s.q with
        | false => rfl
        | true => exact absurd ((beq_iff _ _).1 q) hne
      rw [this]
      exact spAt_of hq.2 hm
structure QF (Γ : Env) (all : List Oper) (S0 : St) (val : Nat → IV) (s : Sp) (u : Value) (o : Oper) (c : Call) (y : Nat) (x : Operand) (t t' el m : Nat) (ox : Option Nat) (g : Nat → List IV) : Prop where
  op : o.op = .call c
  gd : o.guard = none
  ce : c.callee = .builtin .append
  ar : c.args.toList = [.tmp y, x]
  ds : o.dst = some s.t
  ty : c.argTypes.toList = [t, t']
  tt : Nat.beq t t' = true
  kd : (Γ.T t).k = .slice el
  sz : (Γ.T el).size = s.e
  ev : evo Γ (lex S0 all val s.q) x = .lst ox s.e m g
  le : s.k + 1 + m ≤ 1073741824
  ly : look (lex S0 all val s.q).tm y = .lit u
  vl : val s.q = .lst (some s.t) s.e (s.k + 1 + m) (appF (s.k + 1) s.f g)
  nt : s.t < Γ.nt
def QFx (Γ : Env) (all : List Oper) (S0 : St) (val : Nat → IV) (s : Sp) (u : Value) (o : Oper) : Prop := ∃ c y x t t' el m ox g, QF Γ all S0 val s u o c y x t t' el m ox g
theorem QFx.congr {S0 : St} {val val' : Nat → IV} {s : Sp} {u : Value} {o : Oper} (h : QFx Γ all S0 val s u o) (hv : ∀ j, j ≤ s.q → val' j = val j) : QFx Γ all S0 val' s u o := by
  obtain ⟨c, y, x, t, t', el, m, ox, g, h⟩ := h
  have hlex : lex S0 all val' s.q = lex S0 all val s.q := by simp only [lex]; rw [tmL_congr fun j hj => hv j (by omega)]
  exact ⟨c, y, x, t, t', el, m, ox, g, h.op, h.gd, h.ce, h.ar, h.ds, h.ty, h.tt, h.kd, h.sz, by rw [hlex]; exact h.ev, h.le, by rw [hlex]; exact h.ly, by rw [hv _ (Nat.le_refl _)]; exact h.vl, h.nt⟩
theorem qstep_spec {S0 S : St} {val : Nat → IV} {s : Sp} {u : Value} {o : Oper} {K : St → Prop} (h : qstep Γ S o s u K) (hs : Is S0 all val s.q S) :
    ∃ v, QFx Γ all S0 (setF val s.q v) s u o ∧ K (putS S o.dst v) := by
  have hlex : ∀ v, lex S0 all (setF val s.q v) s.q = lex S0 all val s.q := fun v => by simp only [lex]; rw [tmL_congr fun j hj => setF_lt val s.q v hj]
  unfold qstep at h
  split at h
  · rename_i c hop hg
    split at h
    · rename_i y x d t t' h1 h2 h3 h4
      split at h
      · rename_i el h5 h6
        simp only [Bool.and_eq_true] at h5
        split at h
        · rename_i h7
          split at h
          · rename_i ox e2 m g h8
            split at h
            · rename_i h9
              rw [chk_iff] at h
              obtain ⟨h10, h⟩ := h
              obtain ⟨h11, h⟩ := h
              have hd := (beq_iff _ _).1 h5.1
              subst hd
              obtain ⟨hn, hk⟩ := putT_spec h
              have he2 := (beq_iff _ _).1 h9
              subst he2
              refine ⟨_, ⟨c, y, x, t, t', el, m, ox, g, hop, hg, h1, h2, h3, h4, h5.2, h6, (beq_iff _ _).1 h7, ?_, of_decide_eq_true h10, ?_, setF_self _ _ _, hn _ rfl⟩, by rw [h3]; exact hk⟩
              · rw [hlex, ← evo_is hs]; exact h8
              · rw [hlex, ← hs.tm]; exact h11
            · exact h.elim
          · exact h.elim
        · exact h.elim
      · exact h.elim
    · exact h.elim
  · exact h.elim
theorem presQ_spec {S0 : St} {K : St → Prop} (hq : (sps.map Sp.q).Nodup) {p : Nat}
    (hstd : ∀ (i : Nat) o t a x, i < p → all[i]? = some o → o.op = .store t a x → o.dst = none) (hind : ∀ (i : Nat) o t m ky x, all[i]? = some o → o.op = .insert t m ky x → o.dst = none) :
    ∀ (rest : List Oper) (i : Nat) (val : Nat → IV) (act : Nat → Bool) (S : St), i + rest.length = p → (∀ j, j < rest.length → rest[j]? = all[i + j]?) → Is S0 all val i S →
      (∀ (j : Nat) o, j < i → all[j]? = some o → Fact (spB sps) C Γ all cr S0 val act j o) → (∀ s ∈ sps, s.q < i → ∀ o, all[s.q]? = some o → QFx Γ all S0 val s (pv s (bc s.q)) o) → presQ C Γ all cr sps bc i rest K S →
      ∃ val' act' S', (∀ (j : Nat) o, j < p → all[j]? = some o → Fact (spB sps) C Γ all cr S0 val' act' j o) ∧ (∀ s ∈ sps, s.q < p → ∀ o, all[s.q]? = some o → QFx Γ all S0 val' s (pv s (bc s.q)) o) ∧ Is S0 all val' p S' ∧ K S'
  | [], i, val, act, S, hp, hr, hs, hf, hQ, h => by
    simp at hp; subst hp
    exact ⟨val, act, S, hf, hQ, hs, h⟩
  | o :: rest, i, val, act, S, hp, hr, hs, hf, hQ, h => by
    have ho : all[i]? = some o := by have := hr 0 (by simp); simpa using this.symm
    have hp' : i + 1 + rest.length = p := by simp at hp; omega
    have hr' : ∀ j, j < rest.length → rest[j]? = all[i + 1 + j]? := fun j hj => by
      have := hr (j + 1) (by simp; omega)
      simp at this; rw [this]; congr 1; omega
    simp only [presQ] at h
    split at h
    · rename_i s hsp
      obtain ⟨hm, hsq⟩ := spAt_mem hsp
      subst hsq
      obtain ⟨v, hv, hk⟩ := qstep_spec h hs
      obtain ⟨c, y, x, t, t', el, m, ox, g, F⟩ := hv
      have hFq : Fact (spB sps) C Γ all cr S0 (setF val s.q v) (setF act s.q true) s.q o := by
        refine ⟨(by rw [F.gd]; exact setF_self _ _ _), fun d hd => ?_, fun e => (by rw [setF_self] at e; cases e), fun _ t e => (by rw [F.op] at e; cases e), fun _ t x e => (by rw [F.op] at e; cases e), fun _ t a x e => (by rw [F.op] at e; cases e), fun _ _ _ _ _ => ⟨fun e => ?_, ?_⟩, fun _ => .no (by simp [mapO, F.op])⟩
        · rw [F.ds] at hd; cases hd; exact F.nt
        · unfold spB at e; rw [hsp] at e; cases e
        · rw [F.vl]
          have : ∀ cr : List Nat, tagOK cr (lex S0 all (setF val s.q v) s.q) o (.lst (some s.t) s.e (s.k + 1 + m) (appF (s.k + 1) s.f g)) = true := by
            intro cr
            induction cr with
            | nil => rfl
            | cons d r ih =>
              simp only [tagOK, Bool.and_eq_true, Bool.or_eq_true, F.ds, hasTag]
              refine ⟨.inl ?_, ih⟩
              by_cases e : d = s.t
              · subst e; exact .inl (by simp)
              · right
                cases q : Nat.beq s.t d with
                | false => rfl
                | true => exact absurd ((beq_iff _ _).1 q).symm e
          exact this cr
      have hs' : Is S0 all (setF val s.q v) (s.q + 1) (putS S o.dst v) := by
        have := (hs.congr fun j hj => setF_lt val s.q v hj).put ho
        rw [setF_self] at this
        exact this
      exact presQ_spec hq hstd hind rest (s.q + 1) (setF val s.q v) (setF act s.q true) _ hp' hr' hs' (fun j o' hj ho' => by
        rcases Nat.lt_or_ge j s.q with hlt | hge
        · exact (hf j o' hlt ho').congr (fun k hk => setF_lt val s.q v (by omega)) (setF_lt act s.q true hlt)
        · have : j = s.q := by omega
          subst this; rw [ho] at ho'; cases ho'; exact hFq) (fun s' hs'm hlt o' ho' => by
        rcases Nat.lt_or_ge s'.q s.q with hl | hge
        · exact (hQ s' hs'm hl o' ho').congr fun j hj => setF_lt val s.q v (by omega)
        · have he : s'.q = s.q := by omega
          have := spAt_of hq hs'm
          rw [he, hsp] at this
          cases this
          rw [ho] at ho'; cases ho'
          exact ⟨c, y, x, t, t', el, m, ox, g, F⟩) hk
    · rename_i hsp
      obtain ⟨val1, act1, S1, g1, g2, g3, g4⟩ := pres_spec (sp := spB sps) (p := i + 1) (fun _ _ _ _ _ _ _ _ => trivial) (fun j o t a x hj => hstd j o t a x (by simp at hp; omega)) hind [o] i val act S rfl (fun j hj => by
        have : j = 0 := by simpa using hj
        subst this; simpa using ho.symm) hs hf h
      exact presQ_spec hq hstd hind rest (i + 1) val1 act1 S1 hp' hr' g2 g1 (fun s hm hlt o' ho' => by
        have : s.q ≠ i := fun e => by
          have := spAt_of hq hm
          rw [e, hsp] at this; cases this
        exact (hQ s hm (by omega) o' ho').congr fun j hj => g4 j (by omega)) g3
end
section
variable {sp : Nat → Bool} {C : Con} {Γ : Env} {fl : Option (List Nat)} {ops : Array Oper} {p : Nat} {S : St} {S0 : St} {val : Nat → IV} {act : Nat → Bool} {w0 : World} {I0 : Imm} {X : Nat → Prop} {β0 : Beta} {σ0 : Nat → Sig} {ℓ : Nat → Bool} {a : Act} {w : World}
  {I : Imm} {β : Beta} {σ : Nat → Sig} {bl : Nat → Nat} {cr : List Nat} {K : St → Prop} {Q : Exit → Act → World → Prop} {sps : List Sp} {bc : Nat → Nat × Nat}
theorem Inv.sub {Y : Nat → Prop} (v : Inv Γ ops p S0 val w0 I0 X β0 σ0 ℓ a w I β σ bl) (h : ∀ b, Y b → X b) : Inv Γ ops p S0 val w0 I0 Y β0 σ0 ℓ a w I β σ bl :=
  ⟨v.rel.sub fun b hb => hb.imp (h b) id, v.ext.sub h, v.abv, fun b hb => v.x0 b (h b hb), v.blk, v.inj, v.mblk⟩
def XQ (X : Nat → Prop) (sps : List Sp) (bc : Nat → Nat × Nat) (ℓ : Nat → Bool) (b : Nat) : Prop := X b ∨ ∃ s ∈ sps, ℓ s.q = false ∧ b = (bc s.q).1
theorem XQ_set {i : Nat} {b : Nat} (h : XQ X sps bc (setF ℓ i true) b) : XQ X sps bc ℓ b := by
  rcases h with h | ⟨s, hs, h1, h2⟩
  · exact .inl h
  · refine .inr ⟨s, hs, ?_, h2⟩
    unfold setF at h1
    split at h1
    · cases h1
    · exact h1
theorem Inv.appends (hT : TOK Γ.P Γ.T) (hC : HC C Γ) (k : DOK ops p fl)
    (hf : ∀ (j : Nat) o, j < p → ops[j]? = some o → Fact sp C Γ ops.toList cr S0 val act j o) (hnt : noTags cr S0)
    (hdc : DC ops ℓ) {s : Sp} (hs : s ∈ sps) (hcr : s.t ∈ cr) {o : Oper} (ho : ops[s.q]? = some o) (hi : s.q < p) (hn : ℓ s.q = false) (hl : ∀ j, bindOn o j = true → ℓ j = true)
    (hq : QFx Γ ops.toList S0 val s (pv s (bc s.q)) o) (gh : Gh w0 I0 X s (bc s.q)) (inj : ∀ s' ∈ sps, (bc s.q).1 = (bc s'.q).1 → s.q = s'.q)
    (v : Inv Γ ops p S0 val w0 I0 (XQ X sps bc ℓ) β0 σ0 ℓ a w I β σ bl) (Q : Exit → Act → World → Prop) :
    wpOp Γ.P ops Q s.q (fun a' w' => ∃ I' β' σ' bl', Inv Γ ops p S0 val w0 I0 (XQ X sps bc (setF ℓ s.q true)) β0 σ0 (setF ℓ s.q true) a' w' I' β' σ' bl') a w := by
  obtain ⟨c, y, x, t, t', el, m, ox, g, F⟩ := hq
  have hops : o.op.operands.toList = c.operands.toList := by rw [F.op]; rfl
  have hym : Operand.tmp y ∈ o.op.operands.toList := by
    rw [hops]
    have : Operand.tmp y ∈ c.args.toList := by rw [F.ar]; simp
    simp [Call.operands] at this ⊢; exact .inr this
  have hxm : x ∈ o.op.operands.toList := by
    rw [hops]
    have : x ∈ c.args.toList := by rw [F.ar]; simp
    simp [Call.operands] at this ⊢; exact .inr this
  have hag : ∀ t ∈ looks ops.toList o, look (some' S0 ops val p ℓ).tm t = look (lex S0 ops.toList val s.q).tm t := fun t ht => look_agree k hdc ho hi hl ht
  have halike : Alike (opTs o.op.operands.toList) (lex S0 ops.toList val s.q) (some' S0 ops val p ℓ) := ⟨fun t ht => (hag t (by simp only [looks, List.mem_append]; exact .inl ht)).symm, rfl, rfl⟩
  have hly : look (some' S0 ops val p ℓ).tm y = .lit (pv s (bc s.q)) := by
    rw [hag y (by simp only [looks, List.mem_append]; exact .inl (mem_opTs hym (by simp [opT])))]; exact F.ly
  have hevx : evo Γ (some' S0 ops val p ℓ) x = .lst ox s.e m g := by rw [← evo_alikes hxm halike]; exact F.ev
  have hval : a.tmps.getD y undef = pv s (bc s.q) := by have := v.rel.tm y; rw [hly] at this; exact this.lit_eq
  have hXs : XQ X sps bc ℓ (bc s.q).1 := .inr ⟨s, hs, hn, rfl⟩
  have hnX : ¬ XQ X sps bc (setF ℓ s.q true) (bc s.q).1 := by
    rintro (h | ⟨s', hs', h1, h2⟩)
    · exact gh.nx h
    · rw [← inj s' hs' h2, setF_self] at h1; cases h1
  obtain ⟨el0, cur, r1, r2, r3, r4⟩ := gh.row
  have hrow : w.heap[(bc s.q).1]? = some (.cells cur el0 (0, 0)) := by rw [v.ext.keep _ hXs]; exact r1
  have hIb : ∀ j, I ⟨(bc s.q).1, j, none⟩ = I0 ⟨(bc s.q).1, j, none⟩ := fun j => v.ext.new _ hXs
  obtain ⟨gg, g1, g2, g3, g4, g5⟩ := gh.got
  have hdi : dstOf ops.toList s.q = some s.t := by rw [dst_of ho, F.ds]
  have hnt1 : tmTag s.t (some' S0 ops val p ℓ).tm = false := tmTag_tmL (hnt _ hcr).1 fun j hj hlj hdj => by
    cases ht : hasTag s.t (val j) with
    | false => rfl
    | true =>
      have := tag_listed k hf hnt hdc hi hdi hcr (j + 1) j (Nat.lt_succ_self j) hj hlj hdj ht
      rw [hn] at this; cases this
  have hnt2 : ceTag s.t (some' S0 ops val p ℓ).ce = false := (hnt _ hcr).2
  have v' := v.sub (Y := XQ X sps bc (setF ℓ s.q true)) fun b hb => XQ_set hb
  have hnh : ∀ b, b = (bc s.q).1 → ¬ (XQ X sps bc (setF ℓ s.q true) b ∨ Hid ops p ℓ bl b) := by
    rintro b rfl (h | ⟨j, hj, hlj, hm, hb⟩)
    · exact hnX h
    · have h0 := v.x0 _ hXs
      obtain ⟨oj, hoj, hmk⟩ := hm
      rcases hmk with hmk | hmk
      · obtain ⟨⟨d, hd⟩, _⟩ := k.made j oj hoj hj hmk
        have := (v.blk j oj d hj hoj hmk hd hlj).1
        omega
      · obtain ⟨t, r, e⟩ := hmk
        obtain ⟨_, _, ⟨d, hd⟩, _⟩ := k.mkm j oj t r hoj e
        have := (v.mblk j oj d hj hoj ⟨t, r, e⟩ hd hlj).1
        omega
  let tag0 : Tag := ⟨(bc s.q).1, el0, s.e, s.k + 1, (bc s.q).2⟩
  let σ2 : Nat → Sig := setSig σ fun u => if u = s.t then some tag0 else σ 0 u
  have hs2 : ∀ u g, u ≠ s.t → σ 0 u = some g → σ2 0 u = some g := fun u g hu hg => by show (if u = s.t then _ else _) = _; rw [if_neg hu]; exact hg
  have hst : σ2 0 s.t = some tag0 := if_pos rfl
  have hown : V I β (σ2 0) (.lst (some s.t) s.e (s.k + 1) s.f) (pv s (bc s.q)) :=
    .own s.t s.e (s.k + 1) s.f (bc s.q).1 el0 (bc s.q).2 gg hst g1 g2 (fun i j hi hj => by rw [hIb]; exact g3 i j hi hj) g4 (fun i j x hi hx => (g5 i j x hi hx).mono v.ext.imm)
  have rq : Rel Γ ⟨(y, .lst (some s.t) s.e (s.k + 1) s.f) :: (some' S0 ops val p ℓ).tm, (some' S0 ops val p ℓ).ce, (some' S0 ops val p ℓ).up⟩ a w I (fun b => XQ X sps bc (setF ℓ s.q true) b ∨ Hid ops p ℓ bl b) β σ2 := by
    have r0 := v'.rel
    refine ⟨fun i => ?_, r0.df, r0.nt, ⟨fun l d c' hc' => ?_, r0.mem.inj, r0.mem.keys, r0.mem.im, r0.mem.glo, r0.mem.xb, r0.mem.gz⟩, ⟨fun u g' hu => ?_, fun u u' g' g'' hu hu' hb => ?_⟩⟩
    · simp only [look_cons]
      split
      · rename_i e; subst e; rw [hval]; exact hown
      · exact (r0.tm i).noTag s.t hs2 (tmTag_spec s.t _ hnt1 i)
    · cases l with
      | zero =>
        obtain ⟨b', arr, el', k1, k2, k3, k4, k5, k6⟩ := r0.mem.cell 0 d c' hc'
        exact ⟨b', arr, el', k1, k2, k3, k4, fun j x hx => (k5 j x hx).noTag s.t hs2 (hasTagL_spec s.t c' (ceTag_spec s.t _ hnt2 d c' hc') j x hx), k6⟩
      | succ l => exact r0.mem.cell (l + 1) d c' hc'
    · have hu : (if u = s.t then some tag0 else σ 0 u) = some g' := hu
      split at hu
      · cases hu
        refine ⟨cur, hrow, r2, r3, r4, fun j hj => by rw [hIb]; exact gh.non j hj, hnh _ rfl, fun l d hb => ?_⟩
        obtain ⟨c', hc'⟩ := v.rel.mem.keys l d _ hb
        obtain ⟨b', _, _, k1, _, _, _, _, _, k7⟩ := v.rel.mem.cell l d c' hc'
        rw [hb] at k1; cases k1
        exact k7 (.inl hXs)
      · exact r0.own.row u g' hu
    · have hu : (if u = s.t then some tag0 else σ 0 u) = some g' := hu
      have hu' : (if u' = s.t then some tag0 else σ 0 u') = some g'' := hu'
      have key : ∀ u g, σ 0 u = some g → g.b ≠ (bc s.q).1 := fun u g hg e => by
        obtain ⟨_, _, _, _, _, _, k6, _⟩ := v.rel.own.row u g hg
        exact k6 (by rw [e]; exact .inl hXs)
      split at hu
      · cases hu
        split at hu'
        · rename_i e1 e2; rw [e1, e2]
        · exact absurd hb.symm (key u' g'' hu')
      · split at hu'
        · cases hu'; exact absurd hb (key u g' hu)
        · exact r0.own.inj u u' g' g'' hu hu' hb
  have hxy : evo Γ ⟨(y, .lst (some s.t) s.e (s.k + 1) s.f) :: (some' S0 ops val p ℓ).tm, (some' S0 ops val p ℓ).ce, (some' S0 ops val p ℓ).up⟩ x = .lst ox s.e m g := by
    rw [← hevx]
    refine evo_alike fun u hu => ?_
    simp only [look_cons]
    split
    · rename_i e
      subst e
      exfalso
      cases x <;> simp [opT] at hu
      subst hu
      have : evo Γ (some' S0 ops val p ℓ) (.tmp y) = look (some' S0 ops val p ℓ).tm y := by simp [evo]
      rw [this, hly] at hevx; cases hevx
    · rfl
  have hyy : evo Γ ⟨(y, .lst (some s.t) s.e (s.k + 1) s.f) :: (some' S0 ops val p ℓ).tm, (some' S0 ops val p ℓ).ce, (some' S0 ops val p ℓ).up⟩ (.tmp y) = .lst (some s.t) s.e (s.k + 1) s.f := by
    simp [evo, look_cons]
  obtain ⟨St, hSt⟩ : ∃ St : St, St = ⟨(s.t, val s.q) :: tmDrop s.t ((y, .lst (some s.t) s.e (s.k + 1) s.f) :: (some' S0 ops val p ℓ).tm), ceDrop s.t (some' S0 ops val p ℓ).ce, (some' S0 ops val p ℓ).up⟩ := ⟨_, rfl⟩
  have hiop : iop C Γ ⟨(y, .lst (some s.t) s.e (s.k + 1) s.f) :: (some' S0 ops val p ℓ).tm, (some' S0 ops val p ℓ).ce, (some' S0 ops val p ℓ).up⟩ o (fun S' => S' = St) := by
    unfold iop
    rw [F.op]
    simp only
    unfold calls
    rw [F.ce]
    simp only
    rw [fvL_eq, F.ar, evoL_eq]
    simp only [List.map_cons, List.map_nil]
    rw [hxy, hyy, F.ds, F.ty]
    simp only [F.tt, F.kd, F.sz]
    unfold appendI
    have hb1 : ∀ n : Nat, Nat.beq n n = true := fun n => by simp
    simp only [hb1]
    rw [chk_iff]
    refine ⟨decide_eq_true F.le, ?_⟩
    have ht1 : tmTag s.t ((y, .lst (some s.t) s.e (s.k + 1) s.f) :: (some' S0 ops val p ℓ).tm) = true := by simp [tmTag, hasTag, hb1]
    have ht2 : tmTag s.t (tmDrop s.t ((y, .lst (some s.t) s.e (s.k + 1) s.f) :: (some' S0 ops val p ℓ).tm)) = false := tmTag_drop _ _ _ (.inr rfl)
    have ht3 : ceTag s.t (ceDrop s.t (some' S0 ops val p ℓ).ce) = false := ceTag_drop _ _ _ (.inr rfl)
    have hbt : Nat.blt s.t Γ.nt = true := by simp [Nat.blt]; exact F.nt
    simp only [untag, ht1, Bool.true_or, ht2, ht3, Bool.or_self, putT, hbt]
    rw [hSt, F.vl]
  have hmk : ¬ Mk o := fun e => by rcases e with ⟨t, e⟩ | ⟨t, x, e⟩ <;> rw [F.op] at e <;> cases e
  have hmm : ¬ MkM o := fun ⟨t, r, e⟩ => by rw [F.op] at e; cases e
  unfold wpOp
  simp only [ho]
  have hw : Region.wanted o (yielded ops a.tmps) = true := by simp [Region.wanted, F.gd]
  simp only [hw, if_true]
  refine .inl ?_
  refine Oper.wp_mono ?_ (Oper.wp_put (iop_all hT hC o hiop rq Q))
  rintro a' w' ⟨⟨S', I', β', σ', rfl, hr, he, hab⟩, ha⟩
  refine ⟨I', β', σ', bl, v'.quiet k hdc ho hi hn hmk hmm (fun t y x e => by rw [F.op] at e; cases e) (fun t m ky x e => by rw [F.op] at e; cases e) (fun x e h1 => by rw [F.op] at h1; cases h1) ?_ he ⟨hab.1, fun l => hab.2 l⟩ ha⟩
  rw [F.ds]
  refine ⟨fun i => ?_, hr.df, hr.nt, ?_, hr.own⟩
  · have h := hr.tm i
    rw [hSt] at h
    simp only [putS, look_cons] at h ⊢
    by_cases e : s.t = i
    · rw [if_pos e] at h ⊢; exact h
    · rw [if_neg e] at h ⊢
      rw [tmDrop_look, look_cons] at h
      by_cases e2 : y = i
      · subst e2
        rw [hly, ha y (by rw [F.ds]; exact fun h => e (Option.some.inj h)), hval]
        exact .data (.lit _ rfl)
      · rw [if_neg e2, dropTag_none _ _ (tmTag_spec s.t _ hnt1 i)] at h
        exact h
  · have h := hr.mem
    rw [hSt] at h
    simp only [ceDrop_none _ _ hnt2] at h
    exact h
theorem frontQ_any (hT : TOK Γ.P Γ.T) (hC : HC C Γ) (k : DOK ops p none) (hq : (sps.map Sp.q).Nodup) (hqp : ∀ s ∈ sps, s.q < p) (gh : ∀ s ∈ sps, Gh w I X s (bc s.q)) (inj : ∀ s ∈ sps, ∀ s' ∈ sps, (bc s.q).1 = (bc s'.q).1 → s.q = s'.q)
    (hQF : ∀ s ∈ sps, s.q < p → ∀ o, ops[s.q]? = some o → QFx Γ ops.toList S0 val s (pv s (bc s.q)) o) (hsc : ∀ s ∈ sps, s.t ∈ cr)
    (hf : ∀ (j : Nat) o, j < p → ops[j]? = some o → Fact (spB sps) C Γ ops.toList cr S0 val act j o) (hnt : noTags cr S0) (hcr : ∀ (i : Nat) o d, i < p → ops[i]? = some o → creates o = true → o.dst = some d → d ∈ cr)
    {Se : St} (hse : Is S0 ops.toList val p Se) (hk : adopt Γ (ops.toList.take p) (ops.toList.take p) (iops C Γ ops.toList (ops.toList.drop p) K) Se)
    (hQ : ∀ a' w', Aft Γ K I X w β σ a' w' → Q .normal a' w') (hP : ∀ c a' w', ¬ Q (.panic c) a' w') :
    ∀ (fuel : Nat) (listed : Array Bool) (a' : Act) (w' : World) (I' : Imm) (β' : Beta) (σ' : Nat → Sig) (bl : Nat → Nat), listed.size = ops.size → (∀ j, p ≤ j → Lof listed j = false) → cntF (Lof listed) ops.size ≤ fuel → DC ops (Lof listed) →
      Inv Γ ops p S0 val w I (XQ X sps bc (Lof listed)) β σ (Lof listed) a' w' I' β' σ' bl → wpAny Γ.P .any ops Q fuel listed a' w' := by
  have whole : ∀ (fuel : Nat) (listed : Array Bool) (a' : Act) (w' : World) (I' : Imm) (β' : Beta) (σ' : Nat → Sig) (bl : Nat → Nat), listed.size = ops.size → (∀ j, p ≤ j → Lof listed j = false) → cntF (Lof listed) ops.size ≤ fuel →
      Inv Γ ops p S0 val w I (XQ X sps bc (Lof listed)) β σ (Lof listed) a' w' I' β' σ' bl → (∀ j, j < p → Lof listed j = true) → wpAny Γ.P .any ops Q fuel listed a' w' := by
    intro fuel listed a' w' I' β' σ' bl hsz hl2 hc v0 hall
    have v := v0.sub (Y := X) fun b hb => .inl hb
    have r1 : Rel Γ Se a' w' I' (fun b => X b ∨ ∃ j, 0 ≤ j ∧ j < p ∧ MkAt ops j ∧ bl j = b) β' σ' := by
      refine (v.rel.congr (fun t => ?_) hse.ce hse.up).sub fun b hb => ?_
      · rw [hse.tm t]
        simp only [lex, some']
        congr 1
        have : ∀ n, n ≤ p → tmL S0.tm (dstOf ops.toList) val (fun _ => true) n = tmL S0.tm (dstOf ops.toList) val (Lof listed) n := by
          intro n
          induction n with
          | zero => intro _; rfl
          | succ n ih => intro hn; simp only [tmL]; rw [ih (by omega), hall n (by omega)]
        exact this p (Nat.le_refl _)
      · rcases hb with hb | ⟨j, _, h2, h3, h4⟩
        · exact .inl hb
        · exact .inr ⟨j, h2, hall j h2, h3, h4⟩
    obtain ⟨S', β2, g1, g2, g3⟩ := adopt_all hT k v hall (ops.toList.take p) 0 Se β' (fun j => by simp) (.refl _ _) r1 hk
    exact tail_any hT hC k hQ fuel p listed S' a' w' I' β2 σ' hsz (Nat.le_refl _) k.le hall hl2 hc g1 g2 v.ext (v.abv.trans g3)
  intro fuel
  induction fuel with
  | zero =>
    intro listed a' w' I' β' σ' bl hsz hl2 hc hdc v
    refine whole 0 listed a' w' I' β' σ' bl hsz hl2 hc v fun j hj => ?_
    cases hj' : Lof listed j with
    | true => rfl
    | false => have := cntF_pos hj' (n := ops.size) (by have := k.le; omega); omega
  | succ fuel ih =>
    intro listed a' w' I' β' σ' bl hsz hl2 hc hdc v
    by_cases hfl : ∃ i o, i < p ∧ Lof listed i = false ∧ ops[i]? = some o ∧ (∀ j, bindOn o j = true → Lof listed j = true) ∧ floatB none ops.toList p i = true
    · obtain ⟨i, o, hip, g1, ho, g2, hfB⟩ := hfl
      obtain ⟨_, hpure, hgn, hap⟩ := floatB_spec ho hfB
      have hready : i ∈ Region.ready .any ops listed := by rw [ready_spec hsz]; exact ⟨g1, o, ho, g2⟩
      have his : i < ops.size := (Array.getElem?_eq_some_iff.1 ho).1
      have hsp : spB sps i = false := by
        cases e : spB sps i with
        | false => rfl
        | true =>
          exfalso
          unfold spB at e
          obtain ⟨s, hs⟩ := Option.isSome_iff_exists.1 e
          obtain ⟨hm, hsq⟩ := spAt_mem hs
          subst hsq
          obtain ⟨c, y, x, t, t', el, m, ox, g, F⟩ := hQF s hm hip o ho
          have hpure : pureO o = true := hpure
          simp [pureO, F.op, F.ce] at hpure
      obtain ⟨u, hy, I2, β2, σ2, bl2, v2⟩ := float_step hT hC k hf hnt hcr hdc hsp ho hip g1 g2 v hpure hgn
      have hset := Lof_set (listed := listed) (i := i) (by omega)
      refine wpAny_first ho (fun j y cs b hy => k.ns j y cs b hy) (fun c a w h => (hP _ _ _ h).elim) fuel listed a' w' (fun j oj hj hji hlj hno => ?_) hready (.inl ⟨by simp [Region.wanted, hgn], hy⟩) ?_
      · rcases hap j oj hj hji with h | h | h
        · unfold bindOn at h
          rw [List.any_eq_true] at h
          obtain ⟨e, he, hb⟩ := h
          simp only [Bool.and_eq_true] at hb
          exact absurd ((beq_iff _ _).1 hb.2) (hno e (by simpa using he) hb.1)
        · have hL := g2 j h
          have hjs : j < listed.size := by rw [hsz]; exact (Array.getElem?_eq_some_iff.1 hj).1
          simp only [Lof, Array.getD_eq_getD_getElem?, Array.getElem?_eq_getElem hjs, Option.getD_some] at hL hlj
          rw [hL] at hlj; cases hlj
        · exact h
      · refine ih _ _ w' I2 β2 σ2 bl2 (by simpa using hsz) (fun j hj => ?_) ?_ ?_ (by rw [hset]; exact v2.sub fun b hb => XQ_set hb)
        · rw [hset]; unfold setF; split
          · omega
          · exact hl2 j hj
        · rw [hset]; have := cntF_set g1 his; omega
        · rw [hset]; exact hdc.upd ho g2
    by_cases hx : ∃ i, i < p ∧ Lof listed i = false
    · obtain ⟨i0, hi0, hf0⟩ := hx
      obtain ⟨i1, h1, h2, h3⟩ := first_false i0 hf0
      have hmem : i1 ∈ Region.ready .any ops listed := ready_first k hsz (by have := k.le; omega) h2 h3
      refine ⟨fun e => (by rw [e] at hmem; cases hmem), fun i hi => ?_⟩
      rw [ready_spec hsz] at hi
      obtain ⟨g1, o, ho, g2⟩ := hi
      have his : i < ops.size := (Array.getElem?_eq_some_iff.1 ho).1
      have hip : i < p := by
        rcases Nat.lt_or_ge i p with h' | h'
        · exact h'
        · have hi1 : i1 < ops.size := by have := k.le; omega
          rcases k.suf i o ho h' (Lof listed) hdc g2 i1 (by omega) with this | this
          · rw [h2] at this; cases this
          · exact absurd ⟨i1, ops[i1], by omega, h2, by simp [hi1], fun j hj => h3 j (bindOn_lt k (by simp [hi1]) hj), this⟩ hfl
      have step : wpOp Γ.P ops Q i (fun a2 w2 => ∃ I2 β2 σ2 bl2, Inv Γ ops p S0 val w I (XQ X sps bc (setF (Lof listed) i true)) β σ (setF (Lof listed) i true) a2 w2 I2 β2 σ2 bl2) a' w' := by
        cases e : spB sps i with
        | false =>
          refine wpOp_mono ?_ (front_step hT hC k hf hnt hcr hdc e ho hip g1 g2 v Q)
          rintro a2 w2 ⟨I2, β2, σ2, bl2, v2⟩
          exact ⟨I2, β2, σ2, bl2, v2.sub fun b hb => XQ_set hb⟩
        | true =>
          unfold spB at e
          obtain ⟨s, hs⟩ := Option.isSome_iff_exists.1 e
          obtain ⟨hm, hsq⟩ := spAt_mem hs
          subst hsq
          exact Inv.appends hT hC k hf hnt hdc hm (hsc s hm) ho hip g1 g2 (hQF s hm hip o ho) (gh s hm) (inj s hm) v Q
      refine wpOp_mono ?_ step
      rintro a2 w2 ⟨I2, β2, σ2, bl2, v2⟩
      have hset := Lof_set (listed := listed) (i := i) (by omega)
      refine ih _ a2 w2 I2 β2 σ2 bl2 (by simpa using hsz) (fun j hj => ?_) ?_ ?_ (by rw [hset]; exact v2)
      · rw [hset]; unfold setF; split
        · omega
        · exact hl2 j hj
      · rw [hset]; have := cntF_set g1 his; omega
      · rw [hset]; exact hdc.upd ho g2
    · refine whole (fuel + 1) listed a' w' I' β' σ' bl hsz hl2 hc v fun j hj => ?_
      cases hj' : Lof listed j with
      | true => rfl
      | false => exact absurd ⟨j, hj, hj'⟩ hx
theorem drawn_anyQ (hT : TOK Γ.P Γ.T) (hC : HC C Γ) {p : Nat} (hl : ∀ s ∈ sps, locS S s) (hq : (sps.map Sp.q).Nodup) (ht : (sps.map Sp.t).Nodup) (hp : sps.all (fun s => Nat.blt s.q p) = true) (hok : drawOK ops.toList p = true)
    (hd : ∀ bc : Nat → Nat × Nat, fps (pinTs bc sps S.tm) fun tm => fcs (pinCs bc sps S.ce) fun ce => drawnQ C Γ ops.toList p sps bc K ⟨tm, ce, S.up⟩) (r : Rel Γ S a w I X β σ)
    (hQ : ∀ a' w', Aft Γ K I X w β σ a' w' → Q .normal a' w') (hP : ∀ c a' w', ¬ Q (.panic c) a' w') :
    wpAny Γ.P .any ops Q ops.size (Array.replicate ops.size false) a { w with drawn := w.drawn + 1 } ∧ ∀ (i : Nat) o, ops[i]? = some o → ∀ c, o.op ≠ .defer c := by
  have k := drawOK_spec hok
  have hqp : ∀ s ∈ sps, s.q < p := fun s hs => blt_lt (List.all_eq_true.1 hp s hs)
  have r1 := r.draw (w.drawn + 1)
  obtain ⟨bc, σp, rp, hσp, gh, inj⟩ := pin_rel sps S X σ r1 hl hq ht
  have hd := hd bc
  rw [fps_eq, fcs_eq] at hd
  obtain ⟨S0, σ1, hpr, r2, hab, hnt⟩ := untagL_sound (creators (ops.toList.take p)) [] _ σp hd (fun d hd => by cases hd) rp
  obtain ⟨val, act, Se, hf, hQF, hse, hk⟩ := presQ_spec (C := C) (Γ := Γ) (all := ops.toList) (cr := creators (ops.toList.take p)) (S0 := S0) (sps := sps) (bc := bc) hq (p := p)
    (fun i o t a x hi ho hop => (k.st i o t a x (by simpa using ho) hi hop).choose_spec.2.1) (fun i o t m ky x ho hop => by obtain ⟨_, _, _, _, _, e, _⟩ := k.ins i o t m ky x (by simpa using ho) hop; exact e) (ops.toList.take p) 0 (fun _ => .dead) (fun _ => false) S0 (by have := k.le; simp; omega)
    (fun j hj => by rw [List.getElem?_take, if_pos (by simp at hj; omega)]; simp) ⟨fun _ => rfl, rfl, rfl⟩ (fun j o hj => by omega) (fun s _ hj => by omega) hpr
  refine ⟨?_, k.nd⟩
  have hlof : ∀ j, Lof (Array.replicate ops.size false) j = false := fun j => by
    simp only [Lof, Array.getD_eq_getD_getElem?, Array.getElem?_replicate]
    split <;> rfl
  have hcrm : ∀ (i : Nat) o d, i < p → ops[i]? = some o → creates o = true → o.dst = some d → d ∈ creators (ops.toList.take p) := fun i o d hi ho hc hdd => by
    refine creators_mem (List.mem_of_getElem? (i := i) ?_) hc hdd
    rw [List.getElem?_take, if_pos hi]; simpa using ho
  have hQF' : ∀ s ∈ sps, s.q < p → ∀ o, ops[s.q]? = some o → QFx Γ ops.toList S0 val s (pv s (bc s.q)) o := fun s hs hlt o ho => hQF s hs hlt o (by simpa using ho)
  refine frontQ_any hT hC k hq hqp (fun s hs => ⟨(gh s hs).row, (gh s hs).non, (gh s hs).nx, (gh s hs).got⟩) inj hQF' (fun s hs => ?_) (fun j o hj ho => hf j o hj (by simpa using ho)) (by simpa using hnt) hcrm hse hk (I := I) (X := X) (β := β) (σ := σ) (w := w) hQ hP
    ops.size _ a _ I β σ1 (fun _ => 0) (by simp) (fun j _ => hlof j) (cntF_le _ _) (fun i o ho hl => by rw [hlof i] at hl; cases hl) ?_
  · have hlt : s.q < ops.size := by have := hqp s hs; have := k.le; omega
    obtain ⟨c, y, x, t, t', el, m, ox, g, F⟩ := hQF' s hs (hqp s hs) ops[s.q] (by simp [hlt])
    exact hcrm s.q ops[s.q] s.t (hqp s hs) (by simp [hlt]) (by unfold creates; rw [F.op]) F.ds
  · refine ⟨?_, ⟨rfl, rfl, rfl, Nat.le_refl _, fun _ _ => rfl, fun _ _ h => h, fun _ _ => rfl, fun _ _ h _ => h⟩, ⟨fun _ => rfl, fun l => (hab l).trans (hσp l)⟩, fun b hb => ?_, fun i o d _ _ _ _ hl => (by rw [hlof i] at hl; cases hl), fun i j _ _ _ _ hl => (by rw [hlof i] at hl; cases hl), fun i o d _ _ _ _ hl => (by rw [hlof i] at hl; cases hl)⟩
    · refine (r2.congr (S' := some' S0 ops val p (Lof (Array.replicate ops.size false))) (fun t => ?_) rfl rfl).sub fun b hb => ?_
      · simp only [some']
        exact look_tmL_none fun i _ hl => by rw [hlof i] at hl; cases hl
      · rcases hb with (hb | ⟨s, hs, _, h⟩) | ⟨j, _, h2, _⟩
        · exact .inl hb
        · exact .inr ⟨s, hs, h⟩
        · rw [hlof j] at h2; cases h2
    · rcases hb with hb | ⟨s, hs, _, h⟩
      · exact r.mem.xb b hb
      · exact r2.mem.xb b (.inr ⟨s, hs, h⟩)
theorem drawn_any (hT : TOK Γ.P Γ.T) (hC : HC C Γ) (h : DRAW C Γ ops.toList K S) (r : Rel Γ S a w I X β σ)
    (hQ : ∀ a' w', Aft Γ K I X w β σ a' w' → Q .normal a' w') (hP : ∀ c a' w', ¬ Q (.panic c) a' w') :
    wpAny Γ.P .any ops Q ops.size (Array.replicate ops.size false) a { w with drawn := w.drawn + 1 } ∧ ∀ (i : Nat) o, ops[i]? = some o → ∀ c, o.op ≠ .defer c := by
  cases h with
  | mk p hok hd => exact drawn_any0 hT hC hok hd r hQ hP
  | mkQ sps hl hq ht p hp hok hk => exact drawn_anyQ hT hC hl hq ht hp hok hk r hQ hP
  | mkH p hd rl fl hok hk => exact drawn_anyH hT hC hok hk r hQ hP
  | mkS c xs hc hn p hok hk =>
    rw [fvL_eq, fps_eq, fcs_eq] at hk
    obtain ⟨tm, ce, up⟩ := S
    obtain ⟨I2, β2, r2, hext, hab⟩ := still_rel r hc hn
    exact drawn_any0 hT hC hok hk r2 (fun a' w' ⟨S', I', β', σ', h1, h2, h3, h4⟩ => hQ a' w' ⟨S', I', β', σ', h1, h2, hext.trans h3, hab.trans h4⟩) hP
  | mkF d e n g junk hc hg p hok hk =>
    rw [fps_eq, fcs_eq] at hk
    obtain ⟨I2, β2, r2, hext, hab⟩ := frz_rel r hc hg
    exact drawn_any0 hT hC hok hk r2 (fun a' w' ⟨S', I', β', σ', h1, h2, h3, h4⟩ => hQ a' w' ⟨S', I', β', σ', h1, h2, hext.trans h3, hab.trans h4⟩) hP
  | mkFH d e n g junk hc hg p hd rl fl hok hk =>
    rw [fps_eq, fcs_eq] at hk
    obtain ⟨I2, β2, r2, hext, hab⟩ := frz_rel r hc hg
    exact drawn_anyH hT hC hok hk r2 (fun a' w' ⟨S', I', β', σ', h1, h2, h3, h4⟩ => hQ a' w' ⟨S', I', β', σ', h1, h2, hext.trans h3, hab.trans h4⟩) hP
end
end Go.Proofs.YtfoenhiohhmnlaaGreatDoor.Ix

namespace Go.Proofs.YtfoenhiohhmnlaaGreatDoor.Ix
set_option linter.unusedVariables false
section
variable {Γ : Env} {S : St} {a : Act} {w : World} {I : Imm} {X : Nat → Prop} {β : Beta} {σ : Nat → Sig} {K : St → Prop}
theorem leT_look {S : Tms} : ∀ {T : Tms}, leT S T → ∀ i, look T i = .dead ∨ leV (look S i) (look T i)
  | [], _, i => .inl rfl
  | (k, v) :: r, h, i => by
    simp only [leT] at h
    rw [look_cons]
    split
    · rename_i e; subst e; exact .inr h.1
    · exact leT_look h.2 i
theorem leC_look {S : Ces} : ∀ {T : Ces}, leC S T → ∀ d c, lookC T d = some c → ∃ x, lookC S d = some x ∧ leL x c
  | [], _, d, c, h => by simp [lookC] at h
  | (k, v) :: r, h, d, c, hc => by
    simp only [leC] at h
    rw [lookC_cons] at hc
    split at hc
    · rename_i e; subst e
      simp at hc; subst hc
      obtain ⟨h1, _⟩ := h
      split at h1
      · rename_i x hx; exact ⟨x, hx, h1⟩
      · exact h1.elim
    · exact leC_look h.2 d c hc
theorem mem_keys : ∀ {T : Ces} {d : Nat}, (keys T).any (Nat.beq d) = true ↔ (lookC T d).isSome = true
  | [], d => by simp [keys, lookC]
  | (k, v) :: r, d => by
    rw [lookC_cons]
    simp only [keys, List.any_cons, Bool.or_eq_true, mem_keys (T := r)]
    by_cases h : k = d
    · subst h; simp
    · simp [h]; intro e; exact absurd e.symm h
theorem clL_get {ds : List Nat} : ∀ {xs : List IV}, clL ds xs = true → ∀ (j : Nat) x, xs[j]? = some x → clV ds x = true
  | [], _, j, x, h => by simp at h
  | y :: r, h, j, x, hx => by
    simp [clL] at h
    cases j with
    | zero => simp at hx; subst hx; exact h.1
    | succ j => exact clL_get h.2 j x (by simpa using hx)
theorem V.cl {ds : List Nat} {β' : Beta} {s : Sig} (hb : ∀ l d b, β l d = some b → (l = 0 → ds.any (Nat.beq d) = true) → β' l d = some b) {x : IV} {v : Value} (h : V I β s x v) : clV ds x = true → V I β' s x v := by
  induction h with
  | data h => exact fun _ => .data h
  | ptr l d off b h => exact fun hc => .ptr l d off b (hb l d b h (fun e => by subst e; simpa [clV] using hc))
  | ownN t e f => exact fun _ => .ownN t e f
  | own t e n f b el c g ht hc hl hi h1 h => exact fun _ => .own t e n f b el c g ht hc hl hi h1 h
  | raw t e n b el ht => exact fun _ => .raw t e n b el ht
  | row d e n b k h hk => exact fun hc => .row d e n b k (hb 0 d b h (fun _ => by simpa [clV] using hc)) hk
  | agg xs vs hl h1 _ ih => exact fun hc => .agg xs vs hl h1 fun j x hx => ih j x hx (clL_get (by simpa [clV] using hc) j x hx)
  | tup xs vs hl _ ih => exact fun hc => .tup xs vs hl fun j x hx => ih j x hx (clL_get (by simpa [clV] using hc) j x hx)
  | mp ks xs b vs hm hl _ ih => exact fun hc => .mp ks xs b vs hm hl fun j x hx => ih j x hx (clL_get (by simpa [clV] using hc) j x hx)
  | fn f xs ys vs us hl hk _ _ ih ih' =>
    intro hc
    simp [clV] at hc
    exact .fn f xs ys vs us hl hk (fun j x hx => ih j x hx (clL_get hc.1 j x hx)) (fun j x hx => ih' j x hx (clL_get hc.2 j x hx))
theorem clT_look {ds : List Nat} : ∀ {T : Tms}, clT ds T = true → ∀ i, clV ds (look T i) = true
  | [], _, i => rfl
  | (k, v) :: r, h, i => by
    simp [clT] at h
    rw [look_cons]
    split
    · exact h.1
    · exact clT_look h.2 i
theorem clC_look {ds : List Nat} : ∀ {T : Ces}, clC ds T = true → ∀ d c, lookC T d = some c → clL ds c = true
  | [], _, d, c, h => by simp [lookC] at h
  | (k, v) :: r, h, d, c, hc => by
    simp [clC] at h
    rw [lookC_cons] at hc
    split at hc
    · simp at hc; subst hc; exact h.1
    · exact clC_look h.2 d c hc
theorem Rel.le' {T : St} (h : leS S T) (r : Rel Γ S a w I X β σ) : ∃ β', Rel Γ T a w I X β' σ ∧ Above β β' σ σ ∧ ∀ l d b, β' l d = some b → β l d = some b := by
  have hcl := h.cl
  simp only [Bool.and_eq_true] at hcl
  let β' : Beta := fun l d => if l = 0 ∧ (lookC T.ce d).isSome = false then none else β l d
  have hsub : ∀ l d b, β' l d = some b → β l d = some b ∧ (l = 0 → (lookC T.ce d).isSome = true) := by
    intro l d b hb
    replace hb : (if l = 0 ∧ (lookC T.ce d).isSome = false then none else β l d) = some b := hb
    split at hb
    · cases hb
    · rename_i hn
      exact ⟨hb, fun e => by
        subst e
        cases hs : (lookC T.ce d).isSome with
        | true => rfl
        | false => exact absurd ⟨rfl, hs⟩ hn⟩
  have hmk : ∀ l d b, β l d = some b → (l = 0 → (keys T.ce).any (Nat.beq d) = true) → β' l d = some b := by
    intro l d b hb hk
    show (if _ then _ else _) = _
    rw [if_neg]; exact hb
    rintro ⟨rfl, h0⟩
    rw [mem_keys.1 (hk rfl)] at h0; cases h0
  refine ⟨β', ⟨fun i => ?_, r.df, r.nt, ⟨fun l d c hc => ?_, fun l d l' d' b hb hb' => r.mem.inj l d l' d' b (hsub _ _ _ hb).1 (hsub _ _ _ hb').1, fun l d b hb => ?_, r.mem.im, r.mem.glo, r.mem.xb, r.mem.gz⟩,
    ⟨fun t g hg => ?_, r.own.inj⟩⟩, ⟨fun l => ?_, fun l => rfl⟩, fun l d b hb => (hsub l d b hb).1⟩
  · refine V.cl hmk ?_ (clT_look hcl.1 i)
    rcases leT_look h.tm i with e | e
    · rw [e]; exact .data (.dead _)
    · exact leV_sound _ _ _ e (r.tm i)
  · cases l with
    | zero =>
      simp only [upC] at hc
      obtain ⟨x, hx, hle⟩ := leC_look h.ce d c hc
      obtain ⟨b, arr, el, h1, h2, h3, h4, h5, h6⟩ := r.mem.cell 0 d x hx
      obtain ⟨g1, g2⟩ := leL_sound x c hle (fun j => arr.getD j undef) h5
      refine ⟨b, arr, el, hmk 0 d b h1 (fun _ => mem_keys.2 (by rw [hc]; rfl)), h2, by rw [h3, g1], h4, fun j y hy => ?_, h6⟩
      refine V.cl (ds := keys T.ce) (fun l' d' b' hb' hk => hmk (0 + l') d' b' hb' (fun e => hk (by omega))) (g2 j y hy) (clL_get (clC_look hcl.2 d c hc) j y hy)
    | succ l =>
      simp only [upC] at hc
      rw [← h.up] at hc
      obtain ⟨b, arr, el, h1, h2, h3, h4, h5, h6⟩ := r.mem.cell (l + 1) d c hc
      refine ⟨b, arr, el, hmk _ d b h1 (fun e => by omega), h2, h3, h4, fun j y hy => (h5 j y hy).mono (fun _ _ h => h) (fun l' d' b' hb' => hmk (l + 1 + l') d' b' hb' (fun e => by omega)) (fun _ _ h => h), h6⟩
  · obtain ⟨hb1, hb2⟩ := hsub l d b hb
    cases l with
    | zero =>
      have := hb2 rfl
      simp only [upC]
      exact ⟨_, (Option.some_get this).symm⟩
    | succ l =>
      obtain ⟨c, hc⟩ := r.mem.keys (l + 1) d b hb1
      exact ⟨c, by simp only [upC] at hc ⊢; rw [← h.up]; exact hc⟩
  · obtain ⟨cur, k1, k2, k3, k4, k5, k6, k7⟩ := r.own.row t g hg
    exact ⟨cur, k1, k2, k3, k4, k5, k6, fun l d hb => k7 l d (hsub _ _ _ hb).1⟩
  · funext d
    show (if _ then _ else _) = _
    rw [if_neg (by omega)]
theorem Rel.le {T : St} (h : leS S T) (r : Rel Γ S a w I X β σ) : ∃ β', Rel Γ T a w I X β' σ ∧ Above β β' σ σ :=
  let ⟨β', h1, h2, _⟩ := r.le' h
  ⟨β', h1, h2⟩
def resSem (tmps : Array Value) (v : ResultVar) : Sem Value := match v with
  | .tmp t => pure (tmps.getD t undef)
  | .cell x t => do loadVar t (← asAddr (tmps.getD x undef))
theorem results_eq (fn : Func) (tmps : Array Value) : results fn tmps = (do let vs ← fn.results.mapM (resSem tmps); pure (if h : vs.size = 1 then vs[0] else .tuple vs)) := by
  unfold results
  have : (fun v => match v with
    | ResultVar.tmp t => pure (tmps.getD t undef)
    | ResultVar.cell a t => do loadVar t (← asAddr (tmps.getD a undef)) : ResultVar → Sem Value) = resSem tmps := by
    funext x; cases x <;> rfl
  rw [← this]; rfl
theorem resI_sound (hT : TOK Γ.P Γ.T) {v : ResultVar} {K : IV → Prop} (h : resI Γ S v K) (r : Rel Γ S a w I X β σ) :
    ∃ iv u, K iv ∧ V I β (σ 0) iv u ∧ (resSem a.tmps v).run Γ.P w = .ok u w := by
  cases v with
  | tmp t => simp only [resI, fv_eq] at h; exact ⟨_, _, h, r.tm t, rfl⟩
  | cell x t =>
    simp only [resI, fv_eq] at h
    obtain ⟨h0, h⟩ := tyK_spec h
    obtain ⟨inf, dd, z, tk⟩ := TOK.get hT (t := t) (.inl (by omega))
    obtain ⟨v, u, hk, hv, hr⟩ := loadI_sound tk.msize tk.agg h0 tk.one h r (r.tm x)
    refine ⟨v, u, hk, hv, ?_⟩
    have : ∀ (p : Value), (Instr.loadAt t p).run Γ.P w = .ok u w → (do loadVar t (← asAddr p) : Sem Value).run Γ.P w = .ok u w := by
      intro p hp
      cases p with
      | pointer q =>
        cases q with
        | none => simp [Instr.loadAt, Instr.sureAddr] at hp
        | some q => simpa [Instr.loadAt, Instr.sureAddr, asAddr] using hp
      | _ => simp [Instr.loadAt, Instr.sureAddr] at hp
    exact this _ hr
theorem resL_sound (hT : TOK Γ.P Γ.T) (r : Rel Γ S a w I X β σ) : ∀ (rs : List ResultVar) (K : List IV → Prop), resL Γ S rs K →
    ∃ ivs us, K ivs ∧ ivs.length = us.length ∧ (∀ (j : Nat) x, ivs[j]? = some x → V I β (σ 0) x (us.getD j undef)) ∧
      (rs.mapM (resSem a.tmps)).run Γ.P w = .ok us w
  | [], K, h => ⟨[], [], h, rfl, fun j x hx => by simp at hx, rfl⟩
  | v :: rs, K, h => by
    simp only [resL] at h
    obtain ⟨iv, u, h1, h2, h3⟩ := resI_sound hT h r
    obtain ⟨ivs, us, g1, g2, g3, g4⟩ := resL_sound hT r rs _ h1
    refine ⟨iv :: ivs, u :: us, g1, by simp [g2], fun j x hx => ?_, ?_⟩
    · cases j with
      | zero => simp at hx; subst hx; simpa using h2
      | succ j => simpa using g3 j x (by simpa using hx)
    · simp only [List.mapM_cons, Sem.run_bind, h3, Result.andThen_ok, g4]; rfl
end
end Go.Proofs.YtfoenhiohhmnlaaGreatDoor.Ix
