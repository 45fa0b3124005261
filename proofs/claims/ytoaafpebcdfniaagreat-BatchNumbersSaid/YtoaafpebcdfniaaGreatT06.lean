/- A part of the proofs of the statements BatchTells and BatchNumbers: Vs19, Vs20. Conditions: none of its own. -/
import Derived.Test.YtoaafpebcdfniaaGreatT05
set_option linter.unusedSimpArgs false
set_option linter.unusedVariables false
set_option linter.unnecessarySimpa false
set_option linter.all false
namespace Go.Vm
variable {P : Program} {w : World} {N : Nat → Prop} {L : Lmap} {σ : Store} {nxt : Nat} {ts : List V} {a : Act}

theorem callIds_nodup (σ : Store) (args : List V) : (callIds σ args).Nodup := reach_nodup _ _ _ (addIds_nodup _ _ List.nodup_nil)

/-- The caller's places behind a call. -/
def Lback (L L2 : Lmap) (l : List Nat) (nxt n : Nat) : Lmap := fun id => if nxt ≤ id ∧ id < nxt + (n - l.length) then L2 (l.length + (id - nxt)) else L id

theorem callX_wp {Γ : Env} (hΓ : SoundEnv P Γ) {refs : List Bool} {f : FuncId} {args : List V} {cargs : Array Value} {v : V} {δ : Delta} (hs : SRel w N L σ) (hcs : cargs.size = args.length) (ha : ∀ (i : Nat) v c, args[i]? = some v → cargs[i]? = some c → RS w N L v c)
    (hfresh : ∀ p ∈ δ, nxt ≤ p.1 → L p.1 = none) (h : callX Γ refs f args σ nxt = some (v, δ)) {K : Value → World → Prop} (hk : ∀ c w' N' L', Left w N L σ nxt v δ c w' N' L' → K c w') :
    (∃ fn, P.funcs[f]? = some fn ∧ (fn.name == "runtime.NumGoroutine") = false ∧ fn.body.isNone = false) ∧ Calls P f cargs w fun e w' => ∃ c, e = .returned c ∧ K c w' := by
  unfold callX at h
  simp only at h
  split at h
  · cases h
  · rename_i hchk
    simp only [Bool.or_eq_true, not_or, Bool.not_eq_true] at hchk
    obtain ⟨hchk1, hchk2⟩ := hchk
    generalize hfr : frzArgs refs args = fr at *
    generalize hl : callIds σ (passArgs σ refs args) = l at *
    have hnd : l.Nodup := by rw [← hl]; exact callIds_nodup _ _
    have hlt : ∀ i ∈ l, i < nxt := by
      intro i hi
      rcases Nat.lt_or_ge i nxt with h1 | h1
      · exact h1
      · rw [List.any_eq_false] at hchk2
        exact absurd (by simpa using h1) (hchk2 i hi)
    have hdisj : ∀ i ∈ l, i ∉ fr := by
      intro i hi hf
      rw [List.any_eq_false] at hchk1
      exact hchk1 i hf (by simpa using hi)
    cases hg : Γ f (V.ren.renL (fun j => l.idxOf? j) (passArgs σ refs args)) (pack σ l) with
    | none => rw [hg] at h; simp at h
    | some r =>
      obtain ⟨v0, σ'⟩ := r
      rw [hg] at h
      simp only [Option.some.injEq, Prod.mk.injEq] at h
      obtain ⟨hv, hδ⟩ := h
      obtain ⟨hlen, hfn, hcall⟩ := hΓ _ _ _ _ _ hg
      refine ⟨hfn, ?_⟩
      have fz := freeze_good hs fr
      obtain ⟨hpl, hpr⟩ := pass_rel (refs := refs) hs hcs ha
      rw [hfr] at hpr
      -- the callee's own view
      have hget1 : ∀ i ∈ l, (σ.app (frz σ fr)).get i = σ.get i := fun i hi => by rw [get_frz, if_neg (hdisj i hi)]
      have hpack : pack (σ.app (frz σ fr)) l = pack σ l := by
        unfold pack
        refine List.map_congr_left fun i hi => ?_
        rw [hget1 i hi]
      have hs1 : SRel w (fun b => N b ∨ Fz L σ fr b) (Lpack L l) (pack σ l) := by rw [← hpack]; exact pack_rel fz.2 hnd
      have hargs : ∀ (i : Nat) v c, (V.ren.renL (fun j => l.idxOf? j) (passArgs σ refs args))[i]? = some v → cargs[i]? = some c → RS w (fun b => N b ∨ Fz L σ fr b) (Lpack L l) v c := by
        intro i v c hv hc
        rw [renL_eq, List.getElem?_map] at hv
        cases hq : (passArgs σ refs args)[i]? with
        | none => rw [hq] at hv; simp at hv
        | some q =>
          rw [hq] at hv
          simp at hv
          subst hv
          exact ren_rs (pack_hf l) (hpr i q c hq hc)
      have hcall2 := hcall w _ _ cargs hs1 lpack_lt (by rw [renL_eq]; simp [hcs, hpl]) hargs
      refine hcall2.mono ?_
      rintro e w' ⟨c, N2, L2, rfl, hev, hsr, hfix, hbd, hrv⟩
      refine ⟨c, rfl, ?_⟩
      have hplen : (pack σ l).length = l.length := by simp [pack]
      rw [hplen] at hlen hfix
      have ownp : ∀ b, Own (Lpack L l) (pack σ l) b → Own L σ b := fun b h => own_pack h
      by_cases htemp : (l.isEmpty && v0.flat && σ'.isEmpty) = true
      · -- nothing was passed, nothing came back
        rw [if_pos htemp] at hδ
        simp only [Bool.and_eq_true, List.isEmpty_iff] at htemp
        obtain ⟨⟨hl0, hflat⟩, hσ'⟩ := htemp
        subst hl0; subst hσ'
        simp at hδ
        subst hδ
        rw [flat_ren _ hflat] at hv
        subst hv
        have hkeep : ∀ b, b < w.heap.size → w'.heap[b]? = w.heap[b]? := fun b hb => hev.keep b hb (by
          rintro ⟨id, o, l', hg, _⟩
          simp [pack, Store.get] at hg)
        refine hk c w' N L ⟨⟨hev.os, hev.tape, hev.output, hev.cold, hev.size, fun b hb _ => hkeep b hb, fun _ h => h, fun _ h => .inl h, fun b hb => .inr hb⟩, fun _ _ h => h, ?_, flat_v hflat hrv, fun _ _ h => .inl h⟩
        constructor
        · intro id o hgo
          refine (hs.obj id o hgo).mono (fun _ h => h) (fun b hb => hkeep b (hs.lt b hb)) (fun _ _ h => h) (fun ho l' hl' => hkeep _ (owned_lt hs hgo ho hl'))
        · exact hs.apart
        · exact hs.inj
        · exact fun b hb => Nat.lt_of_lt_of_le (hs.lt b hb) hev.size
      · rw [if_neg htemp] at hδ
        have hδ2 : δ = frz σ fr ++ backD l nxt σ' := by rw [← hδ]; rfl
        subst hδ2
        have hv2 : v = v0.ren (backOf l nxt) := hv.symm
        subst hv2
        have hnew : ∀ j, l.length ≤ j → j < σ'.length → L (nxt + (j - l.length)) = none := by
          intro j h1 h2
          have hm := backD_get l nxt σ' j h2
          rw [back_ge (by omega)] at hm
          exact hfresh _ (List.mem_append.2 (.inr hm)) (by simp)
        have hLold : ∀ id l', L id = some l' → Lback L L2 l nxt σ'.length id = some l' := by
          intro id l' hl'
          unfold Lback
          split
          · rename_i hc
            have := hnew (l.length + (id - nxt)) (by omega) (by omega)
            rw [show nxt + (l.length + (id - nxt) - l.length) = id by omega, hl'] at this
            cases this
          · exact hl'
        have hren : ∀ j l', L2 j = some l' → ∀ id, backOf l nxt j = some id → Lback L L2 l nxt σ'.length id = some l' := by
          intro j l' hj id hid
          by_cases hjl : j < l.length
          · rw [back_lt hjl] at hid
            injection hid with hid
            subst hid
            have := hfix j hjl
            rw [hj] at this
            simp only [Lpack, List.getElem?_eq_getElem hjl, Option.bind_some] at this
            exact hLold _ _ this.symm
          · rw [back_ge hjl] at hid
            injection hid with hid
            have hb := hbd j l' hj
            unfold Lback
            rw [if_pos (by omega), show l.length + (id - nxt) = j by omega]
            exact hj
        have hbnd := backD_nodup hnd hlt σ'
        have get_new : ∀ j, j < σ'.length → (σ.app (frz σ fr ++ backD l nxt σ')).get ((backOf l nxt j).getD 0) = (σ'.get j).map (Obj.ren (backOf l nxt)) := fun j hj => by
          rw [app_append]; exact get_app_mem _ _ hbnd _ (backD_get l nxt σ' j hj)
        have get_old : ∀ id, (∀ j, j < σ'.length → (backOf l nxt j).getD 0 ≠ id) → (σ.app (frz σ fr ++ backD l nxt σ')).get id = (σ.app (frz σ fr)).get id := fun id hid => by
          rw [app_append]
          refine get_app_not _ _ _ fun p hp => ?_
          obtain ⟨j, hj, e, _⟩ := backD_mem hp
          rw [e]; exact hid j hj
        have back_some : ∀ j, backOf l nxt j = some ((backOf l nxt j).getD 0) := fun j => by
          by_cases hjl : j < l.length
          · rw [back_lt hjl]; rfl
          · rw [back_ge hjl]; rfl
        have notin : ∀ id, (∀ j, j < σ'.length → (backOf l nxt j).getD 0 ≠ id) → id ∉ l := by
          intro id hid hm
          obtain ⟨j, hj, e⟩ := List.getElem_of_mem hm
          refine hid j (by omega) ?_
          rw [back_lt hj]; exact e
        have other_blk : ∀ id o l', (∀ j, j < σ'.length → (backOf l nxt j).getD 0 ≠ id) → (σ.app (frz σ fr)).get id = some o → o.owned = true → L id = some l' → ¬ Own (Lpack L l) (pack σ l) l'.blk := by
          rintro id o l' hid hgo ho hl' ⟨j, o3, l3, hg3, ho3, hl3, e3⟩
          rw [pack_get] at hg3
          cases hj : l[j]? with
          | none => rw [hj] at hg3; simp at hg3
          | some i =>
            rw [hj] at hg3
            simp only [Option.bind_some] at hg3
            cases hi : σ.get i with
            | none => rw [hi] at hg3; simp at hg3
            | some o4 =>
              rw [hi] at hg3; simp at hg3; subst hg3
              rw [ren_owned] at ho3
              have him := List.mem_of_getElem? hj
              have := fz.2.inj id i o o4 l' l3 hgo (by rw [hget1 i him]; exact hi) ho ho3 hl' (by simpa [Lpack, hj] using hl3) e3.symm
              subst this
              exact notin id hid him
        have own_new : ∀ b, Own (Lback L L2 l nxt σ'.length) (σ.app (frz σ fr ++ backD l nxt σ')) b → Own L2 σ' b ∨ ∃ id o l', (∀ j, j < σ'.length → (backOf l nxt j).getD 0 ≠ id) ∧ (σ.app (frz σ fr)).get id = some o ∧ o.owned = true ∧ L id = some l' ∧ l'.blk = b := by
          rintro b ⟨id, o, l', hgo, ho, hl', e⟩
          by_cases hid : ∃ j, j < σ'.length ∧ (backOf l nxt j).getD 0 = id
          · obtain ⟨j, hj, rfl⟩ := hid
            rw [get_new j hj] at hgo
            cases hq : σ'.get j with
            | none => rw [hq] at hgo; simp at hgo
            | some o2 =>
              rw [hq] at hgo; simp at hgo; subst hgo
              rw [ren_owned] at ho
              obtain ⟨l2, hl2⟩ := obj_loc hsr hq
              have := hren j l2 hl2 _ (back_some j)
              rw [hl'] at this; injection this with this; subst this
              exact .inl ⟨j, o2, l', hq, ho, hl2, e⟩
          · have hid' : ∀ j, j < σ'.length → (backOf l nxt j).getD 0 ≠ id := fun j hj e => hid ⟨j, hj, e⟩
            rw [get_old id hid'] at hgo
            obtain ⟨l0, hl0⟩ := obj_loc fz.2 hgo
            have := hLold id l0 hl0
            rw [hl'] at this; injection this with this; subst this
            exact .inr ⟨id, o, l', hid', hgo, ho, hl0, e⟩
        have n2 : ∀ b, N2 b → ∀ id o l', (∀ j, j < σ'.length → (backOf l nxt j).getD 0 ≠ id) → (σ.app (frz σ fr)).get id = some o → o.owned = true → L id = some l' → l'.blk ≠ b := by
          rintro b hb id o l' hid hgo ho hl' rfl
          rcases hev.nnew _ hb with h1 | h1 | h1
          · exact fz.2.apart _ h1 ⟨id, o, l', hgo, ho, hl', rfl⟩
          · have := owned_lt fz.2 hgo ho hl'; omega
          · exact other_blk id o l' hid hgo ho hl' h1
        have hN1keep : ∀ b, (N b ∨ Fz L σ fr b) → w'.heap[b]? = w.heap[b]? := fun b hb => hev.keep b (fz.2.lt b hb) (hs1.apart b hb)
        refine hk c w' N2 (Lback L L2 l nxt σ'.length) ⟨?_, hLold, ?_, ren_rs hren hrv, ?_⟩
        · refine ⟨hev.os, hev.tape, hev.output, hev.cold, hev.size, fun b hb ho => hev.keep b hb (fun h => ho (ownp b h)), fun b hb => hev.nmono b (.inl hb), fun b hb => ?_, fun b hb => ?_⟩
          · rcases hev.nnew b hb with h1 | h1 | h1
            · rcases h1 with h1 | ⟨id, s, xs, l', _, hg', hl', e⟩
              · exact .inl h1
              · exact .inr (.inr ⟨id, _, l', hg', rfl, hl', e⟩)
            · exact .inr (.inl h1)
            · exact .inr (.inr (ownp b h1))
          · rcases own_new b hb with h1 | ⟨id, o, l', _, hgo, ho, hl', e⟩
            · rcases hev.onew b h1 with h2 | h2
              · exact .inl h2
              · exact .inr (ownp b h2)
            · exact .inr (own_frz ⟨id, o, l', hgo, ho, hl', e⟩)
        · constructor
          · intro id o hgo
            by_cases hid : ∃ j, j < σ'.length ∧ (backOf l nxt j).getD 0 = id
            · obtain ⟨j, hj, rfl⟩ := hid
              rw [get_new j hj] at hgo
              cases hq : σ'.get j with
              | none => rw [hq] at hgo; simp at hgo
              | some o2 =>
                rw [hq] at hgo; simp at hgo; subst hgo
                exact ren_obj hren (fun l' hl' => hren j l' hl' _ (back_some j)) (hsr.obj j o2 hq)
            · have hid' : ∀ j, j < σ'.length → (backOf l nxt j).getD 0 ≠ id := fun j hj e => hid ⟨j, hj, e⟩
              rw [get_old id hid'] at hgo
              refine (fz.2.obj id o hgo).mono (fun b hb => hev.nmono b hb) hN1keep hLold (fun ho l' hl' => ?_)
              exact hev.keep _ (owned_lt fz.2 hgo ho hl') (other_blk id o l' hid' hgo ho hl')
          · intro b hb ho
            rcases own_new b ho with h1 | ⟨id, o, l', hid, hgo, ho', hl', e⟩
            · exact hsr.apart b hb h1
            · exact n2 b hb id o l' hid hgo ho' hl' e
          · intro id1 id2 o1 o2 l1 l2 hg1 hg2 ho1 ho2 hl1 hl2 e
            have mixed : ∀ j o3 l3, j < σ'.length → σ'.get j = some o3 → o3.owned = true → L2 j = some l3 → ∀ id o l', (∀ j, j < σ'.length → (backOf l nxt j).getD 0 ≠ id) → (σ.app (frz σ fr)).get id = some o → o.owned = true → L id = some l' → l'.blk ≠ l3.blk := by
              intro j o3 l3 hj hq ho3 hl3 id o l' hid hgo ho hl' e
              rcases hev.onew l3.blk ⟨j, o3, l3, hq, ho3, hl3, rfl⟩ with h1 | h1
              · have := owned_lt fz.2 hgo ho hl'; omega
              · rw [← e] at h1; exact other_blk id o l' hid hgo ho hl' h1
            have look : ∀ id o l', (σ.app (frz σ fr ++ backD l nxt σ')).get id = some o → o.owned = true → Lback L L2 l nxt σ'.length id = some l' →
                (∃ j o3, j < σ'.length ∧ (backOf l nxt j).getD 0 = id ∧ σ'.get j = some o3 ∧ o3.owned = true ∧ L2 j = some l') ∨ ((∀ j, j < σ'.length → (backOf l nxt j).getD 0 ≠ id) ∧ (σ.app (frz σ fr)).get id = some o ∧ L id = some l') := by
              intro id o l' hgo ho hl'
              by_cases hid : ∃ j, j < σ'.length ∧ (backOf l nxt j).getD 0 = id
              · obtain ⟨j, hj, rfl⟩ := hid
                rw [get_new j hj] at hgo
                cases hq : σ'.get j with
                | none => rw [hq] at hgo; simp at hgo
                | some o2 =>
                  rw [hq] at hgo; simp at hgo; subst hgo
                  rw [ren_owned] at ho
                  obtain ⟨l2, hl2⟩ := obj_loc hsr hq
                  have := hren j l2 hl2 _ (back_some j)
                  rw [hl'] at this; injection this with this; subst this
                  exact .inl ⟨j, o2, hj, rfl, hq, ho, hl2⟩
              · have hid' : ∀ j, j < σ'.length → (backOf l nxt j).getD 0 ≠ id := fun j hj e => hid ⟨j, hj, e⟩
                rw [get_old id hid'] at hgo
                obtain ⟨l0, hl0⟩ := obj_loc fz.2 hgo
                have := hLold id l0 hl0
                rw [hl'] at this; injection this with this; subst this
                exact .inr ⟨hid', hgo, hl0⟩
            rcases look id1 o1 l1 hg1 ho1 hl1 with ⟨j, o3, hj, e1, hq, ho3, hl3⟩ | ⟨hid, hgo, hl'⟩
            · rcases look id2 o2 l2 hg2 ho2 hl2 with ⟨j2, o4, hj2, e2, hq2, ho4, hl4⟩ | ⟨hid2, hgo2, hl2'⟩
              · have := hsr.inj j j2 o3 o4 l1 l2 hq hq2 ho3 ho4 hl3 hl4 e
                subst this
                rw [← e1, ← e2]
              · exact absurd e.symm (mixed j o3 l1 hj hq ho3 hl3 id2 o2 l2 hid2 hgo2 ho2 hl2')
            · rcases look id2 o2 l2 hg2 ho2 hl2 with ⟨j2, o4, hj2, e2, hq2, ho4, hl4⟩ | ⟨hid2, hgo2, hl2'⟩
              · exact absurd e (mixed j2 o4 l2 hj2 hq2 ho4 hl4 id1 o1 l1 hid hgo ho1 hl')
              · exact fz.2.inj id1 id2 o1 o2 l1 l2 hgo hgo2 ho1 ho2 hl' hl2' e
          · exact hsr.lt
        · intro id l' hl'
          unfold Lback at hl'
          split at hl'
          · rename_i hc
            have hj := hbd _ _ hl'
            refine .inr ⟨_, List.mem_append.2 (.inr (backD_get l nxt σ' (l.length + (id - nxt)) hj)), ?_, hc.1⟩
            rw [back_ge (by omega)]
            simp; omega
          · exact .inl hl'

end Go.Vm
namespace Go.Vm
variable {P : Program} {w : World} {N : Nat → Prop} {L : Lmap} {σ : Store} {nxt : Nat} {ts : List V} {a : Act}

theorem good_wp {o : Oper} {v : V} {δ : Delta} {K : Act → World → Prop} {Q : Exit → Act → World → Prop} (hg : Good P (execOp a.eval o) w N L σ nxt v δ) (hk : ∀ c w' N' L', Left w N L σ nxt v δ c w' N' L' → K (a.put o.dst c) w') : o.wp P a w K Q := by
  obtain ⟨c, w', N', L', hr | ⟨hr, rfl⟩, hl⟩ := hg
  · unfold Oper.wp; rw [hr]; exact hk c w' N' L' hl
  · unfold Oper.wp; rw [hr]; exact hk _ w' N' L' hl

theorem run_callFunc {f : FuncId} {fn : Func} {args : Array Value} (hf : P.funcs[f]? = some fn) (hn : (fn.name == "runtime.NumGoroutine") = false) (hb : fn.body.isNone = false) : (callFunc f args).run P w = .ok (.enter f args) w := by
  simp [callFunc, hf]
  rw [if_neg (by simpa using hn)]
  have hb' : fn.body ≠ none := by intro h; rw [h] at hb; simp at hb
  simp [hb']

theorem wp_call {Γ : Env} (hΓ : SoundEnv P Γ) {o : Oper} {refs : List Bool} {f : FuncId} {args : List V} {cargs : Array Value} {v : V} {δ : Delta} {K : Act → World → Prop} {Q : Exit → Act → World → Prop}
    (hr : ∀ fn, P.funcs[f]? = some fn → (fn.name == "runtime.NumGoroutine") = false → fn.body.isNone = false → (execOp a.eval o).run P w = .ok (.enter f cargs) w)
    (hs : SRel w N L σ) (hcs : cargs.size = args.length) (ha : ∀ (i : Nat) v c, args[i]? = some v → cargs[i]? = some c → RS w N L v c) (hfresh : ∀ p ∈ δ, nxt ≤ p.1 → L p.1 = none) (h : callX Γ refs f args σ nxt = some (v, δ))
    (hk : ∀ c w' N' L', Left w N L σ nxt v δ c w' N' L' → K (a.put o.dst c) w') : o.wp P a w K Q := by
  obtain ⟨⟨fn, hf, hn, hb⟩, hc⟩ := callX_wp (K := fun c w' => K (a.put o.dst c) w') hΓ hs hcs ha hfresh h hk
  unfold Oper.wp
  rw [hr fn hf hn hb]
  show Calls P f cargs w _
  refine hc.mono ?_
  rintro e w' ⟨c, rfl, hkc⟩
  exact hkc

theorem args_rel (hf : FRel w N L ts a) {xs : List Operand} {ys : List O} (h : xs.mapM oOf = some ys) : ys.length = xs.length ∧ ∀ (i : Nat) v c, (ys.map (O.ev ts))[i]? = some v → (xs.map a.eval)[i]? = some c → RS w N L v c := by
  obtain ⟨hl, hg⟩ := mapM_get _ _ _ h
  refine ⟨hl, fun i v c hv hc => ?_⟩
  rw [List.getElem?_map] at hv hc
  cases hy : ys[i]? with
  | none => rw [hy] at hv; simp at hv
  | some y =>
    cases hx : xs[i]? with
    | none => rw [hx] at hc; simp at hc
    | some x =>
      rw [hy] at hv; rw [hx] at hc
      simp at hv hc; subst hv; subst hc
      exact ev_rel hf (hg i x y hx hy)

theorem mapM_pair {α β γ : Type} (f : α → Option β) (g : γ × α → Option (γ × β)) (hg : ∀ p, g p = (f p.2).map fun b => (p.1, b)) : ∀ (l : List (γ × α)) (r : List (γ × β)), l.mapM g = some r →
    r.length = l.length ∧ ∀ (i : Nat) p q, l[i]? = some p → r[i]? = some q → p.1 = q.1 ∧ f p.2 = some q.2 := by
  intro l r h
  obtain ⟨hl, hi⟩ := mapM_get _ _ _ h
  refine ⟨hl, fun i p q hp hq => ?_⟩
  have := hi i p q hp hq
  rw [hg] at this
  cases hf : f p.2 with
  | none => rw [hf] at this; simp at this
  | some b => rw [hf] at this; simp at this; subst this; exact ⟨rfl, rfl⟩


theorem fresh1 {o : Option Obj} {δ0 : Delta} (h : ∀ p ∈ δ0 ++ [(nxt, o)], nxt ≤ p.1 → L p.1 = none) : L nxt = none := h _ (List.mem_append.2 (.inr (List.mem_singleton.2 rfl))) (Nat.le_refl _)

theorem elemP_und {t e : TypeId} (he : elemP P t = some e) : P.underlying t = some (.slice e) := by
  unfold elemP at he
  cases hd : P.underlying t with
  | none => rw [hd] at he; simp at he
  | some d => rw [hd] at he; cases d <;> simp at he; subst he; rfl

theorem mapM_one {xs : List Operand} {y : O} (h : xs.mapM oOf = some [y]) : ∃ x, xs = [x] ∧ oOf x = some y := by
  cases xs with
  | nil => simp at h
  | cons x r =>
    simp only [List.mapM_cons, Option.bind_eq_bind, Option.pure_def, Option.bind_eq_some_iff, Option.some.injEq] at h
    obtain ⟨y', hy, r', hr, e⟩ := h
    simp only [List.cons.injEq] at e
    obtain ⟨rfl, rfl⟩ := e
    cases r with
    | nil => exact ⟨x, rfl, hy⟩
    | cons x2 r2 =>
      simp only [List.mapM_cons, Option.bind_eq_bind, Option.pure_def, Option.bind_eq_some_iff, Option.some.injEq] at hr
      obtain ⟨_, _, _, _, e⟩ := hr; cases e

theorem mapM_two {xs : List Operand} {y z : O} (h : xs.mapM oOf = some [y, z]) : ∃ x x', xs = [x, x'] ∧ oOf x = some y ∧ oOf x' = some z := by
  cases xs with
  | nil => simp at h
  | cons x r =>
    simp only [List.mapM_cons, Option.bind_eq_bind, Option.pure_def, Option.bind_eq_some_iff, Option.some.injEq] at h
    obtain ⟨y', hy, r', hr, e⟩ := h
    simp only [List.cons.injEq] at e
    obtain ⟨rfl, rfl⟩ := e
    obtain ⟨x2, rfl, h2⟩ := mapM_one hr
    exact ⟨x, x2, rfl, hy, h2⟩

theorem arr_one {α : Type} {xs : Array α} {x : α} (h : xs.toList = [x]) : xs = #[x] := by
  cases xs; simp at h; subst h; rfl
theorem arr_two {α : Type} {xs : Array α} {x y : α} (h : xs.toList = [x, y]) : xs = #[x, y] := by
  cases xs; simp at h; subst h; rfl

theorem call_wp {Γ : Env} (hΓ : SoundEnv P Γ) {R : FuncId → List Bool} {o : Oper} {cl : Call} {x : X} {v : V} {δ : Delta} {K : Act → World → Prop} {Q : Exit → Act → World → Prop} (hop : o.op = .call cl) (hc : comp P o.op o.type = some x) (hs : SRel w N L σ) (hf : FRel w N L ts a)
    (hfresh : ∀ p ∈ δ, nxt ≤ p.1 → L p.1 = none) (h : opV P Γ R ts σ nxt x = some (v, δ)) (hk : ∀ c w' N' L', Left w N L σ nxt v δ c w' N' L' → K (a.put o.dst c) w') : o.wp P a w K Q := by
  have hsc : ∀ {xs : List O}, x = .sc o.op o.type xs → o.wp P a w K Q := by
    rintro xs rfl
    simp only [opV, Option.map_eq_some_iff] at h
    obtain ⟨v', hb, e⟩ := h
    simp only [Prod.mk.injEq] at e
    obtain ⟨rfl, rfl⟩ := e
    exact good_wp (good_sc (by simp [hop]) hs hf hb) hk
  have hc0 := hc
  rw [hop] at hc; simp only [comp, Option.bind_eq_bind, Option.bind_eq_some_iff] at hc
  obtain ⟨xs, hxs, hc⟩ := hc
  obtain ⟨hxl, hxr⟩ := args_rel hf hxs
  unfold compCall at hc
  split at hc
  · rename_i f hcal
    simp only [Option.bind_eq_some_iff] at hc
    obtain ⟨fn0, -, hc⟩ := hc
    split at hc
    · simp only [Option.some.injEq] at hc; exact hsc (by rw [hop]; exact hc.symm)
    simp only [Option.some.injEq] at hc
    subst hc
    simp only [opV] at h
    refine wp_call (cargs := cl.args.map a.eval) hΓ (fun fn hfn hnm hbd => ?_) hs (by simp [hxl]) (fun i v c hv hcv => ?_) hfresh h hk
    · simp only [execOp, hop, resolve, hcal, Act.eval, Deferred.ofValue, Sem.run_bind, Sem.run_pure, Result.andThen_ok, invoke]
      simpa using run_callFunc (w := w) hfn hnm hbd
    · refine hxr i v c hv ?_
      simpa [← Array.getElem?_toList] using hcv
  · rename_i f hnf hcal
    simp only [Option.map_eq_some_iff] at hc
    obtain ⟨f', hf', rfl⟩ := hc
    simp only [opV] at h
    split at h
    · rename_i g first caps hv
      have hr := ev_rel hf hf'
      rw [hv] at hr
      have hr2 := rs_of hr (by simp)
      generalize hcf : a.eval f = cf at hr2
      cases hr2 with
      | clo _ _ _ ca cb hla hlb h1 h2 =>
      refine wp_call (cargs := ca ++ cl.args.map a.eval ++ cb) hΓ (fun fn hfn hnm hbd => ?_) hs (by simp [hxl, hla, hlb]) (fun i v c hv hcv => ?_) hfresh h hk
      · simp only [execOp, hop, resolve, hcal, hcf, Deferred.ofValue, Sem.run_bind, Sem.run_pure, Result.andThen_ok, invoke]
        exact run_callFunc (w := w) hfn hnm hbd
      · rcases Nat.lt_or_ge i first.length with hi | hi
        · rw [List.append_assoc, List.getElem?_append_left hi] at hv
          rw [Array.append_assoc, Array.getElem?_append_left (by omega)] at hcv
          exact .inr (h1 i v c hv hcv)
        · rw [List.append_assoc, List.getElem?_append_right hi] at hv
          rw [Array.append_assoc, Array.getElem?_append_right (by omega)] at hcv
          rw [hla] at hcv
          rcases Nat.lt_or_ge (i - first.length) xs.length with hj | hj
          · rw [List.getElem?_append_left (by simpa using hj)] at hv
            rw [Array.getElem?_append_left (by simp; rw [hxl] at hj; simpa using hj)] at hcv
            refine hxr _ v c hv ?_
            simpa [← Array.getElem?_toList] using hcv
          · rw [List.getElem?_append_right (by simpa using hj)] at hv
            rw [Array.getElem?_append_right (by simp; rw [hxl] at hj; simpa using hj)] at hcv
            refine .inr (h2 _ v c hv ?_)
            simpa [hxl] using hcv
    · cases h
  · cases hc
  · rename_i b hcal
    have T := @arr_one TypeId cl.argTypes
    have T2 := @arr_two TypeId cl.argTypes
    split at hc
    · rename_i x0 t hat
      obtain ⟨x1, hx1, hxo⟩ := mapM_one hxs
      split at hc
      · rename_i e hu
        simp only [Option.some.injEq] at hc; subst hc
        simp only [opV, Option.map_eq_some_iff] at h
        obtain ⟨n, hl, e⟩ := h
        simp only [Prod.mk.injEq] at e
        obtain ⟨rfl, rfl⟩ := e
        simp only [Option.bind_eq_bind, Option.pure_def, Option.bind_eq_some_iff, Option.some.injEq] at hl
        obtain ⟨m, hl, rfl⟩ := hl
        exact good_wp (good_len hop hcal (arr_one hx1) (arr_one hat) hu hxo hs hf hl) hk
      · rename_i hu
        simp only [Option.some.injEq] at hc; subst hc
        simp only [opV] at h
        split at h
        · rename_i s hv
          simp only [Option.some.injEq, Prod.mk.injEq] at h; obtain ⟨rfl, rfl⟩ := h
          exact good_wp (good_slen hop hcal (arr_one hx1) (arr_one hat) hu hxo hs hf hv) hk
        · cases h
      · simp only [Option.some.injEq] at hc; exact hsc (by rw [hop]; exact hc.symm)
    · rename_i x0 t hat
      obtain ⟨x1, hx1, hxo⟩ := mapM_one hxs
      split at hc
      · rename_i e hu
        simp only [Option.some.injEq] at hc; subst hc
        simp only [opV] at h
        split at h
        · rename_i hv
          simp only [Option.some.injEq, Prod.mk.injEq] at h; obtain ⟨rfl, rfl⟩ := h
          exact good_wp (good_cap hop hcal (arr_one hx1) (arr_one hat) hu hxo hs hf hv) hk
        · cases h
      · cases hc
    · rename_i a0 x0 t u hat
      obtain ⟨x1, x2, hx1, hxo, hxo2⟩ := mapM_two hxs
      simp only [Option.bind_eq_bind, Option.pure_def, Option.bind_eq_some_iff] at hc
      obtain ⟨e, he, s, hsz, bs, hbs, z, hz, hc⟩ := hc
      split at hc
      · simp at hc
      · rename_i hcnd
        have hut := elemP_und he
        have hs0 : s ≠ 0 := fun e => hcnd (.inl e)
        have hzl : z.length = s := by
          rcases Nat.decEq z.length s with h' | h'
          · exact absurd (.inr h') hcnd
          · exact h'
        try simp only [Option.bind_some] at hc
        split at hc
        · rename_i k huu
          simp only [Option.some.injEq] at hc; subst hc
          simp only [opV] at h
          split at h
          · rename_i n zs hnv hzd
            split at h
            · cases h
            · rename_i hcc
              simp only [not_or, Bool.not_eq_true, Bool.not_eq_false, Decidable.not_not] at hcc
              exact good_wp (good_appz hop hcal (arr_two hx1) (arr_two hat) hut huu hsz hbs hz hzl hs0 hxo hxo2 hs hf (fun ⟨o, ho⟩ => hfresh _ ho (Nat.le_refl _)) hnv hzd hcc.1 hcc.2.2 h) hk
          · cases h
        · rename_i e2 huu
          simp only [Option.some.injEq] at hc; subst hc
          simp only [opV, Option.bind_eq_some_iff] at h
          obtain ⟨ys, hys, h⟩ := h
          exact good_wp (good_app hop hcal (arr_two hx1) (arr_two hat) hut huu (.inl ⟨_, rfl⟩) hsz hbs hz hzl hs0 hxo hxo2 hs hf (fun ⟨o, ho⟩ => hfresh _ ho (Nat.le_refl _)) hys h) hk
        · rename_i huu
          simp only [Option.some.injEq] at hc; subst hc
          simp only [opV, Option.bind_eq_some_iff] at h
          obtain ⟨ys, hys, h⟩ := h
          exact good_wp (good_app hop hcal (arr_two hx1) (arr_two hat) hut huu (.inr rfl) hsz hbs hz hzl hs0 hxo hxo2 hs hf (fun ⟨o, ho⟩ => hfresh _ ho (Nat.le_refl _)) hys h) hk
        · cases hc
    · rename_i a0 x0 t u hat
      obtain ⟨x1, x2, hx1, hxo, hxo2⟩ := mapM_two hxs
      simp only [Option.bind_eq_bind, Option.pure_def, Option.bind_eq_some_iff] at hc
      obtain ⟨e, he, s, hsz, hc⟩ := hc
      split at hc
      · simp at hc
      · rename_i hs0
        simp only [Option.bind_some, Option.some.injEq] at hc; subst hc
        simp only [opV] at h
        exact good_wp (good_cpy hop hcal (arr_two hx1) (arr_two hat) (elemP_und he) hsz hs0 hxo hxo2 hs hf h) hk
    · rename_i x0 t hat
      obtain ⟨x1, hx1, hxo⟩ := mapM_one hxs
      simp only [Option.bind_eq_bind, Option.pure_def, Option.bind_eq_some_iff] at hc
      obtain ⟨e, he, s, hsz, z, hz, hc⟩ := hc
      split at hc
      · simp at hc
      · rename_i hcnd
        have hs0 : s ≠ 0 := fun e => hcnd (.inl e)
        have hzl : z.length = s := by
          rcases Nat.decEq z.length s with h' | h'
          · exact absurd (.inr h') hcnd
          · exact h'
        simp only [Option.bind_some, Option.some.injEq] at hc; subst hc
        simp only [opV] at h
        split at h
        · rename_i zs hv hzd
          simp only [Option.some.injEq, Prod.mk.injEq] at h; obtain ⟨rfl, rfl⟩ := h
          exact good_wp (good_clr hop hcal (arr_one hx1) (arr_one hat) (elemP_und he) hsz hz hzl hs0 hxo hs hf hzd (.inl ⟨hv, rfl⟩)) hk
        · rename_i id off len zs hv hzd
          split at h
          · rename_i hl0
            simp only [Option.some.injEq, Prod.mk.injEq] at h; obtain ⟨rfl, rfl⟩ := h
            exact good_wp (good_clr hop hcal (arr_one hx1) (arr_one hat) (elemP_und he) hsz hz hzl hs0 hxo hs hf hzd (.inr ⟨id, off, len, hv, .inl ⟨hl0, rfl⟩⟩)) hk
          · rename_i hl0
            simp only [Option.map_eq_some_iff] at h
            obtain ⟨⟨v0, δ0⟩, hcp, e⟩ := h
            simp only [Prod.mk.injEq] at e
            obtain ⟨rfl, rfl⟩ := e
            exact good_wp (good_clr hop hcal (arr_one hx1) (arr_one hat) (elemP_und he) hsz hz hzl hs0 hxo hs hf hzd (.inr ⟨id, off, len, hv, .inr ⟨hl0, v0, hcp⟩⟩)) hk
        · cases h
    all_goals first
      | (simp only [Option.some.injEq] at hc; exact hsc (by rw [hop]; exact hc.symm))
      | cases hc

theorem op_wp {Γ : Env} (hΓ : SoundEnv P Γ) {R : FuncId → List Bool} {o : Oper} {x : X} {v : V} {δ : Delta} {K : Act → World → Prop} {Q : Exit → Act → World → Prop} (hc : comp P o.op o.type = some x) (hs : SRel w N L σ) (hf : FRel w N L ts a)
    (hfresh : ∀ p ∈ δ, nxt ≤ p.1 → L p.1 = none) (h : opV P Γ R ts σ nxt x = some (v, δ)) (hk : ∀ c w' N' L', Left w N L σ nxt v δ c w' N' L' → K (a.put o.dst c) w') : o.wp P a w K Q := by
  cases hop : o.op with
  | move y =>
    rw [hop] at hc; simp only [comp, Option.map_eq_some_iff] at hc
    obtain ⟨y', hy, rfl⟩ := hc
    simp only [opV, Option.some.injEq, Prod.mk.injEq] at h
    obtain ⟨rfl, rfl⟩ := h
    exact good_wp (good_mv (.inl hop) hy hs hf) hk
  | assign y =>
    rw [hop] at hc; simp only [comp, Option.map_eq_some_iff] at hc
    obtain ⟨y', hy, rfl⟩ := hc
    simp only [opV, Option.some.injEq, Prod.mk.injEq] at h
    obtain ⟨rfl, rfl⟩ := h
    exact good_wp (good_mv (.inr hop) hy hs hf) hk
  | pick c y z =>
    rw [hop] at hc; simp only [comp, Option.bind_eq_bind, Option.pure_def, Option.bind_eq_some_iff, Option.some.injEq] at hc
    obtain ⟨c', hc', y', hy, z', hz, rfl⟩ := hc
    simp only [opV] at h
    split at h
    · rename_i t ht
      simp only [Option.some.injEq, Prod.mk.injEq] at h
      obtain ⟨rfl, rfl⟩ := h
      exact good_wp (good_pick hop hc' hy hz hs hf ht) hk
    · cases h
  | alloc e =>
    rw [hop] at hc; simp only [comp, Option.map_eq_some_iff] at hc
    obtain ⟨z, hz, rfl⟩ := hc
    simp only [opV, Option.some.injEq, Prod.mk.injEq] at h
    obtain ⟨rfl, rfl⟩ := h
    exact good_wp (good_new hop hz hs (hfresh _ (List.mem_singleton.2 rfl) (Nat.le_refl _))) hk
  | box e y =>
    rw [hop] at hc; simp only [comp, Option.bind_eq_bind, Option.pure_def, Option.bind_eq_some_iff, Option.some.injEq] at hc
    obtain ⟨n, hn', y', hy, rfl⟩ := hc
    simp only [opV] at h
    split at h
    · rename_i hcnd
      simp only [Option.some.injEq, Prod.mk.injEq] at h
      obtain ⟨rfl, rfl⟩ := h
      exact good_wp (good_box hop hy hs hf (hfresh _ (List.mem_singleton.2 rfl) (Nat.le_refl _)) (okV_bot hcnd.2) (okV_tup hcnd.2)) hk
    · cases h
  | load t y =>
    rw [hop] at hc; simp only [comp, Option.bind_eq_bind, Option.pure_def, Option.bind_eq_some_iff, Option.some.injEq] at hc
    obtain ⟨ag, hag, n, hn', y', hy, rfl⟩ := hc
    simp only [opV, Option.bind_eq_some_iff, Option.map_eq_some_iff] at h
    obtain ⟨vs, hr, v', hm, e⟩ := h
    simp only [Prod.mk.injEq] at e
    obtain ⟨rfl, rfl⟩ := e
    exact good_wp (good_ld hop hag hn' hy hs hf hr hm) hk
  | store t y z =>
    rw [hop] at hc; simp only [comp, Option.bind_eq_bind, Option.pure_def, Option.bind_eq_some_iff, Option.some.injEq] at hc
    obtain ⟨n, hn', y', hy, z', hz, rfl⟩ := hc
    simp only [opV, Option.map_eq_some_iff] at h
    obtain ⟨δ', hw, e⟩ := h
    simp only [Prod.mk.injEq] at e
    obtain ⟨rfl, rfl⟩ := e
    exact good_wp (good_st hop hn' hz hy hs hf hw) hk
  | nilCheck y =>
    rw [hop] at hc; simp only [comp, Option.map_eq_some_iff] at hc
    obtain ⟨y', hy, rfl⟩ := hc
    simp only [opV] at h
    split at h
    · rename_i id i k hv
      simp only [Option.some.injEq, Prod.mk.injEq] at h; obtain ⟨rfl, rfl⟩ := h
      rw [← hv] at hk
      exact good_wp (good_nchk hop hy hs hf (.inl ⟨id, i, k, hv⟩)) hk
    · rename_i c k hv
      simp only [Option.some.injEq, Prod.mk.injEq] at h; obtain ⟨rfl, rfl⟩ := h
      rw [← hv] at hk
      exact good_wp (good_nchk hop hy hs hf (.inr (.inl ⟨c, k, hv⟩))) hk
    · rename_i f p q hv
      simp only [Option.some.injEq, Prod.mk.injEq] at h; obtain ⟨rfl, rfl⟩ := h
      rw [← hv] at hk
      exact good_wp (good_nchk hop hy hs hf (.inr (.inr ⟨f, p, q, hv⟩))) hk
    · cases h
  | fieldAddr t y j =>
    rw [hop] at hc; simp only [comp] at hc
    split at hc
    · rename_i fields hu
      simp only [Option.bind_eq_bind, Option.bind_eq_some_iff] at hc
      obtain ⟨f, hj, sz, hz, hc⟩ := hc
      split at hc
      · simp at hc
      · rename_i h0
        simp only [Option.bind_eq_some_iff, Option.some.injEq, Option.pure_def, Option.bind_some] at hc
        obtain ⟨y', hy, rfl⟩ := hc
        simp only [opV] at h
        have hp : ptrAdd f.offset (y'.ev ts) = some v ∧ δ = [] := by
          split at h
          · rename_i hv; rw [hv]; simp only [Option.some.injEq, Prod.mk.injEq] at h; exact ⟨by rw [← h.1]; rfl, h.2.symm⟩
          · rename_i hv; rw [hv]; simp only [Option.some.injEq, Prod.mk.injEq] at h; exact ⟨by rw [← h.1]; rfl, h.2.symm⟩
          · cases h
        obtain ⟨hp, rfl⟩ := hp
        exact good_wp (good_fa hop hu hj hz h0 hy hs hf hp) hk
    · cases hc
  | field t y j =>
    rw [hop] at hc; simp only [comp] at hc
    split at hc
    · rename_i fields hu
      simp only [Option.bind_eq_bind, Option.pure_def, Option.bind_eq_some_iff, Option.some.injEq] at hc
      obtain ⟨f, hj, ag, hag, n, hz, y', hy, rfl⟩ := hc
      simp only [opV] at h
      split at h
      · rename_i cs hv
        split at h
        · rename_i hle
          simp only [Option.map_eq_some_iff] at h
          obtain ⟨v', hm, e⟩ := h
          simp only [Prod.mk.injEq] at e
          obtain ⟨rfl, rfl⟩ := e
          exact good_wp (good_fld hop hu hj hz hag hy hs hf hv hle hm) hk
        · cases h
      · cases h
    · cases hc
  | extract y i =>
    rw [hop] at hc; simp only [comp, Option.map_eq_some_iff] at hc
    obtain ⟨y', hy, rfl⟩ := hc
    simp only [opV] at h
    split at h
    · rename_i vs hv
      simp only [Option.map_eq_some_iff] at h
      obtain ⟨v', hi, e⟩ := h
      simp only [Prod.mk.injEq] at e
      obtain ⟨rfl, rfl⟩ := e
      exact good_wp (good_ext hop hy hs hf hv hi) hk
    · cases h
  | panic y =>
    rw [hop] at hc; simp only [comp, Option.some.injEq] at hc
    subst hc
    simp [opV] at h
  | build t parts =>
    rw [hop] at hc; simp only [comp, Option.bind_eq_bind, Option.pure_def, Option.bind_eq_some_iff] at hc
    obtain ⟨z, hz, xs, hxs, hc⟩ := hc
    obtain ⟨hxl, hxi⟩ := mapM_pair oOf _ (fun p => by cases h : oOf p.2 <;> simp [h]) _ _ hxs
    split at hc
    · rename_i fields hu
      simp only [Option.bind_eq_some_iff, Option.some.injEq] at hc
      obtain ⟨pl, hpl, ps, hps, rfl⟩ := hc
      simp only [opV, Option.map_eq_some_iff] at h
      obtain ⟨cs, hfl, e⟩ := h
      simp only [Prod.mk.injEq] at e
      obtain ⟨rfl, rfl⟩ := e
      obtain ⟨hpsl, hpsi⟩ := mapM_get _ _ _ hps
      refine good_wp (good_build (pl := fun x => pl[x]?) hop hz (fun v i mp hi hzv => ?_) (by rw [hpsl, hxl]) (fun i p q hp hq => ?_) hs hf hfl) hk
      · unfold Program.built
        simp only [hi, hu, hzv, hpl]
        simp
      · have hxil : i < xs.length := by
          rw [hxl]
          rcases Nat.lt_or_ge i parts.toList.length with h | h
          · exact h
          · rw [List.getElem?_eq_none h] at hp; cases hp
        have hx := List.getElem?_eq_getElem hxil
        obtain ⟨e1, e2⟩ := hxi i p _ hp hx
        have e3 := hpsi i _ q hx hq
        simp only [Option.bind_eq_some_iff, Option.some.injEq] at e3
        obtain ⟨pp, hpp, rfl⟩ := e3
        exact ⟨by rw [e1]; exact hpp, e2⟩
    · rename_i n e hu
      simp only [Option.bind_eq_some_iff, Option.some.injEq] at hc
      obtain ⟨s, hsz, rfl⟩ := hc
      simp only [opV, Option.map_eq_some_iff] at h
      obtain ⟨cs, hfl, e0⟩ := h
      simp only [Prod.mk.injEq] at e0
      obtain ⟨rfl, rfl⟩ := e0
      refine good_wp (good_build (pl := fun i => some (i * s, s)) hop hz (fun v i mp hi hzv => ?_) (by simp [hxl]) (fun i p q hp hq => ?_) hs hf hfl) hk
      · unfold Program.built
        unfold szP at hsz
        cases hie : P.info? e with
        | none => rw [hie] at hsz; simp at hsz
        | some ie =>
          rw [hie] at hsz; simp at hsz; subst hsz
          simp only [hi, hu, hzv, hie]
      · rw [List.getElem?_map] at hq
        cases hx : xs[i]? with
        | none => rw [hx] at hq; simp at hq
        | some x0 =>
          rw [hx] at hq; simp at hq; subst hq
          obtain ⟨e1, e2⟩ := hxi i p _ hp hx
          exact ⟨by simp [e1], e2⟩
    · cases hc
  | buildSlice t len parts =>
    rw [hop] at hc; simp only [comp, Option.bind_eq_bind, Option.pure_def, Option.bind_eq_some_iff] at hc
    obtain ⟨e, he, s, hsz, hc⟩ := hc
    split at hc
    · simp at hc
    · rename_i hcnd
      simp only [Option.bind_eq_some_iff, Option.bind_some] at hc
      obtain ⟨xs, hxs, z, hz, hc⟩ := hc
      split at hc
      · simp at hc
      · rename_i hzl
        simp only [Option.bind_some, Option.some.injEq] at hc
        subst hc
        obtain ⟨hxl, hxi⟩ := mapM_pair oOf _ (fun p => by cases h : oOf p.2 <;> simp [h]) _ _ hxs
        have hu : P.underlying t = some (.slice e) := by
          unfold elemP at he
          cases hd : P.underlying t with
          | none => rw [hd] at he; simp at he
          | some d => rw [hd] at he; cases d <;> simp at he; subst he; rfl
        simp only [opV] at h
        split at h
        · cases h
        · split at h
          · rename_i cs hfl
            split at h
            · rename_i ds hds
              simp only [Option.some.injEq, Prod.mk.injEq] at h
              obtain ⟨rfl, rfl⟩ := h
              exact good_wp (good_lit hop hu hsz (by omega) (by omega) hz (by simpa using hzl) hxl hxi hs hf (fresh1 hfresh) hfl hds) hk
            · cases h
          · cases h
  | binOp op t y z u =>
    rw [hop] at hc; simp only [comp] at hc
    split at hc
    · simp only [Option.bind_eq_bind, Option.pure_def, Option.bind_eq_some_iff, Option.some.injEq] at hc
      obtain ⟨y', hy, z', hz, rfl⟩ := hc
      simp only [opV, Option.map_eq_some_iff] at h
      obtain ⟨v', hb, e⟩ := h
      simp only [Prod.mk.injEq] at e
      obtain ⟨rfl, rfl⟩ := e
      exact good_wp (good_bin hop hy hz hs hf hb) hk
    · have sc : ∀ {x : X}, (do return X.sc (.binOp op t y z u) o.type [← oOf y, ← oOf z] : Option X) = some x → opV P Γ R ts σ nxt x = some (v, δ) → o.wp P a w K Q := by
        intro x hc h
        simp only [Option.bind_eq_bind, Option.pure_def, Option.bind_eq_some_iff, Option.some.injEq] at hc
        obtain ⟨y', hy, z', hz, rfl⟩ := hc
        simp only [opV, Option.map_eq_some_iff] at h
        obtain ⟨v', hb, e⟩ := h
        simp only [Prod.mk.injEq] at e
        obtain ⟨rfl, rfl⟩ := e
        exact good_wp (good_sc (by simp [hop]) hs hf (by rw [hop]; exact hb)) hk
      have isn : ∀ {x : X} {k : Nat} {neg : Bool}, op = (bif neg then .neq else .eql) → kindP P t = some k → (if nilOf k z then (oOf y).map (X.isnil k neg) else if nilOf k y then (oOf z).map (X.isnil k neg) else none) = some x → opV P Γ R ts σ nxt x = some (v, δ) → o.wp P a w K Q := by
        intro x k neg he hkd hc h
        have fin : ∀ q q', ((nilOf k z = true ∧ q = y) ∨ (nilOf k y = true ∧ q = z)) → oOf q = some q' → x = X.isnil k neg q' → o.wp P a w K Q := by
          rintro q q' hq hq' rfl
          simp only [opV, Option.map_eq_some_iff] at h
          obtain ⟨b, hb, e⟩ := h
          simp only [Prod.mk.injEq] at e
          obtain ⟨rfl, rfl⟩ := e
          exact good_wp (good_isnil (neg := neg) (by rw [hop, he]) hkd hq hq' hs hf hb) hk
        split at hc
        · rename_i hnz
          simp only [Option.map_eq_some_iff] at hc
          obtain ⟨q', hq', e⟩ := hc
          exact fin y q' (.inl ⟨hnz, rfl⟩) hq' e.symm
        · split at hc
          · rename_i _ hny
            simp only [Option.map_eq_some_iff] at hc
            obtain ⟨q', hq', e⟩ := hc
            exact fin z q' (.inr ⟨hny, rfl⟩) hq' e.symm
          · cases hc
      have bq : ∀ {x : X} {neg : Bool}, op = (bif neg then .neq else .eql) → P.underlying t = some .bool → (do return X.beq neg (← oOf y) (← oOf z) : Option X) = some x → opV P Γ R ts σ nxt x = some (v, δ) → o.wp P a w K Q := by
        intro x neg he hu hc h
        simp only [Option.bind_eq_bind, Option.pure_def, Option.bind_eq_some_iff, Option.some.injEq] at hc
        obtain ⟨y', hy, z', hz, rfl⟩ := hc
        simp only [opV] at h
        split at h
        · rename_i p q hp hq
          simp only [Option.some.injEq, Prod.mk.injEq] at h
          obtain ⟨rfl, rfl⟩ := h
          have := good_beq (nxt := nxt) hop (by subst he; cases neg <;> simp) hu hy hz hs hf hp hq
          refine good_wp ?_ hk
          subst he
          cases neg <;> exact this
        · cases h
      split at hc
      · rename_i hu; exact bq (neg := false) rfl hu hc h
      · rename_i hu; exact bq (neg := true) rfl hu hc h
      · split at hc
        · rename_i k hkd; exact isn (neg := false) rfl hkd hc h
        · exact sc hc h
      · split at hc
        · rename_i k hkd; exact isn (neg := true) rfl hkd hc h
        · exact sc hc h
      · cases hc
  | unOp op t y =>
    have sc : ∀ {x : X}, (do return X.sc (.unOp op t y) o.type [← oOf y] : Option X) = some x → opV P Γ R ts σ nxt x = some (v, δ) → o.wp P a w K Q := by
      intro x hc h
      simp only [Option.bind_eq_bind, Option.pure_def, Option.bind_eq_some_iff, Option.some.injEq] at hc
      obtain ⟨y', hy, rfl⟩ := hc
      simp only [opV, Option.map_eq_some_iff] at h
      obtain ⟨v', hb, e⟩ := h
      simp only [Prod.mk.injEq] at e
      obtain ⟨rfl, rfl⟩ := e
      exact good_wp (good_sc (by simp [hop]) hs hf (by rw [hop]; exact hb)) hk
    rw [hop] at hc
    cases op with
    | not =>
      simp only [comp, Option.map_eq_some_iff] at hc
      obtain ⟨y', hy, rfl⟩ := hc
      simp only [opV] at h
      split at h
      · rename_i b hb
        simp only [Option.some.injEq, Prod.mk.injEq] at h
        obtain ⟨rfl, rfl⟩ := h
        exact good_wp (good_not hop hy hs hf hb) hk
      · cases h
    | _ => exact sc hc h
  | convert s d y =>
    rw [hop] at hc; simp only [comp] at hc
    split at hc
    · rename_i k2 k hu1 hu2
      simp only [Option.map_eq_some_iff] at hc
      obtain ⟨y', hy, rfl⟩ := hc
      simp only [opV] at h
      split at h
      · rename_i k' n hv
        simp only [Option.some.injEq, Prod.mk.injEq] at h
        obtain ⟨rfl, rfl⟩ := h
        exact good_wp (good_conv hop hu1 hu2 hy hs hf hv) hk
      · cases h
    · simp only [Option.bind_eq_bind, Option.pure_def, Option.bind_eq_some_iff, Option.some.injEq] at hc
      obtain ⟨y', hy, rfl⟩ := hc
      simp only [opV, Option.map_eq_some_iff] at h
      obtain ⟨v', hb, e⟩ := h
      simp only [Prod.mk.injEq] at e
      obtain ⟨rfl, rfl⟩ := e
      exact good_wp (good_sc (by simp [hop]) hs hf (by rw [hop]; exact hb)) hk
  | makeInterface t y =>
    rw [hop] at hc; simp only [comp] at hc
    simp only [Option.bind_eq_bind, Option.pure_def, Option.bind_eq_some_iff, Option.some.injEq] at hc
    obtain ⟨y', hy, rfl⟩ := hc
    simp only [opV, Option.map_eq_some_iff] at h
    obtain ⟨v', hb, e⟩ := h
    simp only [Prod.mk.injEq] at e
    obtain ⟨rfl, rfl⟩ := e
    exact good_wp (good_sc (by simp [hop]) hs hf (by rw [hop]; exact hb)) hk
  | makeFunc fn first caps =>
    rw [hop] at hc
    cases fn with
    | func f =>
      simp only [comp, Option.bind_eq_bind, Option.pure_def, Option.bind_eq_some_iff, Option.some.injEq] at hc
      obtain ⟨xs, hx, ys, hy, rfl⟩ := hc
      simp only [opV] at h
      split at h
      · rename_i hok
        simp only [Option.some.injEq, Prod.mk.injEq] at h
        obtain ⟨rfl, rfl⟩ := h
        exact good_wp (good_mkf hop hx hy hs hf hok) hk
      · cases h
    | _ => simp [comp] at hc
  | makeSlice t l c =>
    rw [hop] at hc; simp only [comp, Option.bind_eq_bind, Option.pure_def, Option.bind_eq_some_iff] at hc
    obtain ⟨e, he, s, hsz, z, hz, hc⟩ := hc
    split at hc
    · simp at hc
    · simp only [Option.bind_eq_some_iff, Option.bind_some, Option.some.injEq] at hc
      obtain ⟨bs, hbs, l', hl', c', hc', rfl⟩ := hc
      have hu : P.underlying t = some (.slice e) := by
        unfold elemP at he
        cases hd : P.underlying t with
        | none => rw [hd] at he; simp at he
        | some d => rw [hd] at he; cases d <;> simp at he; subst he; rfl
      simp only [opV] at h
      split at h
      · rename_i l0 c0 z0 hl0 hc0 hz0
        split at h
        · rename_i hcnd
          simp only [Option.some.injEq, Prod.mk.injEq] at h
          obtain ⟨rfl, rfl⟩ := h
          exact good_wp (good_mks hop hu hsz hbs hz hl' hc' hs hf (hfresh _ (List.mem_singleton.2 rfl) (Nat.le_refl _)) hl0 hc0 hz0 hcnd) hk
        · cases h
      · cases h
  | slice t y lo hi mx =>
    rw [hop] at hc
    cases mx with
    | some m => simp [comp] at hc
    | none =>
      simp only [comp] at hc
      split at hc
      · rename_i e hu
        simp only [Option.bind_eq_bind, Option.pure_def, Option.bind_eq_some_iff] at hc
        obtain ⟨lo', hlo, hi', hhi, s, hsz, hc⟩ := hc
        split at hc
        · simp at hc
        rename_i hs0
        simp only [Option.bind_eq_some_iff, Option.bind_some, Option.some.injEq] at hc
        obtain ⟨y', hy, rfl⟩ := hc
        simp only [opV, Option.map_eq_some_iff] at h
        obtain ⟨v', hsl, e⟩ := h
        simp only [Prod.mk.injEq] at e
        obtain ⟨rfl, rfl⟩ := e
        by_cases hstr : ∃ q, y'.ev ts = .d (.str q)
        · obtain ⟨q, hq⟩ := hstr
          rw [hq] at hsl
          simp [sliceV, hs0] at hsl
        · exact good_wp (good_sl hop hu hsz hy hlo hhi hs hf hsl (fun q e => hstr ⟨q, e⟩)) hk
      · rename_i hu
        simp only [Option.bind_eq_bind, Option.pure_def, Option.bind_eq_some_iff, Option.some.injEq] at hc
        obtain ⟨lo', hlo, hi', hhi, y', hy, rfl⟩ := hc
        simp only [opV, Option.map_eq_some_iff] at h
        obtain ⟨v', hsl, e⟩ := h
        simp only [Prod.mk.injEq] at e
        obtain ⟨rfl, rfl⟩ := e
        generalize hye : y'.ev ts = ye at hsl
        unfold sliceV at hsl
        split at hsl
        · rename_i q
          rw [if_neg (by simp)] at hsl
          simp only [Option.bind_eq_some_iff, Option.some.injEq] at hsl
          obtain ⟨h1, hh1, l1, hl1, rfl⟩ := hsl
          exact good_wp (good_sl_str hop hu hy hlo hhi hs hf hye hh1 hl1) hk
        · simp at hsl
        · simp at hsl
        · rename_i id off len
          have row : ∀ (s' : Nat) (xs : List (List D)), σ.get id = some (.row s' xs) ∨ σ.get id = some (.imm s' xs) → s' ≠ 0 := by
            intro s' xs hg
            rcases hg with hg | hg
            · obtain ⟨l2, _, _, _, h5, h6, _⟩ := hs.obj id _ hg; omega
            · obtain ⟨l2, _, h5, h6, _⟩ := hs.obj id _ hg; omega
          split at hsl
          · rename_i s' xs hg
            have := row s' xs (.inl hg)
            rw [if_neg (by rintro ⟨_, e⟩; exact this e)] at hsl; cases hsl
          · rename_i s' xs hg
            have := row s' xs (.inr hg)
            rw [if_neg (by rintro ⟨_, e⟩; exact this e)] at hsl; cases hsl
          · cases hsl
        · cases hsl
      · cases hc
  | indexAddr t y i =>
    rw [hop] at hc; simp only [comp] at hc
    split at hc
    · rename_i e hu
      simp only [Option.bind_eq_bind, Option.pure_def, Option.bind_eq_some_iff] at hc
      obtain ⟨s, hsz, hc⟩ := hc
      split at hc
      · simp at hc
      · simp only [Option.bind_eq_some_iff, Option.bind_some, Option.some.injEq] at hc
        obtain ⟨y', hy, i', hi, rfl⟩ := hc
        simp only [opV] at h
        split at h
        · cases h
        · rename_i n hn'
          have hq : ∃ k, i'.ev ts = .d (.int k n) := by
            generalize i'.ev ts = iv at hn'
            cases iv with
            | d x => cases x <;> simp [asInt] at hn'; subst hn'; exact ⟨_, rfl⟩
            | _ => simp [asInt] at hn'
          obtain ⟨k, hq⟩ := hq
          split at h
          · cases h
          · rename_i h0
            split at h
            · rename_i xs hv
              split at h
              · rename_i el hel
                split at h
                · rename_i hlen
                  simp only [Option.some.injEq, Prod.mk.injEq] at h
                  obtain ⟨rfl, rfl⟩ := h
                  exact good_wp (good_ixs_lst hop hu hsz hy hi hs hf hq h0 hv hel hlen) hk
                · cases h
              · cases h
            · rename_i id off len hv
              split at h
              · rename_i hlt
                split at h
                · rename_i s' xs hg
                  split at h
                  · rename_i hcnd
                    simp only [Option.some.injEq, Prod.mk.injEq] at h
                    obtain ⟨rfl, rfl⟩ := h
                    exact good_wp (good_ixs_arr hop hu hsz hy hi hs hf hq h0 hv hlt (.inl hg) hcnd.1) hk
                  · cases h
                · rename_i s' xs hg
                  split at h
                  · rename_i hcnd
                    simp only [Option.some.injEq, Prod.mk.injEq] at h
                    obtain ⟨rfl, rfl⟩ := h
                    exact good_wp (good_ixs_arr hop hu hsz hy hi hs hf hq h0 hv hlt (.inr hg) hcnd.1) hk
                  · cases h
                · cases h
              · cases h
            · cases h
    · rename_i n e hu
      simp only [Option.bind_eq_bind, Option.pure_def, Option.bind_eq_some_iff] at hc
      obtain ⟨s, hsz, hc⟩ := hc
      split at hc
      · simp at hc
      · rename_i hcnd
        simp only [Option.bind_eq_some_iff, Option.bind_some, Option.some.injEq] at hc
        obtain ⟨y', hy, i', hi, rfl⟩ := hc
        simp only [opV] at h
        split at h
        · cases h
        · rename_i q hn'
          have hq : ∃ k, i'.ev ts = .d (.int k q) := by
            generalize i'.ev ts = iv at hn'
            cases iv with
            | d x => cases x <;> simp [asInt] at hn'; subst hn'; exact ⟨_, rfl⟩
            | _ => simp [asInt] at hn'
          obtain ⟨k, hq⟩ := hq
          split at h
          · cases h
          · rename_i h0
            have hp : ptrAdd (q.toNat * s) (y'.ev ts) = some v ∧ δ = [] := by
              split at h
              · rename_i hv; rw [hv]; simp only [Option.some.injEq, Prod.mk.injEq] at h; exact ⟨by rw [← h.1]; rfl, h.2.symm⟩
              · rename_i hv; rw [hv]; simp only [Option.some.injEq, Prod.mk.injEq] at h; exact ⟨by rw [← h.1]; rfl, h.2.symm⟩
              · cases h
            obtain ⟨hp, rfl⟩ := hp
            exact good_wp (good_ixa hop hu hsz (by omega) hy hi hs hf hq h0 hp) hk
    · cases hc
  | index t y i =>
    rw [hop] at hc; simp only [comp] at hc
    split at hc
    · rename_i hu
      simp only [Option.bind_eq_bind, Option.pure_def, Option.bind_eq_some_iff, Option.some.injEq] at hc
      obtain ⟨y', hy, i', hi, rfl⟩ := hc
      simp only [opV] at h
      split at h
      · rename_i s n hv hn'
        have hq : ∃ k, i'.ev ts = .d (.int k n) := by
          generalize i'.ev ts = iv at hn'
          cases iv with
          | d x => cases x <;> simp [asInt] at hn'; subst hn'; exact ⟨_, rfl⟩
          | _ => simp [asInt] at hn'
        obtain ⟨k, hq⟩ := hq
        split at h
        · rename_i h0
          split at h
          · rename_i b hb
            simp only [Option.some.injEq, Prod.mk.injEq] at h
            obtain ⟨rfl, rfl⟩ := h
            exact good_wp (good_sidx hop hu hy hi hs hf hv hq h0 hb) hk
          · cases h
        · cases h
      · cases h
    · cases hc
  | call c => exact call_wp hΓ hop (by first | exact hc | (rw [hop]; exact hc) | (rw [← hop]; exact hc) | (rw [hop] at hc; rw [hop]; exact hc)) hs hf hfresh h hk
  | _ => rw [hop] at hc; simp [comp] at hc

end Go.Vm
