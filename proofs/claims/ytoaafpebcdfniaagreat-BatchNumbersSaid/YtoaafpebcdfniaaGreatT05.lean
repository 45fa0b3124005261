/- A part of the proofs of the statements BatchTells and BatchNumbers: Vs14, Vs15, Vs16, Vs17, Vs18. Conditions: none of its own. -/
import Derived.Test.YtoaafpebcdfniaaGreatT04
import Derived.Laws.MakeOwn
set_option linter.unusedSimpArgs false
set_option linter.unusedVariables false
set_option linter.unnecessarySimpa false
set_option linter.all false
namespace Go.Vm
variable {P : Program} {w : World} {N : Nat → Prop} {L : Lmap} {σ : Store} {nxt : Nat} {ts : List V} {a : Act}

theorem Left.after {w1 w' : World} {N1 N' : Nat → Prop} {L' : Lmap} {v : V} {δ0 δ : Delta} {c : Value} (h0 : Evo w N L σ w1 N1 L (σ.app δ0)) (h : Left w1 N1 L (σ.app δ0) nxt v δ c w' N' L') : Left w N L σ nxt v (δ0 ++ δ) c w' N' L' :=
  ⟨by rw [app_append]; exact h0.trans h.evo, h.lm, by rw [app_append]; exact h.rel, h.val, fun id l hl => (h.new id l hl).imp (fun h => h) fun ⟨p, hp, e⟩ => ⟨p, List.mem_append.2 (.inr hp), e⟩⟩

/-- Where an append must grow. -/
theorem append_grow {s bytes : Nat} {av v : V} {δ : Delta} {ys : List (List D)} {base : Option Addr} {sLen sCap newCap : Nat} {news zs : List Value} {e : TypeId} {dn : Nat} (hs : SRel w N L σ) (hn : (∃ o, (nxt, o) ∈ δ) → L nxt = none) (hv : RS w N L av (.slice base sLen sCap)) (h : appendV σ nxt s bytes av ys = some (v, δ)) (hne : ys ≠ []) (h0 : 0 < s)
    (hnl : news.length = ys.length * s) (hel : ∀ (i : Nat) (x : List D) (k : Nat) (y : D), ys[i]? = some x → x[k]? = some y → ∃ v, news[i * s + k]? = some v ∧ RD w N y v) (hgrow : sCap < sLen + ys.length) (hcap : sLen + ys.length ≤ newCap) (hzl : zs.length = (newCap - (sLen + ys.length)) * s) :
    (small (sLen + ys.length) bytes = true) ∧ ∃ olds : List Value, (∀ d, (Builtin.firstCells s sLen (.slice base sLen sCap)).run P { w with drawn := d } = .ok olds.toArray { w with drawn := d }) ∧
      ∀ (w' : World), w' = { w with heap := w.heap.push (.cells (olds.toArray ++ news.toArray ++ zs.toArray) e (0, 0)), drawn := w'.drawn } →
      ∃ N' L', Left w N L σ nxt v δ (.slice (some ⟨w.heap.size, 0, none⟩) (sLen + ys.length) newCap) w' N' L' := by
  have hyl : 0 < ys.length := by cases ys with | nil => exact absurd rfl hne | cons _ _ => simp
  unfold appendV at h
  rw [if_neg (by omega)] at h
  split at h
  · cases h
  · rename_i hall0
    have hall := all_len (by simpa using hall0)
    cases av with
    | nils =>
      have h2 := rs_of hv (by simp)
      cases h2
      simp only at h
      split at h
      · rename_i hsm
        injection h with h; injection h with h h'; subst h; subst h'
        refine ⟨by simpa using hsm, [], fun d => by simp [Builtin.firstCells], fun w' hw => ?_⟩
        have ra := row_app (w := w) (N := N) (xs := []) (ys := ys) (s := s) (cells := #[]) (base := 0) (news := news) (cells' := (#[] ++ news.toArray ++ zs.toArray)) (fun i x hx => by simp at hx) hall (fun i x k y hx => by simp at hx) hnl hel
          (fun j hj => by simp at hj) (fun j hj => by
            have : j < news.length := by omega
            simp [List.getElem?_append_left this])
        have := left_row (nxt := nxt) (s := s) (len := ys.length) (xs := ys) (cells := #[] ++ news.toArray ++ zs.toArray) (e := e) (ids := []) (w' := w') (cap := newCap) hs (hn (by first | exact ⟨_, List.mem_cons_self ..⟩ | exact ⟨_, List.mem_cons_of_mem _ (List.mem_cons_self ..)⟩)) h0 (by simpa using hcap) (by
            simp [hnl, hzl]; rw [← Nat.add_mul]; congr 1; omega) (Nat.le_refl _) hw (by simpa using ra.1) (fun i x k y hx hk => by
            obtain ⟨c, hc, hr⟩ := ra.2 i x k y (by simpa using hx) hk
            exact ⟨c, by simpa using hc, hr.mono (fun _ h => .inl h) (fun _ _ => rfl)⟩)
        refine ⟨fun b => N b ∨ Fz L σ [] b, upd L nxt ⟨w.heap.size, 0, s, newCap⟩, ?_⟩
        simpa [frz] using this
      · cases h
    | arr id off len =>
      have h2 := rs_of hv (by simp)
      cases h2 with
      | arr _ _ _ l _ _ hl hc hle ha =>
        simp only at h
        cases hg : σ.get id with
        | none => rw [hg] at h; simp at h
        | some ob =>
          rw [hg] at h
          cases ob with
          | row s' xs =>
            simp only at h
            obtain ⟨l2, cells, e', hl2, hls, h0', hcap', hh, hz, hlenx, hy⟩ := hs.obj id _ hg
            rw [hl] at hl2; injection hl2 with hl2; subst hl2
            split at h
            · cases h
            · rename_i hss
              have hss : s' = s := by simpa using hss
              subst hss
              split at h
              · rename_i hend
                split at h
                · rename_i hsm
                  injection h with h; injection h with h h'; subst h; subst h'
                  obtain ⟨news0, hol, hoc, _, hoel⟩ := src_slice (P := P) (s := s') (ys := (xs.drop off).take sLen) hs hv (by simp only [elems, hg]; rw [if_pos (by omega)]) (fun x hx => by
                      obtain ⟨i, hi⟩ := List.getElem?_of_mem (List.mem_of_mem_drop (List.mem_of_mem_take hx))
                      exact hlenx i x hi) h0 sLen (by simp; omega)
                  · refine ⟨?_, news0, hoc, fun w' hw => ?_⟩
                    · exact small_mono hsm (by omega)
                    have hdt : (xs.drop off).take sLen = xs.drop off := by
                      rw [List.take_of_length_le (by simp; omega)]
                    rw [hdt] at hoel
                    have hdl : (xs.drop off).length = sLen := by simp; omega
                    have kg := kill_good hs id
                    have ra := row_app (w := w) (N := N) (xs := xs.drop off) (ys := ys) (s := s') (cells := news0.toArray) (base := 0) (news := news) (cells' := (news0.toArray ++ news.toArray ++ zs.toArray))
                      (fun i x hx => hlenx (off + i) x (by rwa [List.getElem?_drop] at hx)) hall (fun i x k y hx hk2 => by
                        have hi : i < sLen := by
                          rw [← hdl]
                          rcases Nat.lt_or_ge i (xs.drop off).length with h | h
                          · exact h
                          · rw [List.getElem?_eq_none h] at hx; cases hx
                        have := hoel i x k y hi hx hk2
                        simpa using this) hnl hel (fun j hj => by
                        have : j < news0.length := by rw [hol]; rw [hdl] at hj; omega
                        simp [List.getElem?_append_left this]) (fun j hj => by
                        rw [hdl]
                        simp only [List.append_toArray, List.getElem?_toArray, List.append_assoc]
                        rw [List.getElem?_append_right (by omega), List.getElem?_append_left (by omega)]
                        congr 1; omega)
                    have := left_row (nxt := nxt) (s := s') (len := sLen + ys.length) (xs := xs.drop off ++ ys) (cells := news0.toArray ++ news.toArray ++ zs.toArray) (e := e) (ids := []) (w' := w') (cap := newCap) kg.2 (hn (by first | exact ⟨_, List.mem_cons_self ..⟩ | exact ⟨_, List.mem_cons_of_mem _ (List.mem_cons_self ..)⟩)) h0 (by simp; omega) (by
                        simp [hnl, hzl, hol]
                        rw [← Nat.add_mul, ← Nat.add_mul]; congr 1; omega) (by simp; omega) hw ra.1 (fun i x k y hx hk2 => by
                        obtain ⟨c, hc, hr⟩ := ra.2 i x k y hx hk2
                        exact ⟨c, by simpa using hc, hr.mono (fun _ h => .inl h) (fun _ _ => rfl)⟩)
                    refine ⟨fun b => N b ∨ Fz L (σ.put id none) [] b, upd L nxt ⟨w.heap.size, 0, s', newCap⟩, Left.after (δ0 := [(id, none)]) kg.1 ?_⟩
                    show Left w N L (σ.put id none) nxt _ _ _ _ _ _
                    simpa [frz] using this
                · cases h
              · split at h
                · rename_i hin; omega
                · cases h
          | _ => simp at h
    | _ => simp at h


theorem size_zero (zc : Array Value) (n : Nat) : (Builtin.zeroCells zc n).size = n * zc.size := by simp [Builtin.zeroCells]

theorem fits {n old bytes : Nat} (h : old < n) (hs : small n bytes = true) : ((n : Nat) : Int) ≤ 9223372036854775807 ∧ Builtin.nextslicecap n old * bytes ≤ 281474976710656 := by
  obtain ⟨h1, h2, h3⟩ := small_bound hs
  exact ⟨by omega, growslice_fits h (by omega)⟩

theorem lenV_slice {v : V} {c : Value} {n : Nat} (hv : RS w N L v c) (h : lenV v = some n) : ∃ ad cap, c = .slice ad n cap ∧ n ≤ cap := by
  cases v with
  | nils => simp [lenV] at h; subst h; have h2 := rs_of hv (by simp); cases h2; exact ⟨_, _, rfl, Nat.le_refl _⟩
  | arr id off len => simp [lenV] at h; subst h; have h2 := rs_of hv (by simp); cases h2 with | arr _ _ _ l ad cap hl hc hle ha => exact ⟨_, _, rfl, hle⟩
  | d x =>
    cases x with
    | lst xs =>
      simp [lenV] at h; subst h
      have h2 := rs_of hv (by simp)
      cases h2 with | d _ _ h2 => cases h2 with | lst _ ad cap s cs hcap hsl ha hr => exact ⟨_, _, rfl, hcap⟩
    | _ => simp [lenV] at h
  | _ => simp [lenV] at h

theorem appendV_slice {s bytes : Nat} {av v : V} {δ : Delta} {ys : List (List D)} {c : Value} (hv : RS w N L av c) (h : appendV σ nxt s bytes av ys = some (v, δ)) : ∃ ad n cap, c = .slice ad n cap ∧ n ≤ cap := by
  unfold appendV at h
  split at h
  · cases hl : lenV av with
    | none => rw [hl] at h; simp at h
    | some n => obtain ⟨ad, cap, e, h2⟩ := lenV_slice hv hl; exact ⟨ad, n, cap, e, h2⟩
  · split at h
    · cases h
    · cases av with
      | nils => obtain ⟨ad, cap, e, h2⟩ := lenV_slice hv (n := 0) rfl; exact ⟨ad, _, cap, e, h2⟩
      | arr id off len => obtain ⟨ad, cap, e, h2⟩ := lenV_slice hv (n := len) rfl; exact ⟨ad, _, cap, e, h2⟩
      | _ => simp at h

theorem appendV_nil {s bytes : Nat} {av v : V} {δ : Delta} (h : appendV σ nxt s bytes av [] = some (v, δ)) : v = av ∧ δ = [] := by
  unfold appendV at h
  simp at h
  split at h
  · injection h with h; injection h with h h'; exact ⟨h.symm, h'.symm⟩
  · cases h

theorem news_one {s : Nat} {ys : List (List D)} {news : List Value} (hnl : news.length = ys.length * s) (hall : ∀ x ∈ ys, x.length = s)
    (hel : ∀ (i : Nat) (x : List D) (k : Nat) (y : D), ys[i]? = some x → x[k]? = some y → ∃ v, news[i * s + k]? = some v ∧ RD w N y v) : ∀ u ∈ news, one u := by
  intro u hu
  obtain ⟨j, hj⟩ := List.getElem?_of_mem hu
  have hlt : j < ys.length * s := by
    rw [← hnl]
    rcases Nat.lt_or_ge j news.length with h | h
    · exact h
    · rw [List.getElem?_eq_none h] at hj; cases hj
  obtain ⟨h1, h2, h3⟩ := div_mod_lt hlt
  have hx := List.getElem?_eq_getElem h1
  have hxl := hall _ (List.getElem_mem h1)
  obtain ⟨v, hv, hr⟩ := hel _ _ _ _ hx (List.getElem?_eq_getElem (by omega : j % s < ys[j / s].length))
  rw [h3, hj] at hv
  injection hv with hv
  subst hv
  exact one_of_rd hr

theorem good_app {o : Oper} {c : Call} {t u e : TypeId} {d : TypeDesc} {x y : Operand} {x' y' : O} {s bytes : Nat} {z : List V} {ys : List (List D)} {v : V} {δ : Delta} (ho : o.op = .call c) (hc : c.callee = .builtin .append) (hargs : c.args = #[x, y]) (ht : c.argTypes = #[t, u])
    (hut : P.underlying t = some (.slice e)) (huu : P.underlying u = some d) (hd : (∃ e', d = .slice e') ∨ d = .string) (hsz : szP P e = some s) (hby : bytesP P e = some bytes) (hz : zeroP P e = some z) (hzl : z.length = s) (h0 : s ≠ 0)
    (hx : oOf x = some x') (hy : oOf y = some y') (hs : SRel w N L σ) (hf : FRel w N L ts a) (hn : (∃ o, (nxt, o) ∈ δ) → L nxt = none) (hsrc : srcElems σ (y'.ev ts) = some ys) (h : appendV σ nxt s bytes (x'.ev ts) ys = some (v, δ)) : Good P (execOp a.eval o) w N L σ nxt v δ := by
  obtain ⟨i, zv, hi, hzv, hcr⟩ := zeroP_rel (w := w) (N := N) (L := L) hz
  have hsi : i.size = s := by simp [szP, hi] at hsz; exact hsz
  have hbi : i.bytes = bytes := by simp [bytesP, hi] at hby; exact hby
  have hzs : zv.cells.size = s := by rw [hcr.1, hzl]
  have hxr := ev_rel hf hx
  have hyr := ev_rel hf hy
  obtain ⟨base, sLen, sCap, hxe, hle⟩ := appendV_slice hxr h
  rw [hxe] at hxr
  have run : ∀ r w', (Builtin.append_ #[t, u] o.type #[.slice base sLen sCap, a.eval y]).run P w = .ok r w' → (execOp a.eval o).run P w = .ok (.value r) w' := by
    intro r w' hr
    simp [execOp, ho, resolve, hc, hargs, ht, invoke, builtin, hxe, hr]
  by_cases hne : ys = []
  · subst hne
    obtain ⟨rfl, rfl⟩ := appendV_nil h
    obtain ⟨news, hsr⟩ := src_of (P := P) (s := s) hs hyr hsrc (by simp) (by omega)
    have hn0 : news = [] := List.eq_nil_of_length_eq_zero (by have := hsr.size; simpa using this)
    subst hn0
    have h1 := run_app_room (P := P) (w := w) (ty := o.type) (base := base) (sLen := sLen) (sCap := sCap) hut huu hd hi hsr.len (by rw [hsi]; exact hsr.cells w.drawn) (by simpa using hle)
    refine good_pure (c := .slice base sLen sCap) (run _ _ ?_) hs hxr
    rw [h1]
    cases base with
    | none => simp
    | some ad => simp [storeCells]
  · have hall : ∀ q ∈ ys, q.length = s := by
      unfold appendV at h
      rw [if_neg (by simpa using hne)] at h
      split at h
      · cases h
      · rename_i hall0; exact all_len (by simpa using hall0)
    obtain ⟨news, hsr⟩ := src_of (P := P) (s := s) hs hyr hsrc hall (by omega)
    by_cases hroom : sLen + ys.length ≤ sCap
    · obtain ⟨ad, w', N', L', rfl, hst, hl⟩ := append_room (P := P) hs hn hxr h hne hsr.size (news_one hsr.size hall hsr.el) hsr.el hroom
      have h1 := run_app_room (P := P) (w := w) (ty := o.type) (base := some ad) (sLen := sLen) (sCap := sCap) hut huu hd hi hsr.len (by rw [hsi]; exact hsr.cells w.drawn) hroom
      refine ⟨_, w', N', L', .inl (run _ _ ?_), hl⟩
      rw [h1, hsi]; simp [hst]
    · have hcapg := cut_ge w (sLen + ys.length) sCap e
      obtain ⟨hsm, olds, hol, hg⟩ := append_grow (P := P) (e := e) (newCap := grownCap w (sLen + ys.length) sCap e) (zs := (Builtin.zeroCells zv.cells (grownCap w (sLen + ys.length) sCap e - (sLen + ys.length))).toList) (dn := 0) hs hn hxr h hne (by omega) hsr.size hsr.el (by omega) hcapg (by simp [size_zero, hzs])
      obtain ⟨h63, hfit⟩ := fits (show sCap < sLen + ys.length by omega) hsm
      have h1 := run_app_grow (P := P) (w := w) (ty := o.type) (base := base) (sLen := sLen) (sCap := sCap) hut huu hd hi hzv hsr.len (by rw [hsi]; exact hsr.cells _) (by rw [hsi]; exact hol _) (by omega) h63 (by rw [hbi]; exact hfit)
      obtain ⟨N', L', hl⟩ := hg { w with heap := w.heap.push (.cells (olds.toArray ++ news.toArray ++ (Builtin.zeroCells zv.cells (grownCap w (sLen + ys.length) sCap e - (sLen + ys.length))).toList.toArray) e (0, 0)), drawn := w.drawn + 1 } rfl
      refine ⟨_, _, N', L', .inl (run _ _ h1), ?_⟩
      simpa using hl

end Go.Vm
namespace Go.Vm
variable {P : Program} {w : World} {N : Nat → Prop} {L : Lmap} {σ : Store} {nxt : Nat} {ts : List V} {a : Act}

theorem zeroD_rel {z : List V} {zs : List D} {zc : Array Value} (hc : CRel w N L z zc) (h : zeroD z = some zs) : zs.length = z.length ∧ ∀ (k : Nat) y c, zs[k]? = some y → zc[k]? = some c → RD w N y c := by
  unfold zeroD at h
  obtain ⟨hl, hg⟩ := mapM_get _ _ _ h
  refine ⟨hl, fun k y c hy hck => ?_⟩
  have hk : k < z.length := by
    rw [← hl]
    rcases Nat.lt_or_ge k zs.length with h | h
    · exact h
    · rw [List.getElem?_eq_none h] at hy; cases hy
  have hz := List.getElem?_eq_getElem hk
  have h1 := hg k _ y hz hy
  have h2 := hc.2.2 k _ c hz hck
  generalize z[k] = v at h1 h2
  cases v with
  | d x => simp at h1; subst h1; cases h2 with | d _ _ h2 => exact h2
  | nils =>
    simp at h1; subst h1
    cases h2
    exact .lst [] none 0 0 (fun _ _ => undef) (by simp) (fun i x hx => by simp at hx) (fun h => absurd rfl h) (fun i x k y hx => by simp at hx)
  | _ => simp at h1

theorem zero_el {zs : List D} {zc : Array Value} {s : Nat} (hl : zs.length = s) (hz : zc.size = s) (h0 : 0 < s) (hr : ∀ (k : Nat) y c, zs[k]? = some y → zc[k]? = some c → RD w N y c) (n : Nat) :
    ∀ (i : Nat) (x : List D) (k : Nat) (y : D), (List.replicate n zs)[i]? = some x → x[k]? = some y → ∃ v, ((Array.range (n * s)).map (fun j => zc[j % zc.size]!)).toList[i * s + k]? = some v ∧ RD w N y v := by
  intro i x k y hx hk
  rw [List.getElem?_replicate] at hx
  split at hx
  · rename_i hi
    injection hx with hx; subst hx
    have hks : k < s := by
      rcases Nat.lt_or_ge k zs.length with h | h
      · omega
      · rw [List.getElem?_eq_none h] at hk; cases hk
    have h1 := mul_lt_of (s := s) hi
    have hm : (i * s + k) % s = k := by rw [Nat.add_comm, Nat.add_mul_mod_self_right, Nat.mod_eq_of_lt hks]
    refine ⟨zc[k]'(by omega), ?_, hr k y _ hk (Array.getElem?_eq_getElem (by omega))⟩
    have hlt : i * s + k < n * s := by omega
    have : (Array.range (n * s))[i * s + k]? = some (i * s + k) := by simp [hlt]
    rw [Array.getElem?_toList, Array.getElem?_map, this]
    simp only [Option.map_some, hz, hm]
    rw [getElem!_pos zc k (by omega)]
  · cases hx

theorem zeroCells_eq (zc : Array Value) (n : Nat) : Builtin.zeroCells zc n = (Array.range (n * zc.size)).map (fun j => zc[j % zc.size]!) := rfl

theorem good_appz {o : Oper} {c : Call} {t u e : TypeId} {k : IntKind} {x y : Operand} {x' y' : O} {s bytes : Nat} {z : List V} {zs : List D} {n : Int} {v : V} {δ : Delta} (ho : o.op = .call c) (hc : c.callee = .builtin .append) (hargs : c.args = #[x, y]) (ht : c.argTypes = #[t, u])
    (hut : P.underlying t = some (.slice e)) (huu : P.underlying u = some (.int k)) (hsz : szP P e = some s) (hby : bytesP P e = some bytes) (hz : zeroP P e = some z) (hzl : z.length = s) (h0 : s ≠ 0)
    (hx : oOf x = some x') (hy : oOf y = some y') (hs : SRel w N L σ) (hf : FRel w N L ts a) (hn : (∃ o, (nxt, o) ∈ δ) → L nxt = none) (hnv : asInt (y'.ev ts) = some n) (hzd : zeroD z = some zs) (hn0 : ¬ n < 0) (hsm0 : small n.toNat bytes = true)
    (h : appendV σ nxt s bytes (x'.ev ts) (List.replicate n.toNat zs) = some (v, δ)) : Good P (execOp a.eval o) w N L σ nxt v δ := by
  obtain ⟨i, zv, hi, hzv, hcr⟩ := zeroP_rel (w := w) (N := N) (L := L) hz
  have hsi : i.size = s := by simp [szP, hi] at hsz; exact hsz
  have hbi : i.bytes = bytes := by simp [bytesP, hi] at hby; exact hby
  have hzs : zv.cells.size = s := by rw [hcr.1, hzl]
  obtain ⟨hzdl, hzdr⟩ := zeroD_rel hcr hzd
  have hxr := ev_rel hf hx
  obtain ⟨k', hye⟩ := asInt_rel (ev_rel hf hy) hnv
  obtain ⟨base, sLen, sCap, hxe, hle⟩ := appendV_slice hxr h
  rw [hxe] at hxr
  obtain ⟨hb1, hb2, hb3⟩ := small_bound hsm0
  have hwr : IntKind.i64.wrap n = (n.toNat : Int) := by rw [IntKind.wrap_i64]; omega
  have run : ∀ r w', (Builtin.append_ #[t, u] o.type #[.slice base sLen sCap, .int k' n]).run P w = .ok r w' → (execOp a.eval o).run P w = .ok (.value r) w' := by
    intro r w' hr
    simp [execOp, ho, resolve, hc, hargs, ht, invoke, builtin, hxe, hye, hr]
  by_cases hne : n.toNat = 0
  · rw [hne] at h
    obtain ⟨rfl, rfl⟩ := appendV_nil h
    have h1 := run_appz_room (P := P) (w := w) (ty := o.type) (base := base) (sLen := sLen) (sCap := sCap) (n := 0) (k' := k') (m := n) hut huu hi hzv (by rw [hwr, hne]) (by omega) (by omega) (by simpa using hle)
    refine good_pure (c := .slice base sLen sCap) (run _ _ ?_) hs hxr
    rw [h1]
    cases base with
    | none => simp
    | some ad => simp [storeCells]
  · have hyne : List.replicate n.toNat zs ≠ [] := by simp [hne]
    have hel := zero_el (w := w) (N := N) (zs := zs) (zc := zv.cells) (s := s) (by omega) hzs (by omega) hzdr n.toNat
    have hze : (Builtin.zeroCells zv.cells n.toNat).toList = ((Array.range (n.toNat * s)).map (fun j => zv.cells[j % zv.cells.size]!)).toList := by rw [zeroCells_eq, hzs]
    have hnl : (Builtin.zeroCells zv.cells n.toNat).toList.length = (List.replicate n.toNat zs).length * s := by simp [size_zero, hzs]
    rw [← hze] at hel
    have hall : ∀ q ∈ List.replicate n.toNat zs, q.length = s := fun q hq => by rw [List.eq_of_mem_replicate hq]; omega
    by_cases hroom : sLen + n.toNat ≤ sCap
    · obtain ⟨ad, w', N', L', rfl, hst, hl⟩ := append_room (P := P) hs hn hxr h hyne hnl (news_one hnl hall hel) hel (by simpa using hroom)
      have h1 := run_appz_room (P := P) (w := w) (ty := o.type) (base := some ad) (sLen := sLen) (sCap := sCap) (n := n.toNat) (k' := k') (m := n) hut huu hi hzv hwr (by rw [hbi]; omega) (by omega) hroom
      simp only [List.length_replicate] at hl
      refine ⟨_, w', N', L', .inl (run _ _ ?_), hl⟩
      rw [h1, hsi]; simp [hst, hne]
    · have hcapg := cut_ge w (sLen + n.toNat) sCap e
      obtain ⟨hsm, olds, hol, hg⟩ := append_grow (P := P) (e := e) (newCap := grownCap w (sLen + n.toNat) sCap e) (zs := (Builtin.zeroCells zv.cells (grownCap w (sLen + n.toNat) sCap e - (sLen + n.toNat))).toList) (dn := 0) hs hn hxr h hyne (by omega) hnl hel (by simp; omega) (by simpa using hcapg) (by simp [size_zero, hzs])
      simp only [List.length_replicate] at hsm
      obtain ⟨h63, hfit⟩ := fits (show sCap < sLen + n.toNat by omega) hsm
      have h1 := run_appz_grow (P := P) (w := w) (ty := o.type) (base := base) (sLen := sLen) (sCap := sCap) (n := n.toNat) (k' := k') (m := n) hut huu hi hzv hwr (by rw [hsi]; exact hol _) (by rw [hbi]; omega) (by omega) (by omega) hne h63 (by rw [hbi]; exact hfit)
      obtain ⟨N', L', hl⟩ := hg { w with heap := w.heap.push (.cells (olds.toArray ++ (Builtin.zeroCells zv.cells n.toNat).toList.toArray ++ (Builtin.zeroCells zv.cells (grownCap w (sLen + n.toNat) sCap e - (sLen + n.toNat))).toList.toArray) e (0, 0)), drawn := w.drawn + 1 } rfl
      simp only [List.length_replicate] at hl
      refine ⟨_, _, N', L', .inl (run _ _ h1), ?_⟩
      simpa using hl

theorem good_mks {o : Oper} {t e : TypeId} {x y : Operand} {x' y' : O} {s bytes : Nat} {z : List V} {zs : List D} {l c : Int} (ho : o.op = .makeSlice t x y) (hut : P.underlying t = some (.slice e)) (hsz : szP P e = some s) (hby : bytesP P e = some bytes) (hz : zeroP P e = some z)
    (hx : oOf x = some x') (hy : oOf y = some y') (hs : SRel w N L σ) (hf : FRel w N L ts a) (hn : L nxt = none) (hl : asInt (x'.ev ts) = some l) (hc : asInt (y'.ev ts) = some c) (hzd : zeroD z = some zs) (hlc : 0 ≤ l ∧ l ≤ c ∧ small c.toNat bytes = true ∧ zs.length = s ∧ s ≠ 0) :
    Good P (execOp a.eval o) w N L σ nxt (.arr nxt 0 l.toNat) [(nxt, some (.row s (List.replicate c.toNat zs)))] := by
  obtain ⟨h0, h1, h2, h3, h4⟩ := hlc
  obtain ⟨i, zv, hi, hzv, hcr⟩ := zeroP_rel (w := w) (N := N) (L := L) hz
  have hsi : i.size = s := by simp [szP, hi] at hsz; exact hsz
  have hbi : i.bytes = bytes := by simp [bytesP, hi] at hby; exact hby
  obtain ⟨hzdl, hzdr⟩ := zeroD_rel hcr hzd
  have hzs : zv.cells.size = s := by rw [hcr.1]; omega
  obtain ⟨k1, e1⟩ := asInt_rel (ev_rel hf hx) hl
  obtain ⟨k2, e2⟩ := asInt_rel (ev_rel hf hy) hc
  obtain ⟨hb1, hb2, hb3⟩ := small_bound h2
  have hbytes : (i.bytes : Int) * c ≤ 281474976710656 := by
    rw [hbi, Int.mul_comm]
    have : ((c.toNat * bytes : Nat) : Int) ≤ 281474976710656 := by omega
    rw [Int.natCast_mul] at this
    rwa [show (c.toNat : Int) = c by omega] at this
  have hr := run_make (P := P) w t e i zv hut hi hzv k1 k2 l c h0 h1 hbytes (by omega)
  have hel := zero_el (w := w) (N := N) (zs := zs) (zc := zv.cells) (s := s) h3 hzs (by omega) hzdr c.toNat
  have hmade : madeCells zv.cells (c.toNat * i.size) = (Array.range (c.toNat * s)).map (fun j => zv.cells[j % zv.cells.size]!) := by rw [hsi]; rfl
  have := left_row (nxt := nxt) (s := s) (len := l.toNat) (xs := List.replicate c.toNat zs) (cells := (Array.range (c.toNat * s)).map (fun j => zv.cells[j % zv.cells.size]!)) (e := e) (ids := []) (w' := w.alloc (.cells (madeCells zv.cells (c.toNat * i.size)) e)) (cap := c.toNat) hs hn (by omega) (by simp) (by simp) (by simp; omega)
    (by rw [hmade]; rfl) (fun i x hx => by rw [List.getElem?_replicate] at hx; split at hx; injection hx with hx; subst hx; exact h3; cases hx) (fun i x k y hx hk => by
      obtain ⟨v, hv, hrv⟩ := hel i x k y hx hk
      exact ⟨v, by rw [← Array.getElem?_toList]; exact hv, hrv.mono (fun _ h => .inl h) (fun _ _ => rfl)⟩)
  refine ⟨.slice (some ⟨w.heap.size, 0, none⟩) l.toNat c.toNat, w.alloc (.cells (madeCells zv.cells (c.toNat * i.size)) e), fun b => N b ∨ Fz L σ [] b, upd L nxt ⟨w.heap.size, 0, s, c.toNat⟩, .inl ?_, by simpa [frz] using this⟩
  · simp only [execOp, ho, e1, e2, Sem.run_bind, hr, Result.andThen_ok, Sem.run_pure]

/-- Elements of a row are written over. -/
theorem write_rows {id : Nat} {s p : Nat} {xs ys : List (List D)} {l : Loc} {news : List Value} (hs : SRel w N L σ) (hg : σ.get id = some (.row s xs)) (hl : L id = some l) (hp : p + ys.length ≤ xs.length) (hall : ∀ x ∈ ys, x.length = s) (hnl : news.length = ys.length * s)
    (hel : ∀ (i : Nat) (x : List D) (k : Nat) (y : D), ys[i]? = some x → x[k]? = some y → ∃ v, news[i * s + k]? = some v ∧ RD w N y v) :
    ∃ w', (storeCells ⟨l.blk, l.base + p * s, none⟩ news).run P w = .ok () w' ∧ Evo w N L σ w' N L (σ.put id (some (.row s (splice xs p ys)))) ∧ SRel w' N L (σ.put id (some (.row s (splice xs p ys)))) := by
  obtain ⟨l2, cells, e, hl2, hls, h0, hcap, hh, hz, hlenx, hy⟩ := hs.obj id _ hg
  rw [hl] at hl2; injection hl2 with hl2; subst hl2
  have hcapm : (p + ys.length) * s ≤ l.cap * s := Nat.mul_le_mul_right _ (by omega)
  rw [Nat.add_mul] at hcapm
  have hst := run_storeCells_at (P := P) l.blk (l.base + p * s) e news 0 cells w hh (by rw [hz, hnl]; omega) (news_one hnl hall hel)
  simp only [Nat.add_zero] at hst
  have hsp : ∀ j, (splice cells.toList (l.base + p * s) news)[j]? = if l.base + p * s ≤ j ∧ j < l.base + p * s + news.length then news[j - (l.base + p * s)]? else cells[j]? := by
    intro j
    rw [splice_get _ _ _ (by simp [hz, hnl]; omega)]; simp
  have hspl : (splice cells.toList (l.base + p * s) news).length = cells.size := by rw [splice_length _ _ _ (by simp [hz, hnl]; omega)]; simp
  have keepN : ∀ b, N b → (w.setRow l.blk (splice cells.toList (l.base + p * s) news).toArray).heap[b]? = w.heap[b]? := fun b hb => setRow_other w l.blk b _ (fun e2 => hs.apart b hb (e2 ▸ ⟨id, _, l, hg, rfl, hl, rfl⟩))
  have key := upd_good hs hg rfl (o' := .row s (splice xs p ys)) rfl hl (cs := (splice cells.toList (l.base + p * s) news).toArray)
    ⟨l, _, e, hl, hls, h0, by rw [splice_length _ _ _ hp]; exact hcap, setRow_heap w l.blk cells _ e (0, 0) hh, by simp only [List.size_toArray, hspl]; exact hz, fun i x hx => by
      rw [splice_get _ _ _ hp] at hx
      split at hx
      · exact hall x (List.mem_of_getElem? hx)
      · exact hlenx i x hx, fun i x k y hx hk => by
      have hxs : x.length = s := by
        rw [splice_get _ _ _ hp] at hx
        split at hx
        · exact hall x (List.mem_of_getElem? hx)
        · exact hlenx i x hx
      have hks : k < s := by
        rcases Nat.lt_or_ge k x.length with h2 | h2
        · omega
        · rw [List.getElem?_eq_none h2] at hk; cases hk
      rw [splice_get _ _ _ hp] at hx
      simp only [List.getElem?_toArray]
      rw [hsp]
      split at hx
      · rename_i hi
        obtain ⟨c, hc1, hr1⟩ := hel _ x k y hx hk
        have h4 : i * s = p * s + (i - p) * s := by rw [← Nat.add_mul]; congr 1; omega
        have h5 := mul_lt_of (s := s) (show i - p < ys.length by omega)
        refine ⟨c, ?_, hr1.mono (fun _ h => h) keepN⟩
        rw [if_pos (by omega), ← hc1]; congr 1; omega
      · rename_i hi
        obtain ⟨c, hc1, hr1⟩ := hy i x k y hx hk
        refine ⟨c, ?_, hr1.mono (fun _ h => h) keepN⟩
        rw [if_neg ?_]
        · exact hc1
        · rintro ⟨h2, h3⟩
          apply hi
          have hq1 : p * s ≤ i * s + k := by omega
          have hq2 : i * s + k < (p + ys.length) * s := by rw [Nat.add_mul]; omega
          constructor
          · rcases Nat.lt_or_ge i p with h6 | h6
            · have := mul_lt_of (s := s) h6; omega
            · exact h6
          · rcases Nat.lt_or_ge i (p + ys.length) with h6 | h6
            · exact h6
            · have := Nat.mul_le_mul_right s h6; omega⟩
  exact ⟨_, by simpa [splice] using hst, key.1, key.2⟩

end Go.Vm
namespace Go.Vm
variable {P : Program} {w : World} {N : Nat → Prop} {L : Lmap} {σ : Store} {nxt : Nat} {ts : List V} {a : Act}

theorem all_ok {ys : List (List D)} {s : Nat} (h : ys.all (·.length == s) = true) : ∀ x ∈ ys, x.length = s := fun x hx => by
  rw [List.all_eq_true] at h; simpa using h x hx

theorem good_cpy {o : Oper} {c : Call} {t u e : TypeId} {x y : Operand} {x' y' : O} {s : Nat} {v : V} {δ : Delta} (ho : o.op = .call c) (hc : c.callee = .builtin .copy) (hargs : c.args = #[x, y]) (ht : c.argTypes = #[t, u])
    (hut : P.underlying t = some (.slice e)) (hsz : szP P e = some s) (h0 : s ≠ 0) (hx : oOf x = some x') (hy : oOf y = some y') (hs : SRel w N L σ) (hf : FRel w N L ts a) (h : copyV σ s (x'.ev ts) (y'.ev ts) = some (v, δ)) : Good P (execOp a.eval o) w N L σ nxt v δ := by
  have hxr := ev_rel hf hx
  have hyr := ev_rel hf hy
  generalize hxv : x'.ev ts = xv at h hxr
  generalize hyv : y'.ev ts = yv at h hyr
  have run : ∀ (cx : Value) r w', a.eval x = cx → (Builtin.copy_ #[t, u] o.type #[cx, a.eval y]).run P w = .ok r w' → (execOp a.eval o).run P w = .ok (.value r) w' := by
    intro cx r w' hcx hr
    simp [execOp, ho, resolve, hc, hargs, ht, invoke, builtin, hcx, hr]
  unfold copyV at h
  split at h
  · rename_i ys hel
    injection h with h; injection h with h h'; subst h; subst h'
    have h2 := rs_of hxr (by simp)
    generalize hcx : a.eval x = cx at h2
    cases h2
    obtain ⟨ad, cap, s', cs, hce, _⟩ := elems_rel hs hyr hel
    refine good_pure (c := .int .i64 0) (run _ _ _ hcx ?_) hs (.inr (.d _ _ (.int _ _)))
    rw [hce]
    cases ad with
    | none => simp [Builtin.copy_, run_underlying hut, Builtin.lenOf, szP_some hsz, Builtin.firstCells, goInt]
    | some ad => simp [Builtin.copy_, run_underlying hut, Builtin.lenOf, szP_some hsz, Builtin.firstCells, goInt, loadCells, loadCellsFrom]
  · rename_i id off len ys hel
    cases hg : σ.get id with
    | none => rw [hg] at h; simp at h
    | some ob =>
      rw [hg] at h
      cases ob with
      | row s' xs =>
        simp only at h
        split at h
        · rename_i hcnd
          injection h with h; injection h with h h'; subst h; subst h'
          obtain ⟨hss, hle, hall0⟩ := hcnd
          subst hss
          have hall := all_ok hall0
          have h2 := rs_of hxr (by simp)
          generalize hcx : a.eval x = cx at h2
          cases h2 with
          | arr _ _ _ l ad cap hl hc2 hle2 ha =>
            have hml : Nat.min ys.length len = (ys.take len).length := by simp [Nat.min_comm]
            obtain ⟨news, h1, h2, h3, h4⟩ := src_slice (P := P) hs hyr hel hall (by omega) (ys.take len).length (by simp; omega)
            have hall2 : ∀ q ∈ ys.take len, q.length = s' := fun q hq => hall q (List.mem_of_mem_take hq)
            have hls : l.s = s' := by
              obtain ⟨l2, _, _, hl2, h5, _⟩ := hs.obj id _ hg
              rw [hl] at hl2; injection hl2 with hl2; subst hl2; exact h5
            have hel2 : ∀ (i : Nat) (x : List D) (k : Nat) (y : D), (ys.take len)[i]? = some x → x[k]? = some y → ∃ v, news[i * s' + k]? = some v ∧ RD w N y v := by
              intro i x k y hx2 hk
              have hi : i < (ys.take len).length := by
                rcases Nat.lt_or_ge i (ys.take len).length with h | h
                · exact h
                · rw [List.getElem?_eq_none h] at hx2; cases hx2
              rw [List.getElem?_take] at hx2
              split at hx2
              · exact h4 i x k y hi hx2 hk
              · cases hx2
            obtain ⟨w', hst, hev, hsr⟩ := write_rows (P := P) (p := off) (ys := ys.take len) (news := news) hs hg hl (by simp; omega) hall2 h1 hel2
            have hcells : ∀ d, (Builtin.firstCells s' (Nat.min ys.length len) (a.eval y)).run P { w with drawn := d } = .ok news.toArray { w with drawn := d } := by rw [hml]; exact h2
            have hcw := hcells w.drawn
            by_cases hcap : 0 < cap
            · have had := ha hcap
              subst had
              refine ⟨.int .i64 (min ys.length len : Nat), w', N, L, .inl (run _ _ _ hcx ?_), ⟨hev, fun _ _ h => h, hsr, .inr (.d _ _ (.int _ _)), fun _ _ h => .inl h⟩⟩
              rw [hls]
              have e1 : Nat.min ys.length len = min ys.length len := rfl
              rw [e1] at hcw
              simp [Builtin.copy_, run_underlying hut, h3, szP_some hsz, hcw, hst, goInt]
            · have hlen0 : len = 0 := by omega
              subst hlen0
              have hnn : news = [] := List.eq_nil_of_length_eq_zero (by rw [h1]; simp)
              subst hnn
              have hw : w' = w := by simp [storeCells] at hst; exact hst.symm
              subst hw
              refine ⟨.int .i64 (min ys.length 0 : Nat), _, N, L, .inl (run _ _ _ hcx ?_), ⟨hev, fun _ _ h => h, hsr, .inr (.d _ _ (.int _ _)), fun _ _ h => .inl h⟩⟩
              have e1 : Nat.min ys.length 0 = 0 := by simp
              rw [e1] at hcw
              cases ad with
              | none => simp [Builtin.copy_, run_underlying hut, h3, szP_some hsz, hcw, goInt]
              | some ad => simp [Builtin.copy_, run_underlying hut, h3, szP_some hsz, hcw, goInt, storeCells]
        · cases h
      | _ => simp at h
  · cases h

theorem good_clr {o : Oper} {c : Call} {t e : TypeId} {x : Operand} {x' : O} {s : Nat} {z : List V} {zs : List D} {δ : Delta} (ho : o.op = .call c) (hc : c.callee = .builtin .clear) (hargs : c.args = #[x]) (ht : c.argTypes = #[t])
    (hut : P.underlying t = some (.slice e)) (hsz : szP P e = some s) (hz : zeroP P e = some z) (hzl : z.length = s) (h0 : s ≠ 0) (hx : oOf x = some x') (hs : SRel w N L σ) (hf : FRel w N L ts a) (hzd : zeroD z = some zs)
    (h : (x'.ev ts = .nils ∧ δ = []) ∨ ∃ id off len, x'.ev ts = .arr id off len ∧ ((len = 0 ∧ δ = []) ∨ len ≠ 0 ∧ ∃ v, copyV σ s (.arr id off len) (.d (.lst (List.replicate len zs))) = some (v, δ))) :
    Good P (execOp a.eval o) w N L σ nxt (.tup []) δ := by
  obtain ⟨i, zv, hi, hzv, hcr⟩ := zeroP_rel (w := w) (N := N) (L := L) hz
  have hsi : i.size = s := by simp [szP, hi] at hsz; exact hsz
  obtain ⟨hzdl, hzdr⟩ := zeroD_rel hcr hzd
  have hzs : zv.cells.size = s := by rw [hcr.1]; omega
  have hxr := ev_rel hf hx
  have htup : ∀ {w : World}, RS w N L (.tup []) (.tuple #[]) := .inr (.tup [] #[] rfl (fun i v c h => by simp at h))
  have run : ∀ (cx : Value) w', a.eval x = cx → (Builtin.clear_ #[t] o.type #[cx]).run P w = .ok (.tuple #[]) w' → (execOp a.eval o).run P w = .ok (.value (.tuple #[])) w' := by
    intro cx w' hcx hr
    simp [execOp, ho, resolve, hc, hargs, ht, invoke, builtin, hcx, hr]
  rcases h with ⟨hv, rfl⟩ | ⟨id, off, len, hv, h⟩
  · rw [hv] at hxr
    have h2 := rs_of hxr (by simp)
    generalize hcx : a.eval x = cx at h2
    cases h2
    exact good_pure (run _ _ hcx (by simp [Builtin.clear_, run_underlying hut])) hs htup
  · rw [hv] at hxr
    have h2 := rs_of hxr (by simp)
    generalize hcx : a.eval x = cx at h2
    cases h2 with
    | arr _ _ _ l ad cap hl hc2 hle2 ha =>
      rcases h with ⟨rfl, rfl⟩ | ⟨hne, v, h⟩
      · exact good_pure (run _ _ hcx (by cases ad <;> simp [Builtin.clear_, run_underlying hut])) hs htup
      · unfold copyV at h
        simp only [elems] at h
        cases hg : σ.get id with
        | none => rw [hg] at h; simp at h
        | some ob =>
          rw [hg] at h
          cases ob with
          | row s' xs =>
            simp only at h
            split at h
            · rename_i hcnd
              injection h with h; injection h with h h'; subst h; subst h'
              obtain ⟨hss, hle, _⟩ := hcnd
              subst hss
              have hls : l.s = s' := by
                obtain ⟨l2, _, _, hl2, h5, _⟩ := hs.obj id _ hg
                rw [hl] at hl2; injection hl2 with hl2; subst hl2; exact h5
              have htk : (List.replicate len zs).take len = List.replicate len zs := List.take_of_length_le (by simp)
              rw [htk]
              have hel := zero_el (w := w) (N := N) (zs := zs) (zc := zv.cells) (s := s') (by omega) hzs (by omega) hzdr len
              have hze : (Builtin.zeroCells zv.cells len).toList = ((Array.range (len * s')).map (fun j => zv.cells[j % zv.cells.size]!)).toList := by rw [zeroCells_eq, hzs]
              rw [← hze] at hel
              obtain ⟨w', hst, hev, hsr⟩ := write_rows (P := P) (p := off) (ys := List.replicate len zs) (news := (Builtin.zeroCells zv.cells len).toList) hs hg hl (by simp; omega) (fun q hq => by rw [List.eq_of_mem_replicate hq]; omega) (by simp [size_zero, hzs]) hel
              have had := ha (by omega)
              subst had
              refine ⟨.tuple #[], w', N, L, .inl (run _ _ hcx ?_), ⟨hev, fun _ _ h => h, hsr, htup, fun _ _ h => .inl h⟩⟩
              rw [hls]
              cases len with
              | zero => exact absurd rfl hne
              | succ m => simp [Builtin.clear_, run_underlying hut, run_zeroValue hi hzv, hst]
            · cases h
          | _ => simp at h

end Go.Vm
namespace Go.Vm
variable {P : Program} {w : World} {N : Nat → Prop} {L : Lmap} {σ : Store} {nxt : Nat} {ts : List V} {a : Act}

/-! ### New numbers for objects -/
theorem renL_eq (f : Nat → Option Nat) : ∀ vs : List V, V.ren.renL f vs = vs.map (V.ren f)
  | [] => rfl
  | v :: r => by simp [V.ren.renL, renL_eq f r]

theorem ren_rel {L1 : Lmap} {f : Nat → Option Nat} (hf : ∀ id l, L id = some l → ∀ j, f id = some j → L1 j = some l) {v : V} {c : Value} (h : RV w N L v c) : RV w N L1 (v.ren f) c := by
  induction h with
  | d x c h => exact .d x c h
  | nils => exact .nils
  | arr id off len l a cap hl hc hle ha =>
    simp only [V.ren]
    cases hj : f id with
    | none => exact .bot _ rfl
    | some j => exact .arr j off len l a cap (hf id l hl j hj) hc hle ha
  | ptr id i k l hl =>
    simp only [V.ren]
    cases hj : f id with
    | none => exact .bot _ rfl
    | some j => exact .ptr j i k l (hf id l hl j hj)
  | dptr cells k b o cs hN hc hr => exact .dptr cells k b o cs hN hc hr
  | clo g first caps a b ha hb h1 h2 ih1 ih2 =>
    simp only [V.ren, renL_eq]
    refine .clo g _ _ a b (by simpa using ha) (by simpa using hb) (fun i v c hv hc => ?_) (fun i v c hv hc => ?_)
    · rw [List.getElem?_map] at hv
      cases hq : first[i]? with
      | none => rw [hq] at hv; simp at hv
      | some q => rw [hq] at hv; simp at hv; subst hv; exact ih1 i q c hq hc
    · rw [List.getElem?_map] at hv
      cases hq : caps[i]? with
      | none => rw [hq] at hv; simp at hv
      | some q => rw [hq] at hv; simp at hv; subst hv; exact ih2 i q c hq hc
  | agg cells cs hl h1 h ih =>
    simp only [V.ren, renL_eq]
    refine .agg _ cs (by simpa using hl) h1 (fun i v c hv hc => ?_)
    rw [List.getElem?_map] at hv
    cases hq : cells[i]? with
    | none => rw [hq] at hv; simp at hv
    | some q => rw [hq] at hv; simp at hv; subst hv; exact ih i q c hq hc
  | tup vs cs hl h ih =>
    simp only [V.ren, renL_eq]
    refine .tup _ cs (by simpa using hl) (fun i v c hv hc => ?_)
    rw [List.getElem?_map] at hv
    cases hq : vs[i]? with
    | none => rw [hq] at hv; simp at hv
    | some q => rw [hq] at hv; simp at hv; subst hv; exact ih i q c hq hc
  | bot c h => exact .bot c h

theorem ren_rs {L1 : Lmap} {f : Nat → Option Nat} (hf : ∀ id l, L id = some l → ∀ j, f id = some j → L1 j = some l) {v : V} {c : Value} (h : RS w N L v c) : RS w N L1 (v.ren f) c := by
  rcases h with rfl | h
  · exact .inl rfl
  · exact .inr (ren_rel hf h)

theorem ren_obj {L1 : Lmap} {f : Nat → Option Nat} (hf : ∀ id l, L id = some l → ∀ j, f id = some j → L1 j = some l) {i j : Nat} (hij : ∀ l, L i = some l → L1 j = some l) {o : Obj} (h : ORel w N L i o) : ORel w N L1 j (o.ren f) := by
  cases o with
  | row s xs =>
    obtain ⟨l, cells, e, hl, r⟩ := h
    exact ⟨l, cells, e, hij l hl, r⟩
  | imm s xs =>
    obtain ⟨l, hl, r⟩ := h
    exact ⟨l, hij l hl, r⟩
  | box vs =>
    obtain ⟨l, cells, e, hl, h0, hh, hz, hy⟩ := h
    refine ⟨l, cells, e, hij l hl, h0, hh, by simp [renL_eq, hz], fun k v hk => ?_⟩
    rw [renL_eq, List.getElem?_map] at hk
    cases hq : vs[k]? with
    | none => rw [hq] at hk; simp at hk
    | some q =>
      rw [hq] at hk; simp at hk; subst hk
      obtain ⟨c, hc, hr, h1⟩ := hy k q hq
      exact ⟨c, hc, ren_rel hf hr, h1⟩

theorem ren_owned (f : Nat → Option Nat) (o : Obj) : (o.ren f).owned = o.owned := by cases o <;> rfl

/-- The places of some objects. -/
def Lpack (L : Lmap) (l : List Nat) : Lmap := fun j => (l[j]?).bind L

theorem pack_get (σ : Store) (l : List Nat) (j : Nat) : (pack σ l).get j = ((l[j]?).bind σ.get).map (Obj.ren fun i => l.idxOf? i) := by
  unfold pack
  simp only [Store.get, List.getElem?_map]
  cases hj : l[j]? with
  | none => simp
  | some i => simp; rfl

theorem idxOf_get {l : List Nat} {i j : Nat} (h : l.idxOf? i = some j) : l[j]? = some i := by
  unfold List.idxOf? at h
  rw [List.findIdx?_eq_some_iff_getElem] at h
  obtain ⟨hj, h1, _⟩ := h
  rw [List.getElem?_eq_getElem hj]
  congr 1
  simpa using h1

theorem pack_hf (l : List Nat) : ∀ id l', L id = some l' → ∀ j, (fun i => l.idxOf? i) id = some j → Lpack L l j = some l' := by
  intro id l' hl j hj
  simp [Lpack, idxOf_get hj, hl]

theorem own_pack {l : List Nat} {b : Nat} (h : Own (Lpack L l) (pack σ l) b) : Own L σ b := by
  obtain ⟨j, o, l', hg, ho, hl, e⟩ := h
  rw [pack_get] at hg
  cases hj : l[j]? with
  | none => rw [hj] at hg; simp at hg
  | some i =>
    rw [hj] at hg
    simp only [Option.bind_some] at hg
    cases hi : σ.get i with
    | none => rw [hi] at hg; simp at hg
    | some o2 =>
      rw [hi] at hg; simp at hg; subst hg
      rw [ren_owned] at ho
      exact ⟨i, o2, l', hi, ho, by simpa [Lpack, hj] using hl, e⟩

theorem pack_rel (hs : SRel w N L σ) {l : List Nat} (hnd : l.Nodup) : SRel w N (Lpack L l) (pack σ l) := by
  constructor
  · intro j o hg
    rw [pack_get] at hg
    cases hj : l[j]? with
    | none => rw [hj] at hg; simp at hg
    | some i =>
      rw [hj] at hg
      simp only [Option.bind_some] at hg
      cases hi : σ.get i with
      | none => rw [hi] at hg; simp at hg
      | some o2 =>
        rw [hi] at hg; simp at hg; subst hg
        exact ren_obj (pack_hf l) (fun l' hl => by simp [Lpack, hj, hl]) (hs.obj i o2 hi)
  · exact fun b hb h => hs.apart b hb (own_pack h)
  · intro j j' o o' l1 l2 hg hg' ho ho' hl hl' e
    rw [pack_get] at hg hg'
    cases hj : l[j]? with
    | none => rw [hj] at hg; simp at hg
    | some i =>
      cases hj' : l[j']? with
      | none => rw [hj'] at hg'; simp at hg'
      | some i' =>
        rw [hj] at hg; rw [hj'] at hg'
        simp only [Option.bind_some] at hg hg'
        cases hi : σ.get i with
        | none => rw [hi] at hg; simp at hg
        | some o2 =>
          cases hi' : σ.get i' with
          | none => rw [hi'] at hg'; simp at hg'
          | some o3 =>
            rw [hi] at hg; rw [hi'] at hg'
            simp at hg hg'; subst hg; subst hg'
            rw [ren_owned] at ho ho'
            have := hs.inj i i' o2 o3 l1 l2 hi hi' ho ho' (by simpa [Lpack, hj] using hl) (by simpa [Lpack, hj'] using hl') e
            subst this
            have h1 := List.getElem?_eq_some_iff.1 hj
            have h2 := List.getElem?_eq_some_iff.1 hj'
            obtain ⟨h1, e1⟩ := h1
            obtain ⟨h2, e2⟩ := h2
            have hp := List.pairwise_iff_getElem.1 hnd
            rcases Nat.lt_trichotomy j j' with h3 | h3 | h3
            · exact absurd (e1.trans e2.symm) (hp j j' h1 h2 h3)
            · exact h3
            · exact absurd (e2.trans e1.symm) (hp j' j h2 h1 h3)
  · exact hs.lt

theorem lpack_lt {l : List Nat} : ∀ j l', Lpack L l j = some l' → j < (pack σ l).length := by
  intro j l' h
  unfold Lpack at h
  simp only [pack, List.length_map]
  rcases Nat.lt_or_ge j l.length with h1 | h1
  · exact h1
  · rw [List.getElem?_eq_none h1] at h; simp at h

/-! ### Lists of numbers -/
theorem addIds_nodup : ∀ (l seen : List Nat), seen.Nodup → (addIds seen l).Nodup
  | [], seen, h => h
  | i :: r, seen, h => by
    unfold addIds
    refine addIds_nodup r _ ?_
    split
    · exact h
    · rename_i hc
      rw [List.nodup_append]
      refine ⟨h, by simp, ?_⟩
      intro x hx y hy
      simp at hy; subst hy
      rintro rfl
      exact hc (by simpa using hx)
theorem addIds_prefix : ∀ (l seen : List Nat), seen <+: addIds seen l
  | [], seen => List.prefix_rfl
  | i :: r, seen => by
    unfold addIds
    refine List.IsPrefix.trans ?_ (addIds_prefix r _)
    split
    · exact List.prefix_rfl
    · exact List.prefix_append _ _
theorem reach_nodup (σ : Store) : ∀ (n : Nat) (l : List Nat), l.Nodup → (reach σ n l).Nodup
  | 0, l, h => h
  | n + 1, l, h => by
    unfold reach
    simp only
    split
    · exact h
    · exact reach_nodup σ n _ (addIds_nodup _ _ h)
theorem reach_prefix (σ : Store) : ∀ (n : Nat) (l : List Nat), l <+: reach σ n l
  | 0, l => List.prefix_rfl
  | n + 1, l => by
    unfold reach
    simp only
    split
    · exact List.prefix_rfl
    · exact List.IsPrefix.trans (addIds_prefix _ _) (reach_prefix σ n _)

/-- What gc keeps. -/
def gcIds (m : Nat) (vs : List V) (σ : Store) : List Nat :=
  (reach σ 64 (addIds (List.range m) (live σ (V.ids.idsL vs)))).filter fun i => i < m || (σ.get i).isSome
theorem gc_eq (m : Nat) (vs : List V) (σ : Store) : gc m vs σ = (V.ren.renL (fun j => (gcIds m vs σ).idxOf? j) vs, pack σ (gcIds m vs σ)) := rfl
theorem gcIds_nodup (m : Nat) (vs : List V) (σ : Store) : (gcIds m vs σ).Nodup :=
  List.Pairwise.filter _ (reach_nodup _ _ _ (addIds_nodup _ _ List.nodup_range))
theorem gcIds_fix {m : Nat} {vs : List V} {σ : Store} {j : Nat} (h : j < m) : (gcIds m vs σ)[j]? = some j := by
  have h1 : List.range m <+: reach σ 64 (addIds (List.range m) (live σ (V.ids.idsL vs))) := List.IsPrefix.trans (addIds_prefix _ _) (reach_prefix _ _ _)
  obtain ⟨r, hr⟩ := h1
  unfold gcIds
  rw [← hr, List.filter_append]
  have : (List.range m).filter (fun i => i < m || (σ.get i).isSome) = List.range m := by
    rw [List.filter_eq_self]
    intro x hx
    simp at hx; simp [hx]
  rw [this, List.getElem?_append_left (by simpa using h)]
  simp [h]
theorem gcIds_len {m : Nat} {vs : List V} {σ : Store} : m ≤ (gcIds m vs σ).length := by
  cases m with
  | zero => omega
  | succ k =>
    have := gcIds_fix (vs := vs) (σ := σ) (show k < k + 1 by omega)
    rcases Nat.lt_or_ge k (gcIds (k + 1) vs σ).length with h | h
    · omega
    · rw [List.getElem?_eq_none h] at this; cases this

end Go.Vm
namespace Go.Vm
variable {P : Program} {w : World} {N : Nat → Prop} {L : Lmap} {σ : Store} {nxt : Nat} {ts : List V} {a : Act}

/-- What a call comes to. -/
def Sound (P : Program) (f : FuncId) (args : List V) (σ : Store) (v : V) (σ' : Store) : Prop :=
  σ.length ≤ σ'.length ∧ (∃ fn, P.funcs[f]? = some fn ∧ (fn.name == "runtime.NumGoroutine") = false ∧ fn.body.isNone = false) ∧
  ∀ (w : World) (N : Nat → Prop) (L : Lmap) (cargs : Array Value), SRel w N L σ → (∀ id l, L id = some l → id < σ.length) → cargs.size = args.length → (∀ (i : Nat) v c, args[i]? = some v → cargs[i]? = some c → RS w N L v c) →
    Calls P f cargs w fun e w' => ∃ c N' L', e = .returned c ∧ Evo w N L σ w' N' L' σ' ∧ SRel w' N' L' σ' ∧ (∀ id, id < σ.length → L' id = L id) ∧ (∀ id l, L' id = some l → id < σ'.length) ∧ RS w' N' L' v c

def SoundEnv (P : Program) (Γ : Env) : Prop := ∀ f args σ v σ', Γ f args σ = some (v, σ') → Sound P f args σ v σ'

theorem freezeV_rel {v : V} {c : Value} {ids : List Nat} (hs : SRel w N L σ) (hv : RS w N L v c) (hi : ∀ i ∈ frozenIds v, i ∈ ids) : RS w (fun b => N b ∨ Fz L σ ids b) L (freezeV σ v) c := by
  have mono : ∀ {v c}, RV w N L v c → RV w (fun b => N b ∨ Fz L σ ids b) L v c := fun h => h.mono (fun _ h => .inl h) (fun _ _ => rfl) (fun _ _ h => h)
  have one : ∀ (v : V) (c : Value), (∀ cs, v ≠ .agg cs) → RS w N L v c → (∀ i ∈ frozenIds v, i ∈ ids) → RS w (fun b => N b ∨ Fz L σ ids b) L (((freezeCell σ v).map V.d).getD v) c := by
    intro v c hna hv hi
    cases hc : freezeCell σ v with
    | none => exact hv.imp id mono
    | some x =>
      refine .inr (.d _ _ (freeze_rel hs hv hc ?_))
      rintro id off len rfl
      exact hi id (by simp [frozenIds])
  cases v with
  | agg cells =>
    have h1 := rs_of hv (by simp)
    cases h1 with
    | agg _ cs hl h1 h =>
      refine .inr (.agg _ cs (by simpa using hl) h1 (fun i v c hv2 hc => ?_))
      rw [List.getElem?_map] at hv2
      cases hq : cells[i]? with
      | none => rw [hq] at hv2; simp at hv2
      | some q =>
        rw [hq] at hv2
        simp only [Option.map_some, Option.some.injEq] at hv2
        subst hv2
        have hr := h i q c hq hc
        cases hfc : freezeCell σ q with
        | none => simp only [hfc, Option.map_none, Option.getD_none]; exact mono hr
        | some x =>
          simp only [hfc, Option.map_some, Option.getD_some]
          refine .d _ _ (freeze_rel hs (.inr hr) hfc ?_)
          rintro id off len rfl
          exact hi id (frozen_cells (v := .agg cells) (List.mem_of_getElem? hq) _ _ _ rfl)
  | _ => exact one _ _ (by simp) hv hi

theorem pass_rel {refs : List Bool} {args : List V} {cargs : Array Value} (hs : SRel w N L σ) (hl : cargs.size = args.length) (ha : ∀ (i : Nat) v c, args[i]? = some v → cargs[i]? = some c → RS w N L v c) :
    (passArgs σ refs args).length = args.length ∧ ∀ (i : Nat) v c, (passArgs σ refs args)[i]? = some v → cargs[i]? = some c → RS w (fun b => N b ∨ Fz L σ (frzArgs refs args) b) L v c := by
  refine ⟨by simp [passArgs], fun i v c hv hc => ?_⟩
  unfold passArgs at hv
  rw [List.getElem?_map] at hv
  rw [List.getElem?_zipIdx] at hv
  cases hq : args[i]? with
  | none => rw [hq] at hv; simp at hv
  | some q =>
    rw [hq] at hv
    simp only [Option.map_some, Nat.zero_add, Option.some.injEq] at hv
    have hr := ha i q c hq hc
    split at hv
    · subst hv; exact hr.mono (fun _ h => .inl h) (fun _ _ => rfl) (fun _ _ h => h)
    · rename_i href
      subst hv
      refine freezeV_rel hs hr (fun j hj => ?_)
      unfold frzArgs
      rw [List.mem_flatMap]
      refine ⟨(q, i), ?_, hj⟩
      rw [List.mem_filter]
      refine ⟨?_, by simpa using href⟩
      rw [List.mem_iff_getElem?]
      exact ⟨i, by rw [List.getElem?_zipIdx, hq]; simp⟩

theorem flat_d {w' : World} {N' : Nat → Prop} {x : D} {c : Value} (hx : x.flat = true) (h : RD w N x c) : RD w' N' x c := by
  cases h with
  | lst => simp [D.flat] at hx
  | int k n => exact .int k n
  | bool b => exact .bool b
  | float k b => exact .float k b
  | complex k a b => exact .complex k a b
  | str s => exact .str s
  | nilp => exact .nilp
  | nilm => exact .nilm
  | nilf => exact .nilf
  | nili => exact .nili

theorem flat_v {w' : World} {N' : Nat → Prop} {L' : Lmap} {v : V} {c : Value} (hx : v.flat = true) (h : RS w N L v c) : RS w' N' L' v c := by
  cases v with
  | d x => have h1 := rs_of h (by simp); cases h1 with | d _ _ h1 => exact .inr (.d _ _ (flat_d hx h1))
  | agg cells =>
    have h1 := rs_of h (by simp)
    cases h1 with
    | agg _ cs hl h1 h2 =>
      refine .inr (.agg _ cs hl h1 fun i v c hv hc => ?_)
      have hr := h2 i v c hv hc
      simp only [V.flat, List.all_eq_true] at hx
      have := hx v (List.mem_of_getElem? hv)
      cases v with
      | d x => cases hr with | d _ _ hr => exact .d _ _ (flat_d this hr)
      | _ => simp at this
  | tup cells =>
    have h1 := rs_of h (by simp)
    cases h1 with
    | tup _ cs hl h2 =>
      refine .inr (.tup _ cs hl fun i v c hv hc => ?_)
      have hr := h2 i v c hv hc
      simp only [V.flat, List.all_eq_true] at hx
      have := hx v (List.mem_of_getElem? hv)
      cases v with
      | d x => cases hr with | d _ _ hr => exact .d _ _ (flat_d this hr)
      | _ => simp at this
  | _ => simp [V.flat] at hx

theorem flat_ren {v : V} (f : Nat → Option Nat) (hx : v.flat = true) : v.ren f = v := by
  cases v with
  | d x => rfl
  | agg cells =>
    simp only [V.ren, renL_eq]
    congr 1
    simp only [V.flat, List.all_eq_true] at hx
    conv => rhs; rw [← List.map_id cells]
    refine List.map_congr_left fun v hv => ?_
    have := hx v hv
    cases v <;> simp at this <;> rfl
  | tup cells =>
    simp only [V.ren, renL_eq]
    congr 1
    simp only [V.flat, List.all_eq_true] at hx
    conv => rhs; rw [← List.map_id cells]
    refine List.map_congr_left fun v hv => ?_
    have := hx v hv
    cases v <;> simp at this <;> rfl
  | _ => simp [V.flat] at hx

/-! ### What comes back -/
def backOf (l : List Nat) (nxt j : Nat) : Option Nat := if j < l.length then l[j]? else some (nxt + (j - l.length))
def backD (l : List Nat) (nxt : Nat) (σ' : Store) : Delta := σ'.zipIdx.map fun (o, j) => ((backOf l nxt j).getD 0, o.map (Obj.ren (backOf l nxt)))

theorem get_app_not : ∀ (δ : Delta) (σ : Store) (id : Nat), (∀ p ∈ δ, p.1 ≠ id) → (σ.app δ).get id = σ.get id
  | [], σ, id, h => rfl
  | q :: δ, σ, id, h => by
    rw [app_cons, get_app_not δ _ id (fun p hp => h p (List.mem_cons_of_mem _ hp)), get_put, if_neg (fun e => h q (List.mem_cons_self ..) e.symm)]
theorem get_app_mem : ∀ (δ : Delta) (σ : Store), (δ.map (·.1)).Nodup → ∀ p ∈ δ, (σ.app δ).get p.1 = p.2
  | [], σ, h, p, hp => by cases hp
  | q :: δ, σ, h, p, hp => by
    rw [List.map_cons, List.nodup_cons] at h
    rw [app_cons]
    rcases List.mem_cons.1 hp with rfl | hp
    · rw [get_app_not δ _ _ (fun r hr e => h.1 (List.mem_map.2 ⟨r, hr, e⟩)), get_put, if_pos rfl]
    · exact get_app_mem δ _ h.2 p hp

theorem backD_get (l : List Nat) (nxt : Nat) (σ' : Store) (j : Nat) (h : j < σ'.length) : ((backOf l nxt j).getD 0, (σ'.get j).map (Obj.ren (backOf l nxt))) ∈ backD l nxt σ' := by
  unfold backD
  rw [List.mem_map]
  refine ⟨(σ'[j], j), ?_, ?_⟩
  · rw [List.mem_iff_getElem?]
    exact ⟨j, by rw [List.getElem?_zipIdx, List.getElem?_eq_getElem h]; simp⟩
  · simp [Store.get, List.getElem?_eq_getElem h]

theorem backD_mem {l : List Nat} {nxt : Nat} {σ' : Store} {p : Nat × Option Obj} (h : p ∈ backD l nxt σ') : ∃ j, j < σ'.length ∧ p.1 = (backOf l nxt j).getD 0 ∧ p.2 = (σ'.get j).map (Obj.ren (backOf l nxt)) := by
  unfold backD at h
  rw [List.mem_map] at h
  obtain ⟨⟨o, j⟩, hm, e⟩ := h
  rw [List.mem_iff_getElem?] at hm
  obtain ⟨i, hi⟩ := hm
  rw [List.getElem?_zipIdx] at hi
  cases hq : σ'[i]? with
  | none => rw [hq] at hi; simp at hi
  | some q =>
    rw [hq] at hi
    simp at hi
    obtain ⟨rfl, rfl⟩ := hi
    refine ⟨i, (List.getElem?_eq_some_iff.1 hq).1, by rw [← e], by rw [← e]; simp [Store.get, hq]⟩

theorem back_lt {l : List Nat} {nxt j : Nat} (h : j < l.length) : backOf l nxt j = some l[j] := by simp [backOf, h]
theorem back_ge {l : List Nat} {nxt j : Nat} (h : ¬ j < l.length) : backOf l nxt j = some (nxt + (j - l.length)) := by simp [backOf, h]

theorem back_inj {l : List Nat} {nxt : Nat} (hnd : l.Nodup) (hlt : ∀ i ∈ l, i < nxt) {i j : Nat} (h : (backOf l nxt i).getD 0 = (backOf l nxt j).getD 0) : i = j := by
  by_cases hi : i < l.length
  · by_cases hj : j < l.length
    · rw [back_lt hi, back_lt hj] at h
      simp only [Option.getD_some] at h
      have hp := List.pairwise_iff_getElem.1 hnd
      rcases Nat.lt_trichotomy i j with h3 | h3 | h3
      · exact absurd h (hp i j hi hj h3)
      · exact h3
      · exact absurd h.symm (hp j i hj hi h3)
    · rw [back_lt hi, back_ge hj] at h
      simp only [Option.getD_some] at h
      have := hlt _ (List.getElem_mem hi); omega
  · by_cases hj : j < l.length
    · rw [back_ge hi, back_lt hj] at h
      simp only [Option.getD_some] at h
      have := hlt _ (List.getElem_mem hj); omega
    · rw [back_ge hi, back_ge hj] at h
      simp only [Option.getD_some] at h
      omega

theorem backD_nodup {l : List Nat} {nxt : Nat} (hnd : l.Nodup) (hlt : ∀ i ∈ l, i < nxt) (σ' : Store) : ((backD l nxt σ').map (·.1)).Nodup := by
  rw [List.nodup_iff_pairwise_ne, List.pairwise_iff_getElem]
  intro i j hi hj hij e
  have key : ∀ k (hk : k < ((backD l nxt σ').map (·.1)).length), ((backD l nxt σ').map (·.1))[k] = (backOf l nxt k).getD 0 := by
    intro k hk
    simp [backD]
  rw [key i hi, key j hj] at e
  have := back_inj hnd hlt e
  omega

end Go.Vm
