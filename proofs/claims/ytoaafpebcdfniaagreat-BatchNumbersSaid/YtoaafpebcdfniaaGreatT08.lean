/- A part of the proofs of the statements BatchTells and BatchNumbers: Vs25, Vs26, Vs27, Vs28, Vs29, Vm3, Vm2. Conditions: none of its own. -/
import Derived.Test.YtoaafpebcdfniaaGreatT07
import Derived.RowKit3
import Derived.Test.YtoaafpebcdfniaaGreatT01
set_option linter.unusedSimpArgs false
set_option linter.unusedVariables false
set_option linter.unnecessarySimpa false
set_option linter.all false
namespace Go.Vm
variable {P : Program} {w : World} {N : Nat → Prop} {L : Lmap} {σ : Store} {nxt : Nat} {ts : List V} {a : Act}

theorem wanted_slots {ts' : List V} {all : List Y} {g : Option (Nat × Bool)} (h : ∀ j b t, g = some (j, b) → (all[j]?).bind (·.dst) = some t → ts'.getD t .bot = ts.getD t .bot) : wanted ts' all g = wanted ts all g := by
  unfold wanted
  split
  · rfl
  · rename_i j b
    split
    · rename_i t ht
      rw [h j b t rfl ht]
    · rfl

theorem any_wp {Γ : Env} (hΓ : SoundEnv P Γ) {R : FuncId → List Bool} {ops : Array Oper} {ys : List Y} (hc : ops.toList.mapM (compY P) = some ys) (hm : P.follows .mixedOrders = true) (hok : slotsOk ys (openPairs ops) = true) (hed : edgesOk ops = true)
    {Q : Exit → Act → World → Prop} {w0 : World} {N0 : Nat → Prop} {L0 : Lmap} {σ0 : Store} {m : Nat} {s s' : Fr} {tr : List Tr} (h : opsT P Γ R ys ys s = some (s', tr)) (hcl : clear tr (openPairs ops) = true)
    (hst : St w0 N0 L0 σ0 m s a w N L) (hq : ∀ a w N L, St w0 N0 L0 σ0 m s' a w N L → Q .normal a w) {id : Nat} : (Code.region id ops true).wp P Q a w := by
  obtain ⟨hyl, hyi⟩ := compY_all hc
  obtain ⟨st, vs, ds, h0, hn, htr, hdid⟩ := opsT_spec ys s s' tr h
  let n := ops.size
  let dst : Nat → Option Nat := fun i => (ys[i]?).bind (·.dst)
  have hlook : ∀ i, i < n → ∃ y, ys[i]? = some y := fun i hi => ⟨ys[i]'(by omega), List.getElem?_eq_getElem (by omega)⟩
  have hstep : ∀ i, i < n → st (i + 1) = ⟨putO (st i).tmps (dst i) (vs i), (st i).σ.app (ds i)⟩ := by
    intro i hi
    obtain ⟨y, hy⟩ := hlook i hi
    rw [(hdid i y hy).1]
    simp [dst, hy]
  have hseq := seq_state (n := n) hstep
  have hlen : ∀ i j, i ≤ j → j ≤ n → (st i).σ.length ≤ (st j).σ.length := by
    intro i j hij
    induction hij with
    | refl => intro _; exact Nat.le_refl _
    | step _ ih =>
      intro hj
      refine Nat.le_trans (ih (by omega)) ?_
      rw [hstep _ (by omega)]
      exact length_app _ _
  have hkl : ∀ i, i < n → ∀ k ∈ keys (ds i), k < (st (i + 1)).σ.length := by
    intro i hi k hk
    obtain ⟨p, hp, rfl⟩ := List.mem_map.1 hk
    rw [hstep i hi]
    exact lt_length_app _ _ p hp
  -- the trace's entries
  have htri : ∀ i y, ys[i]? = some y → ∃ t, tr[i]? = some t ∧ t.δ = ds i ∧ (wanted (st i).tmps ys y.g = some true → t.foot = foot (st i).σ (y.x.looks.map (O.ev (st i).tmps))) := by
    intro i y hy
    rcases (hdid i y hy).2 with ⟨hw, hv, ht⟩ | ⟨hw, hv, hd, ht⟩
    · exact ⟨_, ht, rfl, fun _ => rfl⟩
    · exact ⟨_, ht, hd.symm, fun h => by rw [hw] at h; cases h⟩
  -- pairs whose order is open
  have apart : ∀ i j x y, ys[i]? = some x → ys[j]? = some y → ((i, j) ∈ openPairs ops ∨ (j, i) ∈ openPairs ops) →
      (∀ d, y.dst = some d → d ∉ x.slots ys ∧ x.dst ≠ some d) ∧ (∀ k ∈ keys (ds j), k ∉ keys (ds i)) ∧ (wanted (st i).tmps ys x.g = some true → ∀ k ∈ keys (ds j), k ∉ foot (st i).σ (x.x.looks.map (O.ev (st i).tmps))) := by
    intro i j x y hx hy hm
    obtain ⟨tx, htx, hdx, hfx⟩ := htri i x hx
    obtain ⟨ty, hty, hdy, -⟩ := htri j y hy
    have hc := clear_spec hcl hm htx hty
    rw [hdx, hdy] at hc
    exact ⟨slots_spec hok hm hx hy, fun k hk => (hc k hk).1, fun hw k hk => by rw [← hfx hw]; exact (hc k hk).2⟩
  -- what is done, and what isn't
  have around : ∀ (listed : Array Bool) (S : Nat → Bool), (∀ j, S j = listed.getD j false) → (∀ j, S j = true → Behind ops.toList (fun k => S k = true) j) → ∀ i, i < n → S i = false → Behind ops.toList (fun k => S k = true) i →
      ∀ j, j < n → j ≠ i → S j = decide (j < i) ∨ ((i, j) ∈ openPairs ops ∨ (j, i) ∈ openPairs ops) := by
    intro listed S hS hcl i hi h0 hb j hj hne
    rcases Nat.lt_or_ge j i with hji | hji
    · cases hs : S j with
      | true => left; simp [hji]
      | false =>
        right; right
        exact open_of (S := fun k => S k = true) hcl hji hi hb (by simp [hs])
    · have hij : i < j := by omega
      cases hs : S j with
      | false => left; simp; omega
      | true =>
        right; left
        exact open_of (S := fun k => S k = true) hcl hij hj (hcl j hs) (by simp [h0])
  refine wp_region_any hm ?_
  refine wpAny_of_inv (md := .any) (fun listed a w => (∀ j, listed.getD j false = true → Behind ops.toList (fun k => listed.getD k false = true) j) ∧ ∃ N L ts σ, AInv w0 N0 L0 σ0 m n st dst vs ds (fun j => listed.getD j false) a w N L ts σ) ?_ ?_ ops.size _ _ _ (by simp) ?_ ?_
  · -- one operation
    rintro listed a w i hls ⟨hcls, N, L, ts, σ, hI⟩ hi
    obtain ⟨hr0, o, ho, hr⟩ := mem_ready.1 hi
    have hin : i < n := (Array.getElem?_eq_some_iff.1 ho).1
    have hSi : listed.getD i false = false := by
      have hil : i < listed.size := by omega
      simp [Array.getD, hil] at hr0 ⊢
      exact hr0
    have hb : Behind ops.toList (fun k => listed.getD k false = true) i := by
      intro o' ho' e he hbd
      have : o' = o := by
        have : ops[i]? = some o' := by simpa [← Array.getElem?_toList] using ho'
        rw [ho] at this; injection this with this; exact this.symm
      subst this
      exact hr e (by simpa using he) hbd
    obtain ⟨y, hy⟩ := hlook i hin
    obtain ⟨hst1, hd⟩ := hdid i y hy
    have har := around listed (fun j => listed.getD j false) (fun _ => rfl) hcls i hin hSi hb
    obtain ⟨hq1, hq2, hq3⟩ := hseq i (Nat.le_of_lt hin)
    -- what it looks at is as it is in order
    have hslot : ∀ t, t ∈ y.slots ys → ts.getD t .bot = (st i).tmps.getD t .bot := by
      intro t ht
      rw [hI.slots, hq2]
      refine slotAt_congr n fun j hj => ?_
      by_cases e : j = i
      · subst e; left; rw [hSi]; simp
      · rcases har j hj e with h1 | h1
        · exact .inl h1
        · obtain ⟨z, hz⟩ := hlook j hj
          right
          intro hdj
          simp only [dst, hz, Option.bind_some] at hdj
          exact ((apart i j y z hy hz h1).1 t hdj).1 ht
    have hwant : wanted ts ys y.g = wanted (st i).tmps ys y.g := wanted_slots fun j b t hg ht => hslot t (by
      unfold Y.slots; rw [hg]; simp [ht])
    have hdsts : ∀ j, j < n → i < j → listed.getD j false = true → ∀ d, dst i = some d → dst j ≠ some d := by
      intro j hj hij hs d hdi hdj
      obtain ⟨z, hz⟩ := hlook j hj
      simp only [dst, hz, hy, Option.bind_some] at hdi hdj
      rcases har j hj (by omega) with h1 | h1
      · simp only [hs] at h1; have := of_decide_eq_true h1.symm; omega
      · exact ((apart i j y z hy hz h1).1 d hdj).2 hdi
    have hkeys : ∀ j, j < n → i < j → listed.getD j false = true → ∀ k ∈ keys (ds i), k ∉ keys (ds j) := by
      intro j hj hij hs k hk hkj
      obtain ⟨z, hz⟩ := hlook j hj
      rcases har j hj (by omega) with h1 | h1
      · simp only [hs] at h1; have := of_decide_eq_true h1.symm; omega
      · exact (apart i j y z hy hz h1).2.1 k hkj hk
    have hne : ∀ j, j ≠ i → (listed.setIfInBounds i true).getD j false = listed.getD j false := fun j hj => getD_set_ne false (Ne.symm hj)
    have hset : (listed.setIfInBounds i true).getD i false = true := by simp [Array.getD, show i < listed.size by omega]
    have hcls' : ∀ j, (listed.setIfInBounds i true).getD j false = true → Behind ops.toList (fun k => (listed.setIfInBounds i true).getD k false = true) j := by
      intro j hj
      have mono : ∀ j, Behind ops.toList (fun k => listed.getD k false = true) j → Behind ops.toList (fun k => (listed.setIfInBounds i true).getD k false = true) j := fun j h o ho e he hbd => getD_set_true (h o ho e he hbd)
      by_cases e : j = i
      · subst e; exact mono j hb
      · rw [hne j e] at hj; exact mono j (hcls j hj)
    have hdst : dst i = y.dst := by simp [dst, hy]
    refine step_wp (R := R) (nxt := (st i).σ.length) hΓ hc hy hI.rel hI.fr ?_
    rcases hd with ⟨hw, hv, -⟩ | ⟨hw, hvt, hdn, -⟩
    · refine .inr ⟨by rw [hwant, hw], vs i, ds i, ?_, ?_, ?_⟩
      · have hpl : y.plain = true := by
          unfold slotsOk at hok
          rw [Bool.and_eq_true, List.all_eq_true] at hok
          exact hok.1 y (List.mem_of_getElem? hy)
        rw [opV_slots (ts := (st i).tmps) (ts' := ts) (fun t ht => hslot t ?_) ?_, opV_looks (σ := (st i).σ) (fun k hk => ?_), hv]
        · rw [hI.store, hq3]
          refine getAt_congr n fun j hj => ?_
          by_cases e : j = i
          · subst e; left; rw [hSi]; simp
          · rcases har j hj e with h1 | h1
            · exact .inl h1
            · obtain ⟨z, hz⟩ := hlook j hj
              right
              intro hkj
              exact (apart i j y z hy hz h1).2.2 hw k hkj hk
        · intro o' ty xs hx
          refine ⟨fun cs b hsel => ?_, fun t ht => hslot t ?_⟩
          · subst hsel; unfold Y.plain at hpl; rw [hx] at hpl; simp at hpl
          · unfold Y.slots
            rw [hx]
            refine List.mem_append.2 (.inr (List.mem_filterMap.2 ⟨_, Array.mem_toList_iff.2 ht, rfl⟩))
        · unfold Y.slots
          refine List.mem_append.2 (.inl (List.mem_append.2 (.inr (List.mem_filterMap.2 ⟨_, ht, rfl⟩))))
      · intro p hp hge
        cases hL : L p.1 with
        | none => rfl
        | some l =>
          have hpk : p.1 ∈ keys (ds i) := List.mem_map.2 ⟨p, hp, rfl⟩
          rcases hI.new p.1 l hL with h1 | ⟨j, hj, hs, hk, hgj⟩
          · have := hlen 0 i (by omega) (by omega); omega
          · have hji : j ≠ i := by rintro rfl; simp only [hSi] at hs; cases hs
            rcases Nat.lt_or_ge j i with hlt | hlt
            · have h1 := hkl j hj _ hk
              have h2 := hlen (j + 1) i (by omega) (by omega)
              omega
            · have h1 := hkl i hin _ hpk
              have h2 := hlen (i + 1) j (by omega) (by omega)
              omega
      · intro c w' N' L' hl
        refine ⟨hcls', N', L', putO ts y.dst (vs i), σ.app (ds i), ?_⟩
        refine ⟨hI.evo.trans hl.evo, hl.rel, frel_put (frel_mono hI.fr hl.evo.nmono (hI.rel.kept hl.evo) hl.lm) hl.val, by rw [put_defers']; exact hI.df, ?_, by rw [length_putO]; exact hI.len, ?_, ?_, ?_⟩
        · intro k hk
          have hml : m ≤ (st 0).σ.length := by rw [h0]; exact hst.ml
          have h1 := hlen 0 i (by omega) (by omega)
          rw [← hI.lm k hk]
          cases hL : L k with
          | some l => exact hl.lm k l hL
          | none =>
            cases hL' : L' k with
            | none => rfl
            | some l =>
              rcases hl.new k l hL' with h2 | ⟨p, hp, h2, h3⟩
              · rw [hL] at h2; cases h2
              · omega
        · intro t
          rw [getD_putO, hI.slots, hI.len, slotAt_more (S := fun j => listed.getD j false) hin hSi hset hne hdsts, hdst]
        · intro k
          rw [get_appAt, hI.store, getAt_more (S := fun j => listed.getD j false) hin hSi hset hne hkeys]
        · intro k l hL'
          rcases hl.new k l hL' with h1 | ⟨p, hp, h1, h2⟩
          · rcases hI.new k l h1 with h1 | ⟨j, hj, hs, hk⟩
            · exact .inl h1
            · exact .inr ⟨j, hj, getD_set_true hs, hk⟩
          · exact .inr ⟨i, hin, hset, by rw [← h1]; exact List.mem_map.2 ⟨p, hp, rfl⟩, h2⟩
    · refine .inl ⟨by rw [hwant, hw], hcls', N, L, putO ts y.dst (.tup []), σ, ?_⟩
      refine ⟨hI.evo, hI.rel, frel_put hI.fr (.inr (.tup _ _ rfl (by intro i v c h1; simp at h1))), by rw [put_defers']; exact hI.df, hI.lm, by rw [length_putO]; exact hI.len, ?_, ?_, ?_⟩
      · intro t
        rw [getD_putO, hI.slots, hI.len, slotAt_more (S := fun j => listed.getD j false) hin hSi hset hne hdsts, hdst, hvt]
      · intro k
        rw [hI.store, getAt_more (S := fun j => listed.getD j false) hin hSi hset hne hkeys, hdn]; rfl
      · intro k l hL
        rcases hI.new k l hL with h1 | ⟨j, hj, hs, hk⟩
        · exact .inl h1
        · exact .inr ⟨j, hj, getD_set_true hs, hk⟩
  · -- all are done
    rintro listed a w hls ⟨hcls, N, L, ts, σ, hI⟩ hr
    have all : ∀ i, i < n → listed.getD i false = true := by
      intro i
      induction i using Nat.strongRecOn with
      | _ i ih =>
        intro hi
        cases hs : listed.getD i false with
        | true => rfl
        | false =>
          have : i ∈ Region.ready .any ops listed := by
            refine mem_ready.2 ⟨?_, ops[i], Array.getElem?_eq_getElem hi, fun e he hb => ?_⟩
            · have hil : i < listed.size := by omega
              simp [Array.getD, hil] at hs ⊢; exact hs
            · unfold edgesOk at hed
              rw [List.all_eq_true] at hed
              have h1 := hed (ops[i], i) (by rw [List.mem_zipIdx_iff_getElem?]; simpa using List.getElem?_eq_getElem (l := ops.toList) (i := i) (by simpa using hi))
              rw [List.all_eq_true] at h1
              have h2 := h1 e (by simpa using he)
              simp only [hb, Bool.not_true, Bool.false_or, decide_eq_true_eq] at h2
              exact ih e.on h2 (by omega)
          rw [hr] at this; cases this
    obtain ⟨hq1, hq2, hq3⟩ := hseq n (Nat.le_refl n)
    have hsn : st n = s' := by rw [← hn, hyl]
    have hts : ts = s'.tmps := by
      refine List.ext_getElem (by rw [hI.len, ← hsn, hq1]) fun t h1 h2 => ?_
      have : ts.getD t .bot = s'.tmps.getD t .bot := by
        rw [hI.slots, ← hsn, hq2]
        exact slotAt_congr n fun j hj => .inl (by simp [all j hj, hj])
      simpa [List.getD, h1, h2] using this
    have hget : ∀ k, s'.σ.get k = σ.get k := by
      intro k
      rw [hI.store, ← hsn, hq3]
      exact getAt_congr n fun j hj => .inl (by simp [all j hj, hj])
    subst hts
    refine hq a w N L ⟨evo_get hget hI.evo, srel_get hget hI.rel, hI.fr, hI.df, hI.lm, fun k l hL => ?_, ?_⟩
    · rcases hI.new k l hL with h1 | ⟨j, hj, hs, hk, -⟩
      · have := hlen 0 n (by omega) (Nat.le_refl _); rw [hsn] at this; omega
      · have h1 := hkl j hj k hk
        have h2 := hlen (j + 1) n (by omega) (Nat.le_refl _); rw [hsn] at h2; omega
    · have h1 := hlen 0 n (by omega) (Nat.le_refl _)
      rw [hsn, h0] at h1
      exact Nat.le_trans hst.ml h1
  · have := List.countP_le_length (p := fun b => !b) (l := (Array.replicate ops.size false).toList)
    simpa using this
  · refine ⟨fun j hj => ?_, N, L, s.tmps, s.σ, ?_⟩
    · exfalso
      simp only [Array.getD] at hj
      split at hj <;> simp at hj
    · have hS : ∀ j, (Array.replicate ops.size false).getD j false = false := by
        intro j
        simp only [Array.getD]
        split <;> simp
      refine ⟨evo_draw hst.evo, srel_draw hst.rel, ⟨hst.fr.size, fun i v c h1 h2 => RS.mono (w := w) (w' := { w with drawn := w.drawn + 1 }) (N := N) (L := L) (fun _ h => h) (fun _ _ => rfl) (fun _ _ h => h) (hst.fr.slot i v c h1 h2)⟩, hst.df, hst.lm, by rw [h0], fun t => ?_, fun k => ?_, fun k l hL => .inl (by rw [h0]; exact hst.lt k l hL)⟩
      · rw [slotAt_top (i := 0) n (by omega) fun j _ _ h => by rw [hS] at h; cases h]
        rw [slotAt, h0]
      · rw [getAt_top (i := 0) n (by omega) fun j _ _ h => by rw [hS] at h; cases h]
        rw [getAt, h0]
end Go.Vm
namespace Go.Vm
variable {P : Program} {w : World} {N : Nat → Prop} {L : Lmap} {σ : Store} {nxt : Nat} {ts : List V} {a : Act}

theorem st_forget {w0 : World} {N0 : Nat → Prop} {L0 : Lmap} {σ0 : Store} {m : Nat} {s : Fr} (live : Nat) (h : St w0 N0 L0 σ0 m s a w N L) : ∃ L', St w0 N0 L0 σ0 m (forget m live s) a w N L' := by
  let vs := s.tmps.zipIdx.map fun (v, i) => if live.testBit i then v else V.bot
  let ids := gcIds m vs s.σ
  have hnd : ids.Nodup := gcIds_nodup m vs s.σ
  refine ⟨Lpack L ids, ?_⟩
  have hgc : gc m vs s.σ = (V.ren.renL (fun j => ids.idxOf? j) vs, pack s.σ ids) := gc_eq m vs s.σ
  have hf : forget m live s = ⟨V.ren.renL (fun j => ids.idxOf? j) vs, pack s.σ ids⟩ := by
    unfold forget
    show Fr.mk (gc m vs s.σ).1 (gc m vs s.σ).2 = _
    rw [hgc]
  rw [hf]
  refine ⟨?_, pack_rel h.rel hnd, ⟨?_, ?_⟩, h.df, ?_, lpack_lt, ?_⟩
  · exact ⟨h.evo.os, h.evo.tape, h.evo.output, h.evo.cold, h.evo.size, h.evo.keep, h.evo.nmono, h.evo.nnew, fun b hb => h.evo.onew b (own_pack hb)⟩
  · rw [renL_eq]; simp [vs, h.fr.size]
  · intro i v c hv hcv
    rw [renL_eq] at hv
    simp only [vs, List.map_map, List.getElem?_map, List.getElem?_zipIdx, Option.map_eq_some_iff] at hv
    obtain ⟨p, ⟨u, hu, rfl⟩, rfl⟩ := hv
    simp only [Function.comp, Nat.zero_add]
    split
    · exact ren_rs (pack_hf ids) (h.fr.slot i u c hu hcv)
    · exact .inl rfl
  · intro id hid
    rw [← h.lm id hid]
    have := gcIds_fix (vs := vs) (σ := s.σ) hid
    unfold Lpack
    rw [show (ids[id]?) = some id from this]; rfl
  · have := gcIds_len (m := m) (vs := vs) (σ := s.σ)
    simpa [pack] using this

/-- Masks aside. -/
def C.strip : C → C
  | .seq a b => .seq a.strip b.strip
  | .cond c a b => .cond c a.strip b.strip
  | .blk id a => .blk id a.strip
  | .loop _ _ a => .loop 0 0 a.strip
  | c => c

def Ex.out : Ex → Exit
  | .norm => .normal
  | .exit id => .exit id
  | .ret => .ret

theorem least {p : Nat → Prop} (h : ∃ n, p n) : ∃ n, p n ∧ ∀ k, k < n → ¬ p k := by
  obtain ⟨n, hn⟩ := h
  induction n using Nat.strongRecOn with
  | _ n ih =>
    rcases Classical.em (∃ k, k < n ∧ p k) with ⟨k, hk, hp⟩ | hno
    · exact ih k hk hp
    · exact ⟨n, hn, fun k hk hp => hno ⟨k, hk, hp⟩⟩

open Classical in
theorem wp_loop_n {c : Code} {Q : Exit → Act → World → Prop} (I : Nat → Act → World → Prop) (n : Nat) (h0 : I n a w)
    (round : ∀ n a w, I n a w → c.wp P (Exit.then (fun a' w' => ∃ k, k < n ∧ I k a' w') Q) a w) : (Code.loop c).wp P Q a w := by
  refine wp_loop (fun a w => ∃ n, I n a w) (fun a w => if h : ∃ n, I n a w then Classical.choose (least h) else 0) ⟨n, h0⟩ fun a w hI => ?_
  have hs := Classical.choose_spec (least hI)
  refine wp_mono (round _ a w hs.1) ?_
  intro e a' w' hq
  cases e with
  | normal =>
    obtain ⟨k, hk, hI'⟩ := hq
    refine ⟨⟨k, hI'⟩, ?_⟩
    have hex : ∃ n, I n a' w' := ⟨k, hI'⟩
    simp only [dif_pos hI, dif_pos hex]
    have hs' := Classical.choose_spec (least hex)
    rcases Nat.lt_or_ge k (Classical.choose (least hex)) with h1 | h1
    · exact absurd hI' (hs'.2 k h1)
    · exact Nat.lt_of_le_of_lt h1 hk
  | _ => exact hq

theorem strip_loop {c a' : C} (h : C.loop 0 0 a' = c.strip) : ∃ l o b, c = .loop l o b ∧ b.strip = a' := by
  cases c <;> simp [C.strip] at h
  exact ⟨_, _, _, rfl, h.symm⟩

theorem exec_wp {Γ : Env} (hΓ : SoundEnv P Γ) (hm : P.follows .mixedOrders = true) {R : FuncId → List Bool} {w0 : World} {N0 : Nat → Prop} {L0 : Lmap} {σ0 : Store} {m : Nat} (code : Code) : ∀ (c : C), compC P code = some c.strip →
    ∀ {s s' : Fr} {e : Ex} {a : Act} {w : World} {N : Nat → Prop} {L : Lmap} {Q : Exit → Act → World → Prop}, exec P Γ R m c s = some (e, s') → St w0 N0 L0 σ0 m s a w N L → (∀ a w N L, St w0 N0 L0 σ0 m s' a w N L → Q e.out a w) → code.wp P Q a w := by
  induction code with
  | scope code ih =>
    intro c hc s s' e a w N L Q h hst hq
    simp only [compC] at hc
    refine wp_scope_straight (ih c hc h hst fun a w N L hst => ?_)
    have := hq a w N L hst
    cases e <;> exact this
  | skip =>
    intro c hc s s' e a w N L Q h hst hq
    simp only [compC, Option.some.injEq] at hc
    have : c = .skip := by cases c <;> simp [C.strip] at hc; rfl
    subst this
    simp only [exec, Option.some.injEq, Prod.mk.injEq] at h
    obtain ⟨rfl, rfl⟩ := h
    exact wp_skip (hq _ _ _ _ hst)
  | exit id =>
    intro c hc s s' e a w N L Q h hst hq
    simp only [compC, Option.some.injEq] at hc
    have : c = .exit id := by cases c <;> simp [C.strip] at hc; rw [hc]
    subst this
    simp only [exec, Option.some.injEq, Prod.mk.injEq] at h
    obtain ⟨rfl, rfl⟩ := h
    exact wp_exit (hq _ _ _ _ hst)
  | ret =>
    intro c hc s s' e a w N L Q h hst hq
    simp only [compC, Option.some.injEq] at hc
    have : c = .ret := by cases c <;> simp [C.strip] at hc; rfl
    subst this
    simp only [exec, Option.some.injEq, Prod.mk.injEq] at h
    obtain ⟨rfl, rfl⟩ := h
    exact wp_ret (hq _ _ _ _ hst)
  | region id ops draw =>
    intro c hc s s' e a w N L Q h hst hq
    cases draw with
    | false =>
      simp only [compC, Option.map_eq_some_iff] at hc
      obtain ⟨ys, hys, hc⟩ := hc
      have : c = .reg ys := by cases c <;> simp [C.strip] at hc; rw [hc]
      subst this
      simp only [exec, Option.map_eq_some_iff] at h
      obtain ⟨s1, h, e1⟩ := h
      simp only [Prod.mk.injEq] at e1
      obtain ⟨rfl, rfl⟩ := e1
      refine wp_region ?_
      have hl := (compY_all hys).1
      have := ops_wp hΓ hys (Q := Q) hq ys 0 rfl h hst
      rw [hl] at this
      rwa [List.range_eq_range']
    | true =>
      simp only [compC, Option.bind_eq_some_iff] at hc
      obtain ⟨ys, hys, hc⟩ := hc
      split at hc
      · rename_i hok
        simp only [Option.some.injEq] at hc
        have : c = .any ys (openPairs ops) := by cases c <;> simp [C.strip] at hc; rw [hc.1, hc.2]
        subst this
        simp only [exec] at h
        split at h
        · rename_i s1 tr h1
          split at h
          · rename_i hcl
            simp only [Option.some.injEq, Prod.mk.injEq] at h
            obtain ⟨rfl, rfl⟩ := h
            exact any_wp hΓ hys hm hok.1 hok.2 h1 hcl hst hq
          · cases h
        · cases h
      · cases hc
  | seq x y ihx ihy =>
    intro c hc s s' e a w N L Q h hst hq
    simp only [compC, Option.bind_eq_bind, Option.pure_def, Option.bind_eq_some_iff, Option.some.injEq] at hc
    obtain ⟨cx, hx, cy, hy, hc⟩ := hc
    obtain ⟨bx, bY, rfl, rfl, rfl⟩ : ∃ p q, c = .seq p q ∧ cx = p.strip ∧ cy = q.strip := by
      cases c <;> simp [C.strip] at hc; exact ⟨_, _, rfl, hc.1, hc.2⟩
    simp only [exec] at h
    refine wp_seq ?_
    split at h
    · rename_i s1 h1
      exact ihx bx hx h1 hst fun a w N L hst => ihy bY hy h hst hq
    · rename_i hno
      refine ihx bx hx h hst fun a w N L hst => ?_
      have := hq a w N L hst
      cases e with
      | norm => exact absurd h (hno _)
      | _ => exact this
  | cond b x y ihx ihy =>
    intro c hc s s' e a w N L Q h hst hq
    simp only [compC, Option.bind_eq_bind, Option.pure_def, Option.bind_eq_some_iff, Option.some.injEq] at hc
    obtain ⟨ob, hb, cx, hx, cy, hy, hc⟩ := hc
    obtain ⟨p, q, r, rfl, rfl, rfl, rfl⟩ : ∃ p q r, c = .cond p q r ∧ ob = p ∧ cx = q.strip ∧ cy = r.strip := by
      cases c <;> simp [C.strip] at hc; exact ⟨_, _, _, rfl, hc.1, hc.2.1, hc.2.2⟩
    simp only [exec] at h
    split at h
    · rename_i t ht
      have hr := ev_rel hst.fr hb
      rw [ht] at hr
      have hr2 := rs_of hr (by simp)
      have hcv : a.eval b = .bool t := by
        generalize a.eval b = v at hr2
        cases hr2 with | d _ _ hd => cases hd; rfl
      refine wp_cond hcv ?_
      cases t with
      | true => exact ihx q hx h hst hq
      | false => exact ihy r hy h hst hq
    · cases h
  | block id x ih =>
    intro c hc s s' e a w N L Q h hst hq
    simp only [compC, Option.map_eq_some_iff] at hc
    obtain ⟨cx, hx, hc⟩ := hc
    obtain ⟨q, rfl, rfl⟩ : ∃ q, c = .blk id q ∧ cx = q.strip := by
      cases c <;> simp [C.strip] at hc; exact ⟨_, by rw [hc.1], hc.2⟩
    simp only [exec] at h
    refine wp_block ?_
    split at h
    · rename_i j s1 h1
      split at h
      · rename_i hj
        simp only [Option.some.injEq, Prod.mk.injEq] at h
        obtain ⟨rfl, rfl⟩ := h
        refine ih q hx h1 hst fun a w N L hst => ?_
        simp only [Ex.out, Exit.inBlock, hj, if_true]
        exact hq a w N L hst
      · rename_i hj
        simp only [Option.some.injEq, Prod.mk.injEq] at h
        obtain ⟨rfl, rfl⟩ := h
        refine ih q hx h1 hst fun a w N L hst => ?_
        simp only [Ex.out, Exit.inBlock, hj, if_false]
        exact hq a w N L hst
    · rename_i hno
      refine ih q hx h hst fun a w N L hst => ?_
      have := hq a w N L hst
      cases e with
      | exit j => exact absurd h (hno _ _)
      | _ => exact this
  | loop x ih =>
    intro c hc s s' e a w N L Q h hst hq
    simp only [compC, Option.map_eq_some_iff] at hc
    obtain ⟨cx, hx, hc⟩ := hc
    obtain ⟨l, o, q, rfl, rfl⟩ := strip_loop hc
    simp only [exec] at h
    refine wp_loop_n (fun n a w => ∃ s N L, St w0 N0 L0 σ0 m s a w N L ∧ rounds (exec P Γ R m q) (forget m l) (forget m o) n s = some (e, s')) LOOPS ?_ ?_
    · obtain ⟨L', h'⟩ := st_forget l hst
      exact ⟨_, N, L', h', h⟩
    · rintro n a w ⟨s1, N, L, hst, hr⟩
      cases n with
      | zero => simp [rounds] at hr
      | succ n =>
        simp only [rounds] at hr
        split at hr
        · rename_i s2 h2
          refine ih q hx h2 hst fun a w N L hst => ?_
          obtain ⟨L', h'⟩ := st_forget l hst
          exact ⟨n, Nat.lt_succ_self n, _, N, L', h', hr⟩
        · rename_i e2 s2 hno h2
          simp only [Option.some.injEq, Prod.mk.injEq] at hr
          obtain ⟨rfl, rfl⟩ := hr
          refine ih q hx h2 hst fun a w N L hst => ?_
          obtain ⟨L', h'⟩ := st_forget o hst
          have := hq a w N L' h'
          cases e2 with
          | norm => exact (hno rfl).elim
          | _ => exact this
        · cases hr
  | _ => intro c hc; simp [compC] at hc
end Go.Vm
namespace Go.Vm
variable {P : Program} {w : World} {N : Nat → Prop} {L : Lmap} {σ : Store} {nxt : Nat} {ts : List V} {a : Act}

/-- A function and its compiled form. -/
structure Comp (P : Program) (fn : Func) (F : F) : Prop where
  name : (fn.name == "runtime.NumGoroutine") = false
  body : ∃ code, fn.body = some code ∧ compC P code = some F.body.strip
  res : fn.results.toList.mapM (compRes P) = some F.results
  ntmps : fn.ntmps = F.ntmps

theorem run_mapM {α : Type} (f : α → Sem Value) : ∀ (l : List α) (cs : List Value), l.length = cs.length → (∀ (i : Nat) x c, l[i]? = some x → cs[i]? = some c → (f x).run P w = .ok c w) → (l.mapM f).run P w = .ok cs w
  | [], [], _, _ => by simp
  | x :: r, c :: cs, hl, h => by
    rw [List.mapM_cons]
    simp only [Sem.run_bind]
    rw [h 0 x c rfl rfl, Result.andThen_ok, run_mapM f r cs (by simpa using hl) fun i y d hy hd => h (i + 1) y d (by simpa using hy) (by simpa using hd)]
    simp
  | [], _ :: _, h, _ => by simp at h
  | _ :: _, [], h, _ => by simp at h

theorem result_rel {s : Fr} {fn : Func} {r : ResultVar} {x : Nat ⊕ (Bool × Nat × Nat)} {v : V} (hr : compRes P r = some x) (hs : SRel w N L s.σ) (hf : FRel w N L s.tmps a) (h : resultOf s x = some v) (hv : v ≠ .bot) :
    ∃ c, (match r with | .tmp t => pure (a.tmps.getD t undef) | .cell b t => do loadVar t (← asAddr (a.tmps.getD b undef)) : Sem Value).run P w = .ok c w ∧ RV w N L v c := by
  have slot : ∀ t, s.tmps.getD t .bot = .bot ∨ RS w N L (s.tmps.getD t .bot) (a.tmps.getD t undef) := by
    intro t
    rcases Nat.lt_or_ge t s.tmps.length with h1 | h1
    · right
      have h2 : s.tmps[t]? = some s.tmps[t] := List.getElem?_eq_getElem h1
      have h3 : t < a.tmps.size := by rw [hf.size]; exact h1
      have := hf.slot t _ _ h2 (Array.getElem?_eq_getElem h3)
      simpa [List.getD, h2, Array.getD, h3] using this
    · left; simp [List.getD, List.getElem?_eq_none h1]
  cases r with
  | tmp t =>
    simp only [compRes, Option.some.injEq] at hr
    subst hr
    simp only [resultOf, Option.some.injEq] at h
    subst h
    refine ⟨_, rfl, ?_⟩
    rcases slot t with h1 | h1
    · exact absurd h1 hv
    · exact rs_of h1 hv
  | cell b t =>
    simp only [compRes, Option.bind_eq_bind, Option.pure_def, Option.bind_eq_some_iff, Option.some.injEq] at hr
    obtain ⟨ag, hag, n, hn, rfl⟩ := hr
    simp only [resultOf, Option.bind_eq_some_iff] at h
    obtain ⟨vs, hrd, hmk⟩ := h
    have hrs : RS w N L (s.tmps.getD b .bot) (a.tmps.getD b undef) := by
      rcases slot b with h1 | h1
      · rw [h1] at hrd; simp [readAt] at hrd
      · exact h1
    obtain ⟨b', of, hc, hl, cs, hcl, hcc, hcr⟩ := read_rel hs hrs hrd
    obtain ⟨c, hcv, hrv⟩ := mk_rel hcr hmk
    refine ⟨c, ?_, hrv⟩
    have := run_loadVar' (P := P) (w := w) hag hn hcl hcc hcv
    simp only [hc]
    simpa [asAddr] using this

theorem freezeV_bot {v : V} (h : v ≠ .bot) : freezeV σ v ≠ .bot := by
  cases v with
  | bot => exact absurd rfl h
  | agg cells => simp [freezeV]
  | _ =>
    simp only [freezeV]
    intro e
    cases hc : freezeCell σ _ with
    | none => rw [hc] at e; simp at e
    | some x => rw [hc] at e; simp at e

theorem okV_ne {v : V} (h : okV v = true) : v ≠ .bot := by rintro rfl; simp [okV] at h

theorem list_choice {α β : Type} : ∀ {vs : List α} {p : Nat → α → β → Prop}, (∀ i v, vs[i]? = some v → ∃ c, p i v c) → ∃ cs : List β, cs.length = vs.length ∧ ∀ (i : Nat) v c, vs[i]? = some v → cs[i]? = some c → p i v c
  | [], p, _ => ⟨[], rfl, by intro i v c h; simp at h⟩
  | v :: r, p, h => by
    obtain ⟨c, hc⟩ := h 0 v rfl
    obtain ⟨cs, hl, hr⟩ := list_choice (vs := r) (p := fun i => p (i + 1)) fun i v hv => h (i + 1) v (by simpa using hv)
    refine ⟨c :: cs, by simp [hl], fun i x y hx hy => ?_⟩
    cases i with
    | zero => simp at hx hy; subst hx; subst hy; exact hc
    | succ i => exact hr i x y (by simpa using hx) (by simpa using hy)

theorem finish_wp {w0 : World} {N0 : Nat → Prop} {L0 : Lmap} {σ0 σ' : Store} {s : Fr} {F : F} {fn : Func} {v : V} (hF : Comp P fn F) (h : finish F σ0.length s = some (v, σ')) (hst : St w0 N0 L0 σ0 σ0.length s a w N L) :
    ∃ c N' L', (results fn a.tmps).run P w = .ok c w ∧ Evo w0 N0 L0 σ0 w N' L' σ' ∧ SRel w N' L' σ' ∧ (∀ id, id < σ0.length → L' id = L0 id) ∧ (∀ id l, L' id = some l → id < σ'.length) ∧ RS w N' L' v c ∧ σ0.length ≤ σ'.length := by
  unfold finish at h
  split at h
  · cases h
  · rename_i vs hvs
    split at h
    · cases h
    · rename_i hok
      have hok : ∀ v ∈ vs, okV v = true := by simpa using hok
      simp only [Option.some.injEq, Prod.mk.injEq] at h
      obtain ⟨h1, h2⟩ := h
      obtain ⟨hl1, hg1⟩ := mapM_get _ _ _ hF.res
      obtain ⟨hl2, hg2⟩ := mapM_get _ _ _ hvs
      -- the results
      have hcs : ∀ (i : Nat) (v : V), vs[i]? = some v → ∃ c, (∀ r, fn.results.toList[i]? = some r → (match r with | .tmp t => pure (a.tmps.getD t undef) | .cell b t => do loadVar t (← asAddr (a.tmps.getD b undef)) : Sem Value).run P w = .ok c w) ∧ RV w N L v c := by
        intro i v hv
        have hil : i < fn.results.toList.length := by
          rw [← hl1, ← hl2]
          rcases Nat.lt_or_ge i vs.length with h | h
          · exact h
          · rw [List.getElem?_eq_none h] at hv; cases hv
        have hr := List.getElem?_eq_getElem hil
        have hx := List.getElem?_eq_getElem (l := F.results) (i := i) (by omega)
        obtain ⟨c, hc1, hc2⟩ := result_rel (fn := fn) (hg1 i _ _ hr hx) hst.rel hst.fr (hg2 i _ _ hx hv) (okV_ne (hok v (List.mem_of_getElem? hv)))
        exact ⟨c, fun r hr2 => by rw [hr] at hr2; injection hr2 with hr2; subst hr2; exact hc1, hc2⟩
      have hex : ∃ cs : List Value, cs.length = vs.length ∧ ∀ (i : Nat) v c, vs[i]? = some v → cs[i]? = some c → (∀ r, fn.results.toList[i]? = some r → (match r with | .tmp t => pure (a.tmps.getD t undef) | .cell b t => do loadVar t (← asAddr (a.tmps.getD b undef)) : Sem Value).run P w = .ok c w) ∧ RV w N L v c := list_choice hcs
      obtain ⟨cs, hcl, hcsr⟩ := hex
      let fr := (vs.zipIdx.filter fun (_, i) => !F.own.getD i false).flatMap fun (v, _) => frozenIds v
      obtain ⟨hfe, hfs⟩ := freeze_good hst.rel fr
      let N' : Nat → Prop := fun b => N b ∨ Fz L s.σ fr b
      let us := vs.zipIdx.map fun (v, i) => if F.own.getD i false then v else freezeV s.σ v
      let σf := s.σ.app (frz s.σ fr)
      let ids := gcIds σ0.length us σf
      have hnd : ids.Nodup := gcIds_nodup _ _ _
      have hgc : gc σ0.length us σf = (V.ren.renL (fun j => ids.idxOf? j) us, pack σf ids) := gc_eq _ _ _
      have h1 : (match (V.ren.renL (fun j => ids.idxOf? j) us) with | [v] => v | vs => .tup vs) = v := by
        rw [← h1]; exact (congrArg (fun p : List V × Store => match p.1 with | [v] => v | vs => V.tup vs) hgc).symm
      have h2 : pack σf ids = σ' := by rw [← h2]; exact (congrArg Prod.snd hgc).symm
      have hul : us.length = vs.length := by simp [us]
      -- each of them, frozen and told anew
      have hrv : ∀ (i : Nat) u c, (V.ren.renL (fun j => ids.idxOf? j) us)[i]? = some u → cs[i]? = some c → RV w N' (Lpack L ids) u c := by
        intro i u c hu hc
        rw [renL_eq] at hu
        simp only [us, List.map_map, List.getElem?_map, List.getElem?_zipIdx, Option.map_eq_some_iff] at hu
        obtain ⟨p, ⟨v, hv, rfl⟩, rfl⟩ := hu
        have hvc := (hcsr i v c hv hc).2
        simp only [Function.comp, Nat.zero_add]
        refine ren_rel (pack_hf ids) ?_
        split
        · exact hvc.mono (fun _ h => .inl h) (fun _ _ => rfl) (fun _ _ h => h)
        · rename_i how
          refine rs_of (freezeV_rel hst.rel (.inr hvc) fun k hk => ?_) (freezeV_bot (okV_ne (hok v (List.mem_of_getElem? hv))))
          refine List.mem_flatMap.2 ⟨(v, i), List.mem_filter.2 ⟨List.mem_zipIdx_iff_getElem?.2 hv, by simpa using how⟩, hk⟩
      have hrl : (V.ren.renL (fun j => ids.idxOf? j) us).length = cs.length := by rw [renL_eq]; simp [hul, hcl]
      have hrun : (results fn a.tmps).run P w = .ok (if h : cs.toArray.size = 1 then cs.toArray[0] else .tuple cs.toArray) w := by
        unfold results
        rw [Array.mapM_eq_mapM_toList]
        simp only [Sem.run_bind, map_eq_pure_bind]
        rw [run_mapM _ fn.results.toList cs (by omega) fun i r c hr hc => ?_]
        · rfl
        · have hv := List.getElem?_eq_getElem (l := vs) (i := i) (by
            rw [← hcl]
            rcases Nat.lt_or_ge i cs.length with h | h
            · exact h
            · rw [List.getElem?_eq_none h] at hc; cases hc)
          exact (hcsr i _ c hv hc).1 r hr
      refine ⟨_, N', Lpack L ids, hrun, ?_, ?_, ?_, ?_, ?_, ?_⟩
      · rw [← h2]
        refine (hst.evo.trans hfe).trans ⟨rfl, rfl, rfl, fun _ => rfl, Nat.le_refl _, fun _ _ _ => rfl, fun _ h => h, fun _ h => .inl h, fun b hb => .inr (own_pack hb)⟩
      · rw [← h2]; exact pack_rel hfs hnd
      · intro id hid
        rw [← hst.lm id hid]
        have := gcIds_fix (vs := us) (σ := σf) hid
        unfold Lpack
        rw [show (ids[id]?) = some id from this]; rfl
      · rw [← h2]; exact lpack_lt
      · rw [← h1]
        generalize V.ren.renL (fun j => ids.idxOf? j) us = rs at hrv hrl
        match rs, cs, hrl, hrv with
        | [u], [c], _, hrv => exact .inr (hrv 0 u c rfl rfl)
        | [], [], _, hrv => exact .inr (.tup _ _ rfl (by intro i v c h; simp at h))
        | u1 :: u2 :: r, c1 :: c2 :: cr, hl, hrv =>
          refine .inr (.tup _ _ (by simpa using hl.symm) fun i v c hv hc => hrv i v c hv (by simpa using hc))
        | [], _ :: _, h, _ => simp at h
        | _ :: _, [], h, _ => simp at h
        | [_], _ :: _ :: _, h, _ => simp at h
        | _ :: _ :: _, [_], h, _ => simp at h
      · rw [← h2]
        have := gcIds_len (m := σ0.length) (vs := us) (σ := σf)
        simpa [pack] using this
end Go.Vm
namespace Go.Vm
variable {P : Program} {w : World} {N : Nat → Prop} {L : Lmap} {σ : Store} {nxt : Nat} {ts : List V} {a : Act}

theorem bodyPost_wp {w0 : World} {N0 : Nat → Prop} {L0 : Lmap} {σ0 σ' : Store} {s : Fr} {F : F} {fn : Func} {v : V} {e : Ex} (he : e = .norm ∨ e = .ret) (hF : Comp P fn F) (h : finish F σ0.length s = some (v, σ')) (hst : St w0 N0 L0 σ0 σ0.length s a w N L) :
    bodyPost P fn (fun e w' => ∃ c N' L', e = .returned c ∧ Evo w0 N0 L0 σ0 w' N' L' σ' ∧ SRel w' N' L' σ' ∧ (∀ id, id < σ0.length → L' id = L0 id) ∧ (∀ id l, L' id = some l → id < σ'.length) ∧ RS w' N' L' v c) e.out a w := by
  obtain ⟨c, N', L', hr, h1, h2, h3, h4, h5, -⟩ := finish_wp hF h hst
  have : a.defers = [] ∧ ∃ v', (results fn a.tmps).run P w = .ok v' w ∧ ∃ c N' L', Ending.returned v' = .returned c ∧ Evo w0 N0 L0 σ0 w N' L' σ' ∧ SRel w N' L' σ' ∧ (∀ id, id < σ0.length → L' id = L0 id) ∧ (∀ id l, L' id = some l → id < σ'.length) ∧ RS w N' L' v c :=
    ⟨hst.df, c, hr, c, N', L', rfl, h1, h2, h3, h4, h5⟩
  rcases he with rfl | rfl <;> exact this

theorem runF_sound {Γ : Env} (hΓ : SoundEnv P Γ) (hm : P.follows .mixedOrders = true) {R : FuncId → List Bool} {f : FuncId} {fn : Func} {F : F} (hf : P.funcs[f]? = some fn) (hF : Comp P fn F) {args : List V} {v : V} {σ' : Store}
    (h : runF P Γ R F args σ = some (v, σ')) : Sound P f args σ v σ' := by
  obtain ⟨code, hb, hcode⟩ := hF.body
  unfold runF at h
  split at h
  · cases h
  · rename_i hcnd
    simp only [not_or, ne_eq, Decidable.not_not, Nat.not_lt] at hcnd
    obtain ⟨s', e, hex, he, hfin⟩ : ∃ s' e, exec P Γ R σ.length F.body ⟨args ++ List.replicate (F.ntmps - F.nargs) .bot, σ⟩ = some (e, s') ∧ (e = .norm ∨ e = .ret) ∧ finish F σ.length s' = some (v, σ') := by
      split at h
      · rename_i s1 h1; exact ⟨s1, _, h1, .inl rfl, h⟩
      · rename_i s1 h1; exact ⟨s1, _, h1, .inr rfl, h⟩
      · cases h
    have key : ∀ (w : World) (N : Nat → Prop) (L : Lmap) (cargs : Array Value), SRel w N L σ → (∀ id l, L id = some l → id < σ.length) → cargs.size = args.length → (∀ (i : Nat) v c, args[i]? = some v → cargs[i]? = some c → RS w N L v c) →
        St w N L σ σ.length ⟨args ++ List.replicate (F.ntmps - F.nargs) .bot, σ⟩ { tmps := cargs ++ Array.replicate (fn.ntmps - cargs.size) undef, defers := [] } w N L := by
      intro w N L cargs hs hlt hsz ha
      refine ⟨.refl .., hs, ⟨?_, fun i v c hv hc => ?_⟩, rfl, fun _ _ => rfl, hlt, Nat.le_refl _⟩
      · simp [hsz, hF.ntmps, hcnd.1]
      · rcases Nat.lt_or_ge i args.length with hi | hi
        · rw [List.getElem?_append_left hi] at hv
          rw [Array.getElem?_append_left (by omega)] at hc
          exact ha i v c hv hc
        · rw [List.getElem?_append_right hi, List.getElem?_replicate] at hv
          split at hv
          · injection hv with hv; exact .inl hv.symm
          · cases hv
    refine ⟨?_, ⟨fn, hf, hF.name, by rw [hb]; rfl⟩, fun w N L cargs hs hlt hsz ha => ?_⟩
    · -- the store's length
      unfold finish at hfin
      split at hfin
      · cases hfin
      · split at hfin
        · cases hfin
        · simp only [Option.some.injEq, Prod.mk.injEq] at hfin
          rw [← hfin.2, gc_eq]
          have := gcIds_len (m := σ.length) (vs := (by assumption : List V).zipIdx.map fun (v, i) => if F.own.getD i false then v else freezeV s'.σ v) (σ := s'.σ.app (frz s'.σ (((by assumption : List V).zipIdx.filter fun (_, i) => !F.own.getD i false).flatMap fun (v, _) => frozenIds v)))
          simpa [pack] using this
    · exact calls_of_wp hf hb (exec_wp hΓ hm code F.body hcode hex (key w N L cargs hs hlt hsz ha) fun a w' N' L' hst => bodyPost_wp he hF hfin hst)

theorem run_sound {E : Env} (hE : SoundEnv P E) (hm : P.follows .mixedOrders = true) {T : FuncId → Option F} (hT : ∀ f F, T f = some F → ∃ fn, P.funcs[f]? = some fn ∧ Comp P fn F) : ∀ n, SoundEnv P (run P E T n)
  | 0 => by intro f args σ v σ' h; simp [run] at h
  | n + 1 => by
    intro f args σ v σ' h
    simp only [run] at h
    split at h
    · rename_i F hF
      obtain ⟨fn, hf, hc⟩ := hT f F hF
      exact runF_sound (run_sound hE hm hT n) hm hf hc h
    · exact hE f args σ v σ' h
end Go.Vm
namespace Go.Vm
open Go.RowKit
variable {P : Program}

def yes : Option (V × Store) → Bool | some (.d (.bool true), _) => true | _ => false

/-- A closed sentence: what the machine says, the program says. -/
theorem closed_calls {E : Env} (hE : SoundEnv P E) (hm : P.follows .mixedOrders = true) {T : FuncId → Option F} (hT : ∀ f F, T f = some F → ∃ fn, P.funcs[f]? = some fn ∧ Comp P fn F) {n : Nat} {f : FuncId}
    (h : yes (run P E T n f [] []) = true) (w : World) : Calls P f #[] w fun e w' => e = .returned (.bool true) ∧ Grown w w' := by
  cases hr : run P E T n f [] [] with
  | none => rw [hr] at h; cases h
  | some p =>
    obtain ⟨v, σ'⟩ := p
    have hv : v = .d (.bool true) := by
      rw [hr] at h
      unfold yes at h
      split at h
      · rename_i heq; injection heq with heq; injection heq with h1 h2
      · cases h
    subst hv
    obtain ⟨-, -, hs⟩ := run_sound hE hm hT n f [] [] _ _ hr
    have h0 : SRel w (fun b => b < w.heap.size) (fun _ => none) [] := by
      refine ⟨fun id o hg => ?_, fun b _ ⟨id, o, l, hg, _⟩ => ?_, fun id id' o o' l l' hg => ?_, fun b h => h⟩ <;> simp [Store.get] at hg
    refine (hs w (fun b => b < w.heap.size) (fun _ => none) #[] h0 (by intro id l h; cases h) rfl (by intro i v c h; simp at h)).mono ?_
    rintro e w' ⟨c, N', L', rfl, hev, -, -, -, hrs⟩
    have hc := hrs.resolve_left (by simp)
    refine ⟨?_, ⟨hev.os, hev.output, fun i hi => ?_⟩, hev.cold, hev.size⟩
    · cases hc with | d _ _ hd => cases hd; rfl
    · have hk := hev.keep i hi (fun ⟨id, o, l, hg, _⟩ => by simp [Store.get] at hg)
      rw [hk]
      cases w.heap[i]? with
      | none => rfl
      | some o => cases o <;> simp
end Go.Vm
namespace Go.Vm
/-! The compiler again, with the pairs of open order told by masks: for the kernel. -/
def maskOf (acc : List Nat) (o : Oper) : Nat := (o.after.toList.filter (Region.binds .any)).foldl (fun m e => m ||| (2 ^ e.on ||| acc.getD e.on 0)) 0
def befM : List Oper → List Nat → List Nat
  | [], acc => acc
  | o :: r, acc => befM r (acc ++ [maskOf acc o])
theorem foldl_or {α : Type} (f : α → Nat) (i : Nat) : ∀ (l : List α) (z : Nat), (l.foldl (fun m e => m ||| f e) z).testBit i = (z.testBit i || l.any fun e => (f e).testBit i)
  | [], z => by simp
  | a :: r, z => by rw [List.foldl_cons, foldl_or f i r, Nat.testBit_or, List.any_cons, Bool.or_assoc]
theorem contains_flatMap {α : Type} (g : α → List Nat) (i : Nat) : ∀ (l : List α), (l.flatMap g).contains i = l.any fun e => (g e).contains i
  | [] => rfl
  | a :: r => by
    rw [List.flatMap_cons, List.any_cons, ← contains_flatMap g i r, Bool.eq_iff_iff]
    simp
theorem mask_rel {accL : List (List Nat)} {accM : List Nat} (h : ∀ j i, (accM.getD j 0).testBit i = (accL.getD j []).contains i) (o : Oper) (i : Nat) :
    (maskOf accM o).testBit i = ((o.after.toList.filter (Region.binds .any)).flatMap fun e => e.on :: accL.getD e.on []).contains i := by
  unfold maskOf
  rw [foldl_or, contains_flatMap, Nat.zero_testBit, Bool.false_or]
  congr 1
  funext e
  have e2 : decide (e.on = i) = (i == e.on) := by
    rw [Bool.eq_iff_iff, decide_eq_true_eq, beq_iff_eq]; exact eq_comm
  rw [Nat.testBit_or, h, Nat.testBit_two_pow, List.contains_cons, e2]
theorem bef_rel : ∀ (ops : List Oper) (accL : List (List Nat)) (accM : List Nat), accL.length = accM.length → (∀ j i, (accM.getD j 0).testBit i = (accL.getD j []).contains i) →
    ∀ j i, ((befM ops accM).getD j 0).testBit i = ((befs ops accL).getD j []).contains i
  | [], accL, accM, hl, h => h
  | o :: r, accL, accM, hl, h => by
    refine bef_rel r _ _ (by simp [hl]) fun j i => ?_
    rcases Nat.lt_trichotomy j accM.length with hj | hj | hj
    · have h1 := h j i
      simp only [List.getD_eq_getElem?_getD] at h1 ⊢
      rw [List.getElem?_append_left hj, List.getElem?_append_left (by omega)]
      exact h1
    · have h1 := mask_rel h o i
      simp only [List.getD_eq_getElem?_getD] at h1 ⊢
      rw [List.getElem?_append_right (by omega), List.getElem?_append_right (by omega), show j - accM.length = 0 by omega, show j - accL.length = 0 by omega]
      exact h1
    · simp only [List.getD_eq_getElem?_getD]
      rw [List.getElem?_eq_none (by simp; omega), List.getElem?_eq_none (by simp; omega)]
      simp
def openPairsM (ops : Array Oper) : List (Nat × Nat) :=
  (fun b => (List.range ops.size).flatMap fun j => (fun m => (List.range j).filterMap fun i => if Nat.testBit m i then none else some (i, j)) (b.getD j 0)) (befM ops.toList [])
theorem openPairs_eq (ops : Array Oper) : openPairs ops = openPairsM ops := by
  unfold openPairs openPairsM
  have h := bef_rel ops.toList [] [] rfl (fun j i => by simp)
  dsimp only
  congr 1
  funext j
  congr 1
  funext i
  rw [h j i]
def compCM (P : Program) : Code → Option C
  | .skip => some .skip
  | .region _ ops false => (ops.toList.mapM (compY P)).map .reg
  | .region _ ops true => (ops.toList.mapM (compY P)).bind fun ys => (fun fr => bif slotsOk ys fr && edgesOk ops then some (.any ys fr) else none) (openPairsM ops)
  | .seq a b => (compCM P a).bind fun a => (compCM P b).map fun b => .seq a b
  | .cond c a b => (oOf c).bind fun c => (compCM P a).bind fun a => (compCM P b).map fun b => .cond c a b
  | .block id a => (compCM P a).map (.blk id)
  | .loop a => (compCM P a).map (.loop 0 0)
  | .exit id => some (.exit id)
  | .scope a => compCM P a
  | .ret => some .ret
  | _ => none
theorem compC_eq (P : Program) : ∀ (c : Code), compC P c = compCM P c
  | .skip => rfl
  | .region _ ops false => rfl
  | .region _ ops true => by
    rw [compC, compCM, openPairs_eq]
    congr 1
    funext ys
    dsimp only
    generalize openPairsM ops = fr
    cases h : slotsOk ys fr <;> cases h' : edgesOk ops <;> simp
  | .seq a b => by
    rw [compC, compCM, compC_eq P a, compC_eq P b]
    cases compCM P a <;> cases compCM P b <;> rfl
  | .cond c a b => by
    rw [compC, compCM, compC_eq P a, compC_eq P b]
    cases oOf c <;> cases compCM P a <;> cases compCM P b <;> rfl
  | .block id a => by rw [compC, compCM, compC_eq P a]
  | .loop a => by rw [compC, compCM, compC_eq P a]
  | .exit id => rfl
  | .scope a => by rw [compC, compCM, compC_eq P a]
  | .ret => rfl
  | .rangeFunc .. => rfl
  | .label _ => rfl
  | .goto _ => rfl
  | .refuse _ => rfl
end Go.Vm
namespace Go.Vm
/-! Evaluation by simp. -/
attribute [simp] ops.eq_1 ops.eq_2 V.ids.idsL.eq_1 V.ids.idsL.eq_2 V.ren.renL.eq_1 V.ren.renL.eq_2 addIds.eq_1 addIds.eq_2 fill.eq_1 fill.eq_2
attribute [simp] Nat.testBit nilRun okV runF X.opds X.looks wanted opV O.ev V.cells Store.app Store.put putO readAt Store.get mkAgg finish resultOf gc live V.ids V.ren pack frz freezeV freezeCell frozenIds lenV forget elems writeAt asInt bound sliceV srcElems appendV copyV zeroD Obj.ids Obj.ren D.flat V.flat splice small
theorem toList_go (b : ByteArray) : ∀ (n i : Nat) (acc : List UInt8), n = b.size - i → ByteArray.toList.loop b i acc = acc.reverse ++ b.data.toList.drop i := by
  intro n
  induction n with
  | zero =>
    intro i acc h
    rw [ByteArray.toList.loop]
    have : ¬ i < b.size := by omega
    rw [if_neg this, List.drop_eq_nil_of_le (by have : b.data.toList.length = b.size := rfl; omega)]; simp
  | succ n ih =>
    intro i acc h
    rw [ByteArray.toList.loop]
    have hi : i < b.size := by omega
    rw [if_pos hi, ih (i + 1) _ (by omega)]
    have hl : i < b.data.toList.length := hi
    rw [List.drop_eq_getElem_cons hl]
    simp only [List.reverse_cons, List.append_assoc, List.singleton_append]
    congr 2
    simp [ByteArray.get!, getElem!_pos, hi]
theorem bytes_toList (b : ByteArray) : b.toList = b.data.toList := by
  unfold ByteArray.toList; rw [toList_go b _ 0 [] rfl]; simp
theorem beq_toList (a b : ByteArray) : (a.toList == b.toList) = decide (a = b) := by
  rw [bytes_toList, bytes_toList, Bool.eq_iff_iff]
  simp only [beq_iff_eq, decide_eq_true_eq]
  constructor
  · intro h; exact ByteArray.ext (Array.toList_inj.mp h)
  · intro h; rw [h]
@[simp] theorem binD_int_eql (P : Program) (ty : TypeId) (k : IntKind) (a b : Int) : binD P .eql ty (.d (.int k a)) (.d (.int k b)) = some (.d (.bool (decide (a = b)))) := by
  simp [binD, binOp, Op.intCmp, pureRun, ofVal, pure]; rfl
@[simp] theorem binD_int_neq (P : Program) (ty : TypeId) (k : IntKind) (a b : Int) : binD P .neq ty (.d (.int k a)) (.d (.int k b)) = some (.d (.bool (!decide (a = b)))) := by
  simp [binD, binOp, Op.intCmp, pureRun, ofVal, pure]; rfl
@[simp] theorem binD_int_lss (P : Program) (ty : TypeId) (k : IntKind) (a b : Int) : binD P .lss ty (.d (.int k a)) (.d (.int k b)) = some (.d (.bool (decide (a < b)))) := by
  simp [binD, binOp, Op.intCmp, pureRun, ofVal, pure]
@[simp] theorem binD_int_leq (P : Program) (ty : TypeId) (k : IntKind) (a b : Int) : binD P .leq ty (.d (.int k a)) (.d (.int k b)) = some (.d (.bool (decide (a ≤ b)))) := by
  simp [binD, binOp, Op.intCmp, pureRun, ofVal, pure]
@[simp] theorem binD_int_gtr (P : Program) (ty : TypeId) (k : IntKind) (a b : Int) : binD P .gtr ty (.d (.int k a)) (.d (.int k b)) = some (.d (.bool (decide (b < a)))) := by
  simp [binD, binOp, Op.intCmp, pureRun, ofVal, pure]
@[simp] theorem binD_int_geq (P : Program) (ty : TypeId) (k : IntKind) (a b : Int) : binD P .geq ty (.d (.int k a)) (.d (.int k b)) = some (.d (.bool (decide (b ≤ a)))) := by
  simp [binD, binOp, Op.intCmp, pureRun, ofVal, pure]
@[simp] theorem binD_int_add (P : Program) (ty : TypeId) (k : IntKind) (a b : Int) : binD P .add ty (.d (.int k a)) (.d (.int k b)) = some (.d (.int k (k.wrap (a + b)))) := by
  simp [binD, binOp, Op.intArith, pureRun, ofVal, pure]
@[simp] theorem binD_int_sub (P : Program) (ty : TypeId) (k : IntKind) (a b : Int) : binD P .sub ty (.d (.int k a)) (.d (.int k b)) = some (.d (.int k (k.wrap (a - b)))) := by
  simp [binD, binOp, Op.intArith, pureRun, ofVal, pure]
@[simp] theorem binD_int_mul (P : Program) (ty : TypeId) (k : IntKind) (a b : Int) : binD P .mul ty (.d (.int k a)) (.d (.int k b)) = some (.d (.int k (k.wrap (a * b)))) := by
  simp [binD, binOp, Op.intArith, pureRun, ofVal, pure]
@[simp] theorem binD_str_eql (P : Program) (ty : TypeId) (a b : ByteArray) : binD P .eql ty (.d (.str a)) (.d (.str b)) = some (.d (.bool (decide (a = b)))) := by
  simp [binD, binOp, Op.stringOp, pureRun, ofVal, pure, beq_toList]
@[simp] theorem binD_str_neq (P : Program) (ty : TypeId) (a b : ByteArray) : binD P .neq ty (.d (.str a)) (.d (.str b)) = some (.d (.bool (!decide (a = b)))) := by
  simp [binD, binOp, Op.stringOp, pureRun, ofVal, pure, beq_toList]
@[simp] theorem binD_str_lss (P : Program) (ty : TypeId) (a b : ByteArray) : binD P .lss ty (.d (.str a)) (.d (.str b)) = some (.d (.bool (Op.bytesLess a.toList b.toList))) := by
  simp [binD, binOp, Op.stringOp, pureRun, ofVal, pure]
theorem wrap_small {x : Int} (h0 : 0 ≤ x) (h1 : x < 9223372036854775808) : IntKind.i64.wrap x = x := by
  simp [IntKind.wrap, IntKind.bits, IntKind.signed]; omega
theorem run_succ (P : Program) (E : Env) (T : FuncId → Option F) (n : Nat) (f : FuncId) (F : F) (args : List V) (σ : Store) (h : T f = some F) : run P E T (n + 1) f args σ = runF P (run P E T n) (refsOf T) F args σ := by
  rw [run, h]
end Go.Vm
