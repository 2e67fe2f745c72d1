/- Regions that draw their order: the whole. -/
import Derived.Test.YtfkmaoghehhloaaAe14
set_option linter.unusedVariables false
set_option linter.unusedSimpArgs false
namespace Go.Ae
variable {P : Program}
section
variable {call : FuncId → List Value → AH → Option (Value × AH)} {ops : Array Oper} {nt : Nat} {L : List Nat} {F : Nat → Fr} {G : Nat → AH}
variable {μ0 μ : Mu} {w0 w : World} {listed : Array Bool} {a : Act} {p : Nat}

/-- What stands between one that floats and where we are holds what it has seen. -/
theorem Inv.held (tr : Tr P call ops nt L F G) (h : Inv P ops nt L F G μ0 w0 listed a w μ p) {j k : Nat} {o : Oper} (hk : L[k]? = some j) (ho : ops[j]? = some o) (hu : listed.getD j false = false)
    (hkind : loadOp o.op = true ∨ allocOp o.op = true) : ∀ {m : Nat}, k + 1 ≤ m → m ≤ p → Held (G (k + 1)) (G m) := by
  have hlp := h.le
  intro m
  induction m with
  | zero => intro h1; omega
  | succ m ih =>
    intro h1 h2
    by_cases e : k = m
    · subst e; exact Held.refl (tr.wfk (by omega))
    · obtain ⟨x, q, hx, hq, hs⟩ := tr.at (k := m) (by omega)
      have hwf := tr.wfk (k := m) (by omega)
      refine (ih (by omega) (by omega)).trans hwf (hs.held tr.sound hwf ?_)
      cases hf : floatOp q.op with
      | true => exact .inl ⟨rfl, float_tight hf⟩
      | false =>
        refine .inr (loose_of ho hf hkind ?_ ?_)
        · -- not ahead of the one that acts
          cases hb : ahd ops j x with
          | false => rfl
          | true =>
            have := h.ahead hb (h.before m x q (by omega) hx hq hf)
            rw [hu] at this; cases this
        · exact (tr.ord k m j x (by omega) hk hx).2.1

theorem Inv.step' (tr : Tr P call ops nt L F G) (hr0 : Rep P μ0 (G 0).view w0) (h : Inv P ops nt L F G μ0 w0 listed a w μ p) {j : Nat} (hj : j ∈ Region.ready .any ops listed) {Q : Exit → Act → World → Prop} {K : Act → World → Prop}
    (hK : ∀ a' w' μ' p', Inv P ops nt L F G μ0 w0 (listed.setIfInBounds j true) a' w' μ' p' → K a' w') : wpOp P ops Q j K a w := by
  obtain ⟨hu', o, ho, hr⟩ := mem_ready.1 hj
  have hjl : j < ops.size := (Array.getElem?_eq_some_iff.1 ho).1
  have hu : listed.getD j false = false := by
    have : j < listed.size := by rw [h.size]; exact hjl
    simp [this] at hu' ⊢; exact hu'
  obtain ⟨k, hk⟩ := tr.all j hjl
  have hkl := (List.getElem?_eq_some_iff.1 hk).1
  have hlp := h.le
  have look := fun t => h.look tr hk ho hu hr (t := t)
  have hs := tr.step k j o hk ho
  have hd : dstOk nt o = true := hs.dst
  have r1 : ∀ i, ahd ops i j = true → listed.getD i false = true := fun i hi =>
    ahead_listed h.closed j i hi fun o' ho' e he hb => by rw [ho] at ho'; cases ho'; exact hr e (by simpa using he) hb
  -- where it stands
  have hkp : k ≤ p := by
    rcases Nat.lt_or_ge p k with hlt | hge
    · rcases h.next with rfl | ⟨y, q, hy, hq, hf, huy⟩
      · omega
      · rcases (tr.ord p k y j hlt hy hk).2.2 with h1 | h1
        · rw [r1 y h1] at huy; cases huy
        · rw [h1 q hq] at hf; cases hf
    · exact hge
  have hkf : floatOp o.op = true → k < p := fun hf => by
    rcases Nat.lt_or_ge k p with hlt | hge
    · exact hlt
    · have e : k = p := by omega
      subst e
      rcases h.next with e | ⟨y, q, hy, hq, hff, huy⟩
      · omega
      · rw [hk] at hy; cases hy; rw [ho] at hq; cases hq; rw [hf] at hff; cases hff
  have hka : floatOp o.op = false → k = p := fun hf => by
    rcases Nat.lt_or_ge k p with hlt | hge
    · have := h.before k j o hlt hk ho hf
      rw [hu] at this; cases this
    · omega
  have hwant : ∀ b, wantedA ops (F k) o = some b → Region.wanted o (yielded ops a.tmps) = b := fun b hb =>
    wanted_of (fun g w t hg ht => look t (looks_guard hg ht)) hb
  unfold wpOp
  simp only [ho]
  have hfr : ∀ {μ'}, Mu.le μ μ' → FrR μ' ((F k).only (opTs o)) (onlyAct a (opTs o)) := fun hm => only_rel fun t ht => (look t (looks_opTs ht)).mono hm
  generalize hlo : looseAt ops j o = lo at hs
  generalize hF : F (k + 1) = fr' at hs
  generalize hG : G (k + 1) = H' at hs
  cases hs with
  | no hd hw =>
    rw [hwant false hw]
    simp only [Bool.false_eq_true, if_false]
    cases hf : floatOp o.op with
    | true => exact hK _ _ _ _ (h.float tr hk ho (hkf hf) hr hd hF (VR.undef μ) (Mu.le_refl μ) h.rep h.step (fun _ _ => rfl))
    | false =>
      have e := hka hf
      subst e
      obtain ⟨p', hp'⟩ := h.act tr hr0 hk ho hr hd hF (VR.undef μ) (by rw [hG]; exact h.rep) (by rw [hG]; exact Step.refl _ _ _)
      exact hK _ _ _ _ hp'
  | yes hd hw hop =>
    rename_i v
    rw [hwant true hw]
    simp only [if_true]
    have hns := evOper_nosel hop
    have hex : execOp a.eval o = execOp (onlyAct a (opTs o)).eval o := only_exec a o hns
    refine .inl ?_
    cases hf : floatOp o.op with
    | true =>
      have hlt := hkf hf
      have hwfk := tr.wfk (k := k) (by omega)
      rw [float_evOper hf, evOp_congr (only_agree (F k) o)] at hop
      cases hal : allocOp o.op with
      | false =>
        have hgr := tr.grow (k := k) (m := p) (by omega) h.le
        have e1 : H' = G k := by
          rcases float_heap hf hop with ⟨_, e⟩ | ⟨e, _⟩
          · exact e
          · rw [hal] at e; cases e
        subst e1
        obtain ⟨_, hlater⟩ := evOp_later (H2 := G p) hop hf hal (fun b kb hb => by
          obtain ⟨k', q1, q2, q3, q4, q5, _⟩ := hgr.t b kb (hwfk.at hb).1 hb
          exact ⟨k', q1, q4, q5⟩) (fun hl b kb hb => by
          have held := h.held tr hk ho hu (.inl hl) (m := p) (by omega) (Nat.le_refl _)
          rw [hG] at held
          unfold AH.rd at hb ⊢
          split at hb
          · rename_i k1 hk1
            split at hb
            · rename_i g1 hg1
              rw [held.t b k1 hk1]
              simp only
              rw [held.g k1.grp g1 (hwfk.at hk1).2 hg1]
              exact hb
            · cases hb
          · cases hb)
        have hlater' : evOper P call ((F k).only (opTs o)) o (G p) = some (v, G p) := by rw [float_evOper hf]; exact hlater
        refine evOper_wp tr.sound (tr.wfk h.le) h.rep (hfr (Mu.le_refl μ)) hlater' hex fun v' w' μ' h1 h2 h3 => ?_
        refine hK _ _ _ _ (h.float tr hk ho hlt hr hd hF h1 h3.mono h2 (Step.trans hr0 h.step h3) fun b hb => ?_)
        cases hμ : μ b with
        | some e => exact h3.mono b e hμ
        | none =>
          cases hμ' : μ' b with
          | none => rfl
          | some e =>
            obtain ⟨q1, q2, _⟩ := h3.new b e hμ' hμ
            exact absurd q2 (Nat.not_lt.2 q1)
      | true =>
        obtain ⟨cells, cells', t, s, v', e1, e2, e3, e4, e5⟩ := evOp_made (w := w) (hfr (Mu.le_refl μ)) hal hop
        have held := h.held tr hk ho hu (.inr hal) (m := p) (by omega) (Nat.le_refl _)
        rw [hG] at held
        subst e1
        have hkn : (G k).n < (G p).n := by have := held.n; simp only [AH.push] at this; omega
        have t1 : ((G k).push cells t).t.get (G k).n = some { cells, elem := t, grp := (G k).n, w := 0, ro := false } := by simp [AH.push, T.get_set]
        have g1 : ((G k).push cells t).g.get (G k).n = some { tip := (G k).n, w := 0 } := by simp [AH.push, T.get_set]
        have hμ : μ (G k).n = none := h.new k j o (G k).n hlt hk ho hf hu (Nat.le_refl _) (by rw [hG]; simp [AH.push])
        have hrep := rep_place h.rep hkn hμ (held.t _ _ t1) (held.g _ _ (by simp [AH.push]) g1) (fun b' e kb hb hkb hge => by
          by_cases hb' : b' < (G k).n
          · obtain ⟨k0, q1, q2⟩ := hwfk.1 b' hb'
            have q3 : ((G k).push cells t).t.get b' = some k0 := by simp only [AH.push, T.get_set]; rw [if_neg (by omega)]; exact q1
            have q4 : (G p).t.get b' = some k0 := held.t _ _ q3
            have q5 : (G p).t.get b' = some kb := hkb
            rw [q4] at q5; cases q5
            omega
          · by_cases hb2 : b' = (G k).n
            · subst hb2; rw [hμ] at hb; cases hb
            · have := held.new b' kb (by simp only [AH.push]; omega) hkb
              simp only [AH.push] at this
              omega) e2 e3
        have hst := step_place (o := .cells cells'.toArray t) (e := ⟨w.heap.size, 0, cells.length, s, cells.length⟩) h.step (tr.grow (Nat.zero_le k) (by omega)).n hkn hμ rfl
        unfold Oper.wp
        rw [hex, e4]
        show K (a.put o.dst v') _
        refine hK _ _ _ _ (h.float tr hk ho hlt hr hd hF (e5 _ (Mu.le_put _ hμ) (Mu.put_same _ _ _)) (Mu.le_put _ hμ) hrep hst fun b hb => Mu.put_ne _ _ ?_)
        rintro rfl
        rw [hG] at hb
        simp only [AH.push] at hb
        omega
    | false =>
      have e := hka hf
      subst e
      rw [evOper_only] at hop
      refine evOper_wp tr.sound (tr.wfk h.le) h.rep (hfr (Mu.le_refl μ)) hop hex fun v' w' μ' h1 h2 h3 => ?_
      obtain ⟨p', hp'⟩ := h.act tr hr0 hk ho hr hd hF h1 (by rw [hG]; exact h2) (by rw [hG]; exact h3)
      exact hK _ _ _ _ hp'
  | loose hd hw hop hl =>
    rename_i H1 v
    rw [hwant true hw]
    simp only [if_true]
    have hns := evOper_nosel hop
    have hex : execOp a.eval o = execOp (onlyAct a (opTs o)).eval o := only_exec a o hns
    refine .inl ?_
    cases hf : floatOp o.op with
    | true => rw [float_tight hf] at hlo; cases hlo
    | false =>
      have e := hka hf
      subst e
      rw [evOper_only] at hop
      refine evOper_wp (H := { G k with low := (G k).n }) tr.sound ((tr.wfk h.le).low _) h.rep (hfr (Mu.le_refl μ)) hop hex fun v' w' μ' h1 h2 h3 => ?_
      obtain ⟨p', hp'⟩ := h.act tr hr0 hk ho hr hd hF h1 (by rw [hG]; exact h2) (by rw [hG]; exact h3)
      exact hK _ _ _ _ hp'

/-- Nothing is ready: all is listed. -/
theorem Inv.all_listed (tr : Tr P call ops nt L F G) (h : Inv P ops nt L F G μ0 w0 listed a w μ p) (hr : Region.ready .any ops listed = []) : ∀ j, j < ops.size → listed.getD j false = true := by
  intro j
  induction j using Nat.strongRecOn with
  | _ j ih =>
    intro hj
    cases hb : listed.getD j false with
    | true => rfl
    | false =>
      have ho : ops[j]? = some ops[j] := Array.getElem?_eq_getElem hj
      have hjl : j < listed.size := by rw [h.size]; exact hj
      have : j ∈ Region.ready .any ops listed := mem_ready.2 ⟨by simp [hjl] at hb ⊢; exact hb, _, ho, fun e he hbd => by
        have hlt := tr.calm.edge j _ ho e (by simpa using he) hbd
        exact ih e.on hlt (by omega)⟩
      rw [hr] at this
      cases this
theorem Inv.ends (tr : Tr P call ops nt L F G) (h : Inv P ops nt L F G μ0 w0 listed a w μ p) (hl : ∀ j, j < ops.size → listed.getD j false = true) : Ends P μ0 (G 0).view w0 nt (F L.length) (G L.length) a w := by
  have hp : p = L.length := by
    rcases h.next with e | ⟨x, o, hx, ho, _, hu⟩
    · exact e
    · rw [hl x (Array.getElem?_eq_some_iff.1 ho).1] at hu; cases hu
  subst hp
  refine ⟨μ, fun t => ?_, h.tmps, h.defers, h.rep, h.step⟩
  by_cases hex : ∃ (i : Nat) (q : Oper), ops[i]? = some q ∧ q.dst = some t
  · obtain ⟨i, q, hi, hq⟩ := hex
    exact h.done i q t hi hq (hl i (Array.getElem?_eq_some_iff.1 hi).1)
  · rw [tr.slot t (Nat.zero_le L.length) (Nat.le_refl _) fun z x o' h1 h2 hz hx hd => hex ⟨x, o', hx, hd⟩]
    exact h.rest t fun x o' hx hd => absurd ⟨x, o', hx, hd⟩ hex

theorem any_sound (tr : Tr P call ops nt L F G) (hr0 : Rep P μ0 (G 0).view w0) {Q : Exit → Act → World → Prop} (hQ : ∀ a' w', Ends P μ0 (G 0).view w0 nt (F L.length) (G L.length) a' w' → Q .normal a' w') :
    ∀ (fuel : Nat) (listed : Array Bool) (a : Act) (w : World) (μ : Mu) (p : Nat), listed.toList.count false ≤ fuel → Inv P ops nt L F G μ0 w0 listed a w μ p → wpAny P .any ops Q fuel listed a w := by
  have done : ∀ (listed : Array Bool) (a : Act) (w : World) (μ : Mu) (p : Nat), Inv P ops nt L F G μ0 w0 listed a w μ p → Region.ready .any ops listed = [] → Q .normal a w :=
    fun listed a w μ p h hr => hQ a w (h.ends tr (h.all_listed tr hr))
  intro fuel
  induction fuel with
  | zero =>
    intro listed a w μ p hc h
    have hr : Region.ready .any ops listed = [] := by
      cases hq : Region.ready .any ops listed with
      | nil => rfl
      | cons j rest =>
        have hj : j ∈ Region.ready .any ops listed := by rw [hq]; simp
        obtain ⟨hu, o, ho, _⟩ := mem_ready.1 hj
        have hjl : j < listed.size := by rw [h.size]; exact (Array.getElem?_eq_some_iff.1 ho).1
        have : listed.toList[j]? = some false := by simp [hjl] at hu ⊢; exact hu
        have := count_unl _ _ this
        omega
    exact ⟨hr, done _ _ _ _ _ h hr⟩
  | succ fuel ih =>
    intro listed a w μ p hc h
    refine ⟨fun hr => done _ _ _ _ _ h hr, fun j hj => h.step' tr hr0 hj fun a' w' μ' p' h' => ih _ a' w' μ' p' ?_ h'⟩
    obtain ⟨hu, o, ho, _⟩ := mem_ready.1 hj
    have hjl : j < listed.size := by rw [h.size]; exact (Array.getElem?_eq_some_iff.1 ho).1
    have : listed.toList[j]? = some false := by simp [hjl] at hu ⊢; exact hu
    have := count_unl _ _ this
    simp only [Array.toList_setIfInBounds]
    omega
end

/-- A region: whatever order it takes. -/
theorem evRegion_wp {call : FuncId → List Value → AH → Option (Value × AH)} (hc : CallSound P call) (hmix : P.follows .mixedOrders = true) {ops : Array Oper} {draw : Bool} {id nt : Nat} {fr fr' : Fr} {H H' : AH} {μ : Mu} {a : Act} {w : World} {Q : Exit → Act → World → Prop}
    (h : evRegion P call ops draw nt fr H = some (fr', H')) (hwf : WF H) (hr : Rep P μ H.view w) (hf : FrR μ fr a) (hsz : a.tmps.size = nt) (hd : a.defers = [])
    (hQ : ∀ a' w', Ends P μ H.view w nt fr' H' a' w' → Q .normal a' w') : (Code.region id ops draw).wp P Q a w := by
  unfold evRegion at h
  split at h
  · rename_i hdr
    subst hdr
    split at h
    · rename_i l hl
      obtain ⟨L, pl⟩ := plan_of hl
      obtain ⟨F, G, rfl, rfl, rfl, rfl, tr⟩ := evOps_trace l _ _ _ _ h
      have tr' : Tr P call ops nt L F G := ⟨pl.calm, pl.all, pl.ord, fun k x hx => by obtain ⟨o, h1, _⟩ := pl.at' k x hx; exact ⟨o, h1⟩, fun k x o hx ho => by
        obtain ⟨o', h1, h2⟩ := pl.at' k x hx
        rw [ho] at h1; cases h1
        exact tr k _ h2, hc, hwf⟩
      refine wp_region_any hmix ?_
      have hr' : Rep P μ (G 0).view { w with drawn := w.drawn + 1 } := hr.heap rfl
      have hst : Step μ (G 0).view w μ (G 0).view { w with drawn := w.drawn + 1 } := Step.heap rfl rfl rfl rfl
      obtain ⟨p, n1, n2, n3, n4⟩ := tr'.next L.length 0 (by omega)
      have more := tr'.more n1 n2 n3
      have unl : ∀ x, (Array.replicate ops.size false).getD x false = false := fun x => by
        by_cases hx : x < ops.size <;> simp [hx]
      refine any_sound tr' hr (fun a' w' he => hQ a' w' (by rw [pl.len]; exact he)) ops.size _ a _ μ p (by simp) ?_
      refine ⟨by simp, fun j o ho hl => ?_, n2, fun k x o h1 h2 h3 h4 => ?_, ?_, more.rep hr', more.step hr hr' hst, fun x o t hx ho hl => ?_, fun t _ => hf t, fun k x o b h1 h2 h3 h4 h5 h6 h7 => ?_, hsz, hd⟩
      · rw [unl] at hl; cases hl
      · rw [n3 k x o (Nat.zero_le k) h1 h2 h3] at h4; cases h4
      · rcases n4 with e | ⟨x, o, hx, ho, hfo⟩
        · exact .inl e
        · exact .inr ⟨x, o, hx, ho, hfo, unl x⟩
      · rw [unl] at hl; cases hl
      · cases hμ : μ b with
        | none => rfl
        | some e =>
          have := hr.lt hμ
          have h8 : (G 0).n ≤ (G k).n := (tr'.grow (Nat.zero_le k) (by omega)).n
          have h9 : b < (G 0).n := this
          omega
    · cases h
  · rename_i hdr
    have : draw = false := by simpa using hdr
    subst this
    have := evOps_seq (Q := Q) hc ops.toList 0 fr fr' H H' μ a w (by simp) h hwf hr hf hsz hd hQ
    have hlen : List.range' 0 ops.toList.length = List.range ops.size := by rw [List.range_eq_range']; simp
    rw [hlen] at this
    exact wp_region this
end Go.Ae
