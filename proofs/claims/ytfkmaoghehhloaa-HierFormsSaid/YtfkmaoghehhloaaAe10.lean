/- The evaluator's regions beside the model's: in the text's order. -/
import Derived.Test.YtfkmaoghehhloaaAe9
set_option linter.unusedVariables false
set_option linter.unusedSimpArgs false
namespace Go.Ae
variable {P : Program}

def CallSound (P : Program) (call : FuncId → List Value → AH → Option (Value × AH)) : Prop :=
  ∀ g args H v H', call g args H = some (v, H') → AGrow H H' ∧ (WF H → ∀ μ w args', Rep P μ H.view w → LR μ args args' →
    Calls P g args'.toArray w (fun e w' => ∃ v' μ', e = .returned v' ∧ VR μ' v v' ∧ Rep P μ' H'.view w' ∧ Step μ H.view w μ' H'.view w'))

theorem Fr.put_at (fr : Fr) (d : Option Tmp) (v : Value) (t : Nat) : (fr.put d v).at t = if d = some t then v else fr.at t := by
  cases d with
  | none => simp [Fr.put]
  | some d =>
    simp only [Fr.put, Fr.at, T.get_set, Option.some.injEq]
    by_cases h : t = d
    · subst h; simp
    · rw [if_neg h, if_neg (Ne.symm h)]
theorem Act.put_at (a : Act) (d : Option Tmp) (v : Value) (t : Nat) (h : ∀ x, d = some x → x < a.tmps.size) : (a.put d v).tmps.getD t undef = if d = some t then v else a.tmps.getD t undef := by
  cases d with
  | none => simp [Act.put]
  | some d =>
    have hd := h d rfl
    simp only [Act.put, Option.some.injEq]
    by_cases e : d = t
    · subst e; simp [hd]
    · rw [if_neg e]; simp [Array.getElem?_setIfInBounds_ne e]
theorem FrR.put {μ : Mu} {fr : Fr} {a : Act} (hf : FrR μ fr a) {d : Option Tmp} {v v' : Value} (hv : VR μ v v') (h : ∀ x, d = some x → x < a.tmps.size) : FrR μ (fr.put d v) (a.put d v') := fun t => by
  rw [Fr.put_at, Act.put_at a d v' t h]
  split
  · exact hv
  · exact hf t
theorem put_size (a : Act) (d : Option Tmp) (v : Value) : (a.put d v).tmps.size = a.tmps.size := by cases d <;> simp [Act.put]
theorem put_defers (a : Act) (d : Option Tmp) (v : Value) : (a.put d v).defers = a.defers := by cases d <;> rfl
theorem dstOk_lt {nt : Nat} {o : Oper} (h : dstOk nt o = true) : ∀ x, o.dst = some x → x < nt := fun x hx => by
  unfold dstOk at h
  rw [hx] at h
  exact Nat.le_of_ble_eq_true h

theorem wanted_of {μ : Mu} {ops : Array Oper} {fr : Fr} {a : Act} {o : Oper} {b : Bool} (hg : ∀ j w t, o.guard = some (j, w) → (ops[j]?).bind (·.dst) = some t → VR μ (fr.at t) (a.tmps.getD t undef)) (h : wantedA ops fr o = some b) :
    Region.wanted o (yielded ops a.tmps) = b := by
  unfold wantedA at h
  unfold Region.wanted
  split at h
  · rename_i hn; rw [hn]; simpa using h
  · rename_i j want hj
    rw [hj]
    simp only
    unfold yielded
    split at h
    · rename_i d hd
      have hv := hg j want d hj hd
      rw [hd]
      simp only [Option.bind_some]
      have key : ∀ t, a.tmps.getD d undef = .bool t → a.tmps[d]? = some (.bool t) := fun t ht => by
        by_cases hlt : d < a.tmps.size
        · simp [hlt] at ht ⊢; exact ht
        · simp [hlt, undef] at ht
      split at h
      · rename_i t ht
        rw [ht] at hv
        rw [key t hv.bool]
        simpa using h
      · rename_i hnb
        have hb : b = false := by simpa using h.symm
        subst hb
        -- no bool stands there
        have : ∀ t, a.tmps[d]? ≠ some (.bool t) := fun t ht => by
          have e1 : a.tmps.getD d undef = .bool t := by
            obtain ⟨h1, h2⟩ := Array.getElem?_eq_some_iff.1 ht
            simp [h1, h2]
          rw [e1] at hv
          generalize hx : fr.at d = x at hv hnb
          cases hv with
          | gr _ hq => exact hnb t rfl
        split
        · rename_i t ht; exact absurd ht (this t)
        · rfl
    · rename_i hd
      have hb : b = false := by simpa using h.symm
      subst hb
      rw [hd]
      rfl

theorem callFunc_run {g : FuncId} {fn : Func} (hg : P.funcs[g]? = some fn) (hb : fn.body.isSome = true) (hn : (fn.name != "runtime.NumGoroutine") = true) (args : Array Value) (w : World) : (callFunc g args).run P w = .ok (.enter g args) w := by
  have h1 : ¬ fn.name = "runtime.NumGoroutine" := by simpa using hn
  have h2 : ¬ fn.body = none := by cases h : fn.body <;> simp_all
  simp [callFunc, hg, h1, h2]

theorem evOper_wp {call : FuncId → List Value → AH → Option (Value × AH)} (hc : CallSound P call) {μ : Mu} {fr : Fr} {a : Act} {H H' : AH} {w : World} {o : Oper} {v : Value} (hwf : WF H) (hr : Rep P μ H.view w) (hf : FrR μ fr a)
    (h : evOper P call fr o H = some (v, H')) {K : Act → World → Prop} {Q : Exit → Act → World → Prop} {a' : Act} (he : execOp a'.eval o = execOp a.eval o)
    (hK : ∀ v' w' μ', VR μ' v v' → Rep P μ' H'.view w' → Step μ H.view w μ' H'.view w' → K (a'.put o.dst v') w') : o.wp P a' w K Q := by
  unfold Oper.wp
  rw [he]
  unfold evOper at h
  split at h
  · rename_i hcall
    split at h
    · rename_i g args hcal
      obtain ⟨_, hs⟩ := hc g args H v H' h
      unfold evCallee at hcal
      split at hcal
      · rename_i f as ts ho
        split at hcal
        · rename_i g' first captured vs hfv hvs
          split at hcal
          · rename_i fn hfn
            split at hcal
            · rename_i hb
              cases hcal
              simp only [Bool.and_eq_true] at hb
              obtain ⟨f', c', e1, e2, e3, e4, e5⟩ := (hf.ev hfv).func_inv
              have r1 := LR.of_arr e2 e4
              have r2 := LR.of_arr e3 e5
              have r3 := hf.evs hvs
              have hrun : (execOp a.eval o).run P w = .ok (.enter g ((f'.toList ++ as.toList.map a.eval ++ c'.toList).toArray)) w := by
                have : (f' ++ as.map a.eval) ++ c' = (f'.toList ++ as.toList.map a.eval ++ c'.toList).toArray := Array.ext' (by simp)
                simp only [execOp, ho, resolve, e1, Deferred.ofValue, Sem.run_bind, Sem.run_pure, Result.andThen, invoke, this]
                exact callFunc_run hfn hb.1 hb.2 _ w
              rw [hrun]
              refine (hs hwf μ w _ hr ((r1.append r3).append r2)).mono ?_
              rintro e w' ⟨v', μ', rfl, h1, h2, h3⟩
              exact hK v' w' μ' h1 h2 h3
            · cases hcal
          · cases hcal
        · cases hcal
      · cases hcal
    · cases h
  · obtain ⟨x, v', w', μ', h1, h2, h3, h4, h5⟩ := evOp_done hr hf h
    rw [h1]
    rcases h2 with rfl | ⟨rfl, rfl⟩
    · exact hK v' w' μ' h3 h4 h5
    · exact hK undef w' μ' h3 h4 h5

theorem evOper_grow {call : FuncId → List Value → AH → Option (Value × AH)} (hc : CallSound P call) {fr : Fr} {H H' : AH} {o : Oper} {v : Value} (h : evOper P call fr o H = some (v, H')) : AGrow H H' := by
  unfold evOper at h
  split at h
  · split at h
    · exact (hc _ _ _ _ _ h).1
    · cases h
  · exact evOp_grow h

/-- What a piece of code comes to. -/
def Ends (P : Program) (μ : Mu) (V : View) (w : World) (nt : Nat) (fr' : Fr) (H' : AH) (a' : Act) (w' : World) : Prop :=
  ∃ μ', FrR μ' fr' a' ∧ a'.tmps.size = nt ∧ a'.defers = [] ∧ Rep P μ' H'.view w' ∧ Step μ V w μ' H'.view w'

/-- In the text's order. -/
theorem evOps_seq {call : FuncId → List Value → AH → Option (Value × AH)} (hc : CallSound P call) {ops : Array Oper} {nt : Nat} {Q : Exit → Act → World → Prop} :
    ∀ (l : List Oper) (i : Nat) (fr fr' : Fr) (H H' : AH) (μ : Mu) (a : Act) (w : World), ops.toList.drop i = l → evOps P call ops nt (l.map fun o => (o, false)) fr H = some (fr', H') →
      WF H → Rep P μ H.view w → FrR μ fr a → a.tmps.size = nt → a.defers = [] → (∀ a' w', Ends P μ H.view w nt fr' H' a' w' → Q .normal a' w') → wpOps P ops Q (List.range' i l.length) a w := by
  intro l
  induction l with
  | nil =>
    intro i fr fr' H H' μ a w hl h hwf hr hf hsz hd hQ
    simp only [List.map_nil, evOps_nil, Option.some.injEq, Prod.mk.injEq] at h
    obtain ⟨rfl, rfl⟩ := h
    exact hQ a w ⟨μ, hf, hsz, hd, hr, Step.refl _ _ _⟩
  | cons o l ih =>
    intro i fr fr' H H' μ a w hl h hwf hr hf hsz hd hQ
    have hi : ops[i]? = some o := by
      rw [← Array.getElem?_toList]
      have : (ops.toList.drop i)[0]? = some o := by rw [hl]; rfl
      simpa using this
    have hl' : ops.toList.drop (i + 1) = l := by
      have : ops.toList.drop (i + 1) = (ops.toList.drop i).drop 1 := by rw [List.drop_drop]
      rw [this, hl]; rfl
    simp only [List.length_cons, List.range'_succ, wpOps, hi]
    simp only [List.map_cons, evOps_cons] at h
    split at h
    · rename_i hdst
      have hdlt : ∀ x, o.dst = some x → x < a.tmps.size := fun x hx => by rw [hsz]; exact dstOk_lt hdst x hx
      split at h
      · rename_i hw
        rw [wanted_of (μ := μ) (fun j w t _ _ => hf t) hw]
        simp only [if_true]
        split at h
        · rename_i v H1 hop
          refine .inl ?_
          refine evOper_wp hc hwf hr hf hop (a' := a) rfl fun v' w' μ' h1 h2 h3 => ?_
          exact ih (i + 1) _ fr' H1 H' μ' _ w' hl' h ((evOper_grow hc hop).wf hwf) h2 ((hf.mono h3.mono).put h1 hdlt) (by rw [put_size]; exact hsz) (by rw [put_defers]; exact hd) fun a' w'' ⟨μ2, q1, q2, q3, q4, q5⟩ => hQ a' w'' ⟨μ2, q1, q2, q3, q4, Step.trans hr h3 q5⟩
        · cases h
      · rename_i hw
        rw [wanted_of (μ := μ) (fun j w t _ _ => hf t) hw]
        simp only [Bool.false_eq_true, if_false]
        exact ih (i + 1) _ fr' H H' μ _ w hl' h hwf hr (hf.put (VR.undef μ) hdlt) (by rw [put_size]; exact hsz) (by rw [put_defers]; exact hd) hQ
      · cases h
    · cases h
end Go.Ae
