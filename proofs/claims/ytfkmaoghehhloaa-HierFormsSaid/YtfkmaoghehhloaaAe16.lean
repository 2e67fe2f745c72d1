/- The evaluator's code, its functions: sound. -/
import Derived.Test.YtfkmaoghehhloaaAe15
set_option linter.unusedVariables false
set_option linter.unusedSimpArgs false
namespace Go.Ae
variable {P : Program}

theorem evOps_grow {call : FuncId → List Value → AH → Option (Value × AH)} (hc : CallSound P call) {ops : Array Oper} {nt : Nat} {l : List (Oper × Bool)} {fr fr' : Fr} {H H' : AH} (h : evOps P call ops nt l fr H = some (fr', H')) : AGrow H H' := by
  obtain ⟨F, G, rfl, rfl, rfl, rfl, tr⟩ := evOps_trace l _ _ _ _ h
  have : ∀ m, m ≤ l.length → AGrow (G 0) (G m) := by
    intro m
    induction m with
    | zero => intro _; exact AGrow.refl _
    | succ m ih => intro hm; exact (ih (by omega)).trans ((tr m _ (List.getElem?_eq_getElem (by omega))).grow hc)
  exact this _ (Nat.le_refl _)
theorem evRegion_grow {call : FuncId → List Value → AH → Option (Value × AH)} (hc : CallSound P call) {ops : Array Oper} {draw : Bool} {nt : Nat} {fr fr' : Fr} {H H' : AH} (h : evRegion P call ops draw nt fr H = some (fr', H')) : AGrow H H' := by
  unfold evRegion at h
  split at h
  · split at h
    · exact evOps_grow hc h
    · cases h
  · exact evOps_grow hc h

def Ex.to : Ex → Exit
  | .normal => .normal
  | .exit i => .exit i
  | .ret => .ret

theorem least (p : Nat → Prop) (h : ∃ n, p n) : ∃ n, p n ∧ ∀ m, p m → n ≤ m := by
  obtain ⟨n, hn⟩ := h
  induction n using Nat.strongRecOn with
  | _ n ih =>
    by_cases hx : ∃ m, m < n ∧ p m
    · obtain ⟨m, hm, hp⟩ := hx
      exact ih m hm hp
    · exact ⟨n, hn, fun m hp => Nat.le_of_not_lt fun hlt => hx ⟨m, hlt, hp⟩⟩
open Classical in
noncomputable def leastOf (p : Nat → Prop) : Nat := if h : ∃ n, p n then Classical.choose (least p h) else 0
theorem leastOf_spec {p : Nat → Prop} (h : ∃ n, p n) : p (leastOf p) ∧ ∀ m, p m → leastOf p ≤ m := by
  unfold leastOf
  rw [dif_pos h]
  exact Classical.choose_spec (least p h)
/-- A loop with something that goes down. -/
theorem wp_loop_down {c : Code} {Q : Exit → Act → World → Prop} (J : Nat → Act → World → Prop) {n : Nat} {a : Act} {w : World} (h0 : J n a w)
    (round : ∀ n a w, J n a w → c.wp P (Exit.then (fun a' w' => ∃ m, m < n ∧ J m a' w') Q) a w) : (Code.loop c).wp P Q a w := by
  refine wp_loop (fun a w => ∃ n, J n a w) (fun a w => leastOf fun n => J n a w) ⟨n, h0⟩ fun a w hI => ?_
  obtain ⟨h1, h2⟩ := leastOf_spec hI
  refine wp_mono (round _ a w h1) fun e a' w' hq => ?_
  cases e with
  | normal =>
    obtain ⟨m, hm, hj⟩ := hq
    exact ⟨⟨m, hj⟩, Nat.lt_of_le_of_lt ((leastOf_spec (p := fun n => J n a' w') ⟨m, hj⟩).2 m hj) hm⟩
  | _ => exact hq

theorem evCode_grow {call : FuncId → List Value → AH → Option (Value × AH)} (hc : CallSound P call) {nt : Nat} : ∀ (k : Nat) (c : Code) (fr fr' : Fr) (H H' : AH) (e : Ex), evCode P call nt k c fr H = some (e, fr', H') → AGrow H H' := by
  intro k
  induction k with
  | zero => intro c fr fr' H H' e h; simp [evCode_zero] at h
  | succ k ih =>
    intro c fr fr' H H' e h
    cases c with
    | skip => simp only [evCode_succ] at h; cases h; exact AGrow.refl _
    | region id ops draw =>
      simp only [evCode_succ] at h
      split at h
      · rename_i hr; cases h; exact evRegion_grow hc hr
      · cases h
    | seq a b =>
      simp only [evCode_succ] at h
      split at h
      · rename_i fr1 H1 h1; exact (ih _ _ _ _ _ _ h1).trans (ih _ _ _ _ _ _ h)
      · exact ih _ _ _ _ _ _ h
    | cond c a b =>
      simp only [evCode_succ] at h
      split at h
      · exact ih _ _ _ _ _ _ h
      · exact ih _ _ _ _ _ _ h
      · cases h
    | block id c =>
      simp only [evCode_succ] at h
      split at h
      · rename_i i fr1 H1 h1
        split at h
        · cases h; exact ih _ _ _ _ _ _ h1
        · cases h; exact ih _ _ _ _ _ _ h1
      · exact ih _ _ _ _ _ _ h
    | loop c =>
      simp only [evCode_succ] at h
      split at h
      · rename_i fr1 H1 h1; exact (ih _ _ _ _ _ _ h1).trans (ih _ _ _ _ _ _ h)
      · exact ih _ _ _ _ _ _ h
    | exit id => simp only [evCode_succ] at h; cases h; exact AGrow.refl _
    | ret => simp only [evCode_succ] at h; cases h; exact AGrow.refl _
    | _ => simp [evCode_succ] at h

theorem evCode_wp {call : FuncId → List Value → AH → Option (Value × AH)} (hc : CallSound P call) (hmix : P.follows .mixedOrders = true) {nt : Nat} : ∀ (k : Nat) (c : Code) (fr fr' : Fr) (H H' : AH) (e : Ex) (μ : Mu) (a : Act) (w : World) (Q : Exit → Act → World → Prop),
    evCode P call nt k c fr H = some (e, fr', H') → WF H → Rep P μ H.view w → FrR μ fr a → a.tmps.size = nt → a.defers = [] → (∀ a' w', Ends P μ H.view w nt fr' H' a' w' → Q e.to a' w') → c.wp P Q a w := by
  intro k
  induction k with
  | zero => intro c fr fr' H H' e μ a w Q h; simp [evCode_zero] at h
  | succ k ih =>
    intro c fr fr' H H' e μ a w Q h hwf hr hf hsz hd hQ
    have self : ∀ {fr1 H1}, fr = fr1 → H = H1 → Ends P μ H.view w nt fr1 H1 a w := fun e1 e2 => by
      subst e1; subst e2; exact ⟨μ, hf, hsz, hd, hr, Step.refl _ _ _⟩
    cases c with
    | skip =>
      simp only [evCode_succ] at h
      cases h
      exact wp_skip (hQ a w (self rfl rfl))
    | region id ops draw =>
      simp only [evCode_succ] at h
      split at h
      · rename_i hrg
        cases h
        exact evRegion_wp hc hmix hrg hwf hr hf hsz hd hQ
      · cases h
    | seq x y =>
      simp only [evCode_succ] at h
      split at h
      · rename_i fr1 H1 h1
        refine wp_seq (ih x fr fr1 H H1 .normal μ a w _ h1 hwf hr hf hsz hd fun a1 w1 ⟨μ1, q1, q2, q3, q4, q5⟩ => ?_)
        refine ih y fr1 fr' H1 H' e μ1 a1 w1 Q h ((evCode_grow hc _ _ _ _ _ _ _ h1).wf hwf) q4 q1 q2 q3 fun a2 w2 ⟨μ2, r1, r2, r3, r4, r5⟩ => ?_
        exact hQ a2 w2 ⟨μ2, r1, r2, r3, r4, Step.trans hr q5 r5⟩
      · rename_i hne
        refine wp_seq (ih x fr fr' H H' e μ a w _ h hwf hr hf hsz hd fun a1 w1 he => ?_)
        cases e with
        | normal => exact absurd h (hne _ _)
        | exit i => exact hQ a1 w1 he
        | ret => exact hQ a1 w1 he
    | cond c x y =>
      simp only [evCode_succ] at h
      split at h
      · rename_i hcv
        exact wp_cond_true (hf.ev hcv).bool (ih x fr fr' H H' e μ a w Q h hwf hr hf hsz hd hQ)
      · rename_i hcv
        exact wp_cond_false (hf.ev hcv).bool (ih y fr fr' H H' e μ a w Q h hwf hr hf hsz hd hQ)
      · cases h
    | block id c =>
      simp only [evCode_succ] at h
      split at h
      · rename_i i fr1 H1 h1
        refine wp_block (ih c fr fr1 H H1 (.exit i) μ a w _ h1 hwf hr hf hsz hd fun a1 w1 he => ?_)
        show (if i = id then Q .normal a1 w1 else Q (.exit i) a1 w1)
        split at h
        · rename_i hi
          cases h
          rw [if_pos hi]
          exact hQ a1 w1 he
        · rename_i hi
          cases h
          rw [if_neg hi]
          exact hQ a1 w1 he
      · rename_i hne
        refine wp_block (ih c fr fr' H H' e μ a w _ h hwf hr hf hsz hd fun a1 w1 he => ?_)
        cases e with
        | exit i => exact absurd h (hne _ _ _)
        | normal => exact hQ a1 w1 he
        | ret => exact hQ a1 w1 he
    | loop c =>
      -- what is still to do
      refine wp_loop_down (n := k + 1) (fun n a1 w1 => n ≤ k + 1 ∧ ∃ fr1 H1 μ1, evCode P call nt n (.loop c) fr1 H1 = some (e, fr', H') ∧ WF H1 ∧ Rep P μ1 H1.view w1 ∧ FrR μ1 fr1 a1 ∧ a1.tmps.size = nt ∧ a1.defers = [] ∧ Step μ H.view w μ1 H1.view w1)
        ⟨Nat.le_refl _, fr, H, μ, h, hwf, hr, hf, hsz, hd, Step.refl _ _ _⟩ ?_
      rintro n a1 w1 ⟨hn, fr1, H1, μ1, h1, g1, g2, g3, g4, g5, g6⟩
      cases n with
      | zero => simp [evCode_zero] at h1
      | succ n =>
        have up : ∀ {e1 fr2 H2}, evCode P call nt n c fr1 H1 = some (e1, fr2, H2) → ∀ {Q1 : Exit → Act → World → Prop}, (∀ a' w', Ends P μ1 H1.view w1 nt fr2 H2 a' w' → Q1 e1.to a' w') → c.wp P Q1 a1 w1 := by
          intro e1 fr2 H2 hev Q1 hq
          have mono : ∀ (n m : Nat), n ≤ m → ∀ (c : Code) (fr : Fr) (H : AH) (r : Ex × Fr × AH), evCode P call nt n c fr H = some r → evCode P call nt m c fr H = some r := by
            intro n
            induction n with
            | zero => intro m _ c fr H r h; simp [evCode_zero] at h
            | succ n ihn =>
              intro m hm c fr H r h
              obtain ⟨m, rfl⟩ : ∃ q, m = q + 1 := ⟨m - 1, by omega⟩
              have up := ihn m (by omega)
              cases c with
              | seq a b =>
                simp only [evCode_succ] at h ⊢
                cases ha : evCode P call nt n a fr H with
                | none => rw [ha] at h; simp at h
                | some r1 =>
                  rw [up _ _ _ _ ha]; rw [ha] at h
                  obtain ⟨e1, fr1, H1⟩ := r1
                  cases e1 with
                  | normal => exact up _ _ _ _ h
                  | _ => exact h
              | cond q a b =>
                simp only [evCode_succ] at h ⊢
                split at h
                · exact up _ _ _ _ h
                · exact up _ _ _ _ h
                · cases h
              | block id b =>
                simp only [evCode_succ] at h ⊢
                cases ha : evCode P call nt n b fr H with
                | none => rw [ha] at h; simp at h
                | some r1 => rw [up _ _ _ _ ha]; rw [ha] at h; exact h
              | loop b =>
                simp only [evCode_succ] at h ⊢
                cases ha : evCode P call nt n b fr H with
                | none => rw [ha] at h; simp at h
                | some r1 =>
                  rw [up _ _ _ _ ha]; rw [ha] at h
                  obtain ⟨e1, fr1, H1⟩ := r1
                  cases e1 with
                  | normal => exact up _ _ _ _ h
                  | _ => exact h
              | _ => exact h
          exact ih c fr1 fr2 H1 H2 e1 μ1 a1 w1 Q1 (mono n k (by omega) _ _ _ _ hev) g1 g2 g3 g4 g5 hq
        simp only [evCode_succ] at h1
        split at h1
        · rename_i fr2 H2 h2
          refine up h2 fun a2 w2 ⟨μ2, r1, r2, r3, r4, r5⟩ => ?_
          exact ⟨n, Nat.lt_succ_self n, by omega, fr2, H2, μ2, h1, (evCode_grow hc _ _ _ _ _ _ _ h2).wf g1, r4, r1, r2, r3, Step.trans hr g6 r5⟩
        · rename_i hne
          refine up h1 fun a2 w2 ⟨μ2, r1, r2, r3, r4, r5⟩ => ?_
          have fin : Ends P μ H.view w nt fr' H' a2 w2 := ⟨μ2, r1, r2, r3, r4, Step.trans hr g6 r5⟩
          cases e with
          | normal => exact absurd h1 (hne _ _)
          | exit i => exact hQ a2 w2 fin
          | ret => exact hQ a2 w2 fin
    | exit id =>
      simp only [evCode_succ] at h
      cases h
      exact wp_exit (hQ a w (self rfl rfl))
    | ret =>
      simp only [evCode_succ] at h
      cases h
      exact wp_ret (hQ a w (self rfl rfl))
    | _ => simp [evCode_succ] at h

/-! ### Functions -/
theorem frArgs_at : ∀ (vs : List Value) (i : Nat) (fr : Fr) (t : Nat), (frArgs i vs fr).at t = if i ≤ t then (match vs[t - i]? with | some v => v | none => fr.at t) else fr.at t := by
  intro vs
  induction vs with
  | nil => intro i fr t; simp [frArgs]
  | cons v vs ih =>
    intro i fr t
    simp only [frArgs]
    rw [ih]
    have hset : Fr.at (T.set fr i v) t = if t = i then v else fr.at t := by
      simp only [Fr.at, T.get_set]
      by_cases h : t = i
      · rw [if_pos h, if_pos h]
      · rw [if_neg h, if_neg h]
    by_cases h1 : i + 1 ≤ t
    · rw [if_pos h1, if_pos (by omega), hset, if_neg (by omega)]
      have : t - i = (t - (i + 1)) + 1 := by omega
      rw [this, List.getElem?_cons_succ]
    · rw [if_neg h1, hset]
      by_cases h2 : i ≤ t
      · have : t = i := by omega
        subst this
        simp
      · rw [if_neg h2, if_neg (by omega)]
theorem frArgs_rel {μ : Mu} {vs vs' : List Value} (h : LR μ vs vs') {nt : Nat} (hn : vs.length ≤ nt) : FrR μ (frArgs 0 vs T.nil) { tmps := vs'.toArray ++ Array.replicate (nt - vs'.toArray.size) undef, defers := [] } := fun t => by
  rw [frArgs_at, if_pos (Nat.zero_le t)]
  simp only [Nat.sub_zero]
  have hl := h.1
  by_cases ht : t < vs.length
  · have e1 : vs[t]? = some vs[t] := List.getElem?_eq_getElem ht
    have e2 : vs'[t]? = some (vs'[t]'(by omega)) := List.getElem?_eq_getElem (by omega)
    rw [e1]
    simp only [Array.getD_eq_getD_getElem?, Array.getElem?_append, List.size_toArray, List.getElem?_toArray]
    rw [if_pos (by omega), e2]
    exact h.2 t _ _ e1 e2
  · have e1 : vs[t]? = none := List.getElem?_eq_none (by omega)
    rw [e1]
    have e3 : (vs'.toArray ++ Array.replicate (nt - vs'.toArray.size) undef).getD t undef = undef := by
      simp only [Array.getD_eq_getD_getElem?, Array.getElem?_append, List.size_toArray]
      rw [if_neg (by omega)]
      by_cases hx : t - vs'.length < nt - vs'.length <;> simp [Array.getElem?_replicate, hx]
    show VR μ (Fr.at T.nil t) _
    rw [e3]
    exact VR.undef μ

theorem evRes_run {μ : Mu} {fr : Fr} {a : Act} {H : AH} {w : World} (hr : Rep P μ H.view w) (hf : FrR μ fr a) {f : ResultVar → Sem Value} (f1 : ∀ t, f (.tmp t) = pure (a.tmps.getD t undef))
    (f2 : ∀ x t, f (.cell x t) = (do loadVar t (← asAddr (a.tmps.getD x undef)))) : ∀ (rs : List ResultVar) (vs : List Value), evRes P fr H rs = some vs →
    ∃ vs', (rs.mapM f).run P w = .ok vs' w ∧ LR μ vs vs' := by
  intro rs
  induction rs with
  | nil => intro vs h; simp only [evRes, Option.some.injEq] at h; subst h; exact ⟨[], by simp, LR.nil μ⟩
  | cons r rs ih =>
    intro vs h
    cases r with
    | tmp t =>
      simp only [evRes] at h
      split at h
      · rename_i vs1 h1
        cases h
        obtain ⟨vs', e1, e2⟩ := ih _ h1
        exact ⟨_ :: vs', by simp only [List.mapM_cons, f1, Sem.run_bind, Sem.run_pure, Result.andThen_ok, e1], LR.cons (hf t) e2⟩
      · cases h
    | cell x t =>
      simp only [evRes] at h
      split at h
      · rename_i v1 vs1 h0 h1
        cases h
        obtain ⟨vs', e1, e2⟩ := ih _ h1
        obtain ⟨v', ad, q1, q2, q3⟩ := evLoad_run hr (hf x) h0
        have ha : asAddr (a.tmps.getD x undef) = pure ad := by rw [q1]; rfl
        exact ⟨v' :: vs', by simp only [List.mapM_cons, f2, Sem.run_bind, ha, Sem.run_pure, Result.andThen_ok, q2, e1], LR.cons q3 e2⟩
      · cases h
theorem evResults_run {μ : Mu} {fr : Fr} {a : Act} {H : AH} {w : World} (hr : Rep P μ H.view w) (hf : FrR μ fr a) {fn : Func} {v : Value} (h : evResults P fn.results fr H = some v) :
    ∃ v', (results fn a.tmps).run P w = .ok v' w ∧ VR μ v v' := by
  unfold evResults at h
  have key : ∀ vs, evRes P fr H fn.results.toList = some vs → ∃ vs', (results fn a.tmps).run P w = .ok (if h : vs'.toArray.size = 1 then vs'.toArray[0] else .tuple vs'.toArray) w ∧ LR μ vs vs' := fun vs hvs => by
    obtain ⟨vs', e1, e2⟩ := evRes_run (f := fun | .tmp t => pure (a.tmps.getD t undef) | .cell x t => do loadVar t (← asAddr (a.tmps.getD x undef))) hr hf (fun _ => rfl) (fun _ _ => rfl) _ _ hvs
    refine ⟨vs', ?_, e2⟩
    have e3 : results fn a.tmps = (do
        let vs ← fn.results.mapM (fun | .tmp t => pure (a.tmps.getD t undef) | .cell x t => do loadVar t (← asAddr (a.tmps.getD x undef)) : ResultVar → Sem Value)
        pure (if h : vs.size = 1 then vs[0] else .tuple vs)) := rfl
    rw [e3, Array.mapM_eq_mapM_toList]
    simp only [Sem.run_bind, Sem.run_map, Result.andThen, Sem.run_pure]
    rw [e1]
  split at h
  · rename_i v0 hvs
    cases h
    obtain ⟨vs', e1, e2⟩ := key _ hvs
    have hl := e2.1
    match vs', hl with
    | [v'], _ =>
      refine ⟨v', by simpa using e1, ?_⟩
      exact e2.2 0 _ _ rfl rfl
  · rename_i vs hne hvs
    cases h
    obtain ⟨vs', e1, e2⟩ := key _ hvs
    refine ⟨.tuple vs'.toArray, ?_, e2.tuple⟩
    rw [e1, dif_neg]
    intro h1
    have hl := e2.1
    simp at h1
    match vs, hvs, hl with
    | [x], hvs, _ => exact hne x rfl
    | [], _, hl => simp at hl; omega
    | _ :: _ :: _, _, hl => simp at hl; omega
  · cases h

theorem evCall_sound (hmix : P.follows .mixedOrders = true) : ∀ k, CallSound P (evCall P k) := by
  intro k
  induction k with
  | zero => intro g args H v H' h; simp [evCall_zero] at h
  | succ k ih =>
    intro g args H v H' h
    simp only [evCall_succ] at h
    split at h
    · rename_i fn hfn
      split at h
      · rename_i c hb
        split at h
        · rename_i hlen
          have fin : ∀ e fr H1, evCode P (evCall P k) fn.ntmps k c (frArgs 0 args T.nil) H = some (e, fr, H1) → (e = .normal ∨ e = .ret) → (match evResults P fn.results fr H1 with | some v => some (v, H1) | none => none) = some (v, H') →
              AGrow H H' ∧ (WF H → ∀ μ w args', Rep P μ H.view w → LR μ args args' → Calls P g args'.toArray w (fun e w' => ∃ v' μ', e = .returned v' ∧ VR μ' v v' ∧ Rep P μ' H'.view w' ∧ Step μ H.view w μ' H'.view w')) := by
            intro e fr H1 hev he hres
            split at hres
            · rename_i v1 hv1
              cases hres
              refine ⟨evCode_grow ih _ _ _ _ _ _ _ hev, fun hwf μ w args' hr hargs => ?_⟩
              have hl := hargs.1
              have hlen : args.length ≤ fn.ntmps := Nat.le_of_ble_eq_true hlen
              refine calls_of_wp hfn hb (evCode_wp ih hmix k c _ fr H H' e μ _ w _ hev hwf hr (frArgs_rel hargs hlen) (by simp; omega) rfl fun a' w' ⟨μ', q1, q2, q3, q4, q5⟩ => ?_)
              obtain ⟨v', r1, r2⟩ := evResults_run q4 q1 hv1
              rcases he with rfl | rfl
              · exact ⟨q3, v', r1, v', μ', rfl, r2, q4, q5⟩
              · exact ⟨q3, v', r1, v', μ', rfl, r2, q4, q5⟩
            · cases hres
          split at h
          · rename_i fr H1 hev; exact fin _ _ _ hev (.inl rfl) h
          · rename_i fr H1 hev; exact fin _ _ _ hev (.inr rfl) h
          · cases h
        · cases h
      · cases h
    · cases h
end Go.Ae
