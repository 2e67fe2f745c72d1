/- Regions that draw their order: the steps of the plan. -/
import Derived.Test.YtfkmaoghehhloaaAe12
set_option linter.unusedVariables false
set_option linter.unusedSimpArgs false
namespace Go.Ae
variable {P : Program}

/-- More blocks than anyone knows of. -/
theorem Rep.grown {μ : Mu} {V V' : View} {w : World} (hr : Rep P μ V w) (hn : V.n ≤ V'.n) (ht : ∀ b, b < V.n → V'.t b = V.t b) (hg : ∀ i, i < V.n → V'.g i = V.g i) : Rep P μ V' w := by
  have tt : ∀ {b e k}, μ b = some e → V'.t b = some k → V.t b = some k := fun hb hk => by rw [ht _ (hr.lt hb)] at hk; exact hk
  have gg : ∀ {b e k g}, μ b = some e → V.t b = some k → V'.g k.grp = some g → V.g k.grp = some g := fun hb hk hg' => by
    obtain ⟨k1, _, _, h1, _, h3, _⟩ := hr.blk _ _ hb
    rw [hk] at h1; cases h1
    rw [hg _ h3] at hg'; exact hg'
  refine ⟨fun b e hb => ?_, fun b e k g hb hk hgk hw j v hv => ?_, fun b e k g hb hk hgk => ?_, fun b1 b2 e1 e2 k1 k2 h1 h2 hk1 hk2 hc => ?_, fun b e et k g hb hk hro hgk hw htip hc => ?_⟩
  · obtain ⟨k, arr, fz, h1, h2, h3, h4⟩ := hr.blk b e hb
    exact ⟨k, arr, fz, by rw [ht b h2]; exact h1, Nat.lt_of_lt_of_le h2 hn, Nat.lt_of_lt_of_le h3 hn, h4⟩
  · exact hr.cells b e k g hb (tt hb hk) (gg hb (tt hb hk) hgk) hw j v hv
  · exact hr.wle b e k g hb (tt hb hk) (gg hb (tt hb hk) hgk)
  · exact hr.grp b1 b2 e1 e2 k1 k2 h1 h2 (tt h1 hk1) (tt h2 hk2) hc
  · exact hr.tip b e et k g hb (tt hb hk) hro (gg hb (tt hb hk) hgk) hw htip hc
theorem Step.grown {μ μ' : Mu} {V V' V'' : View} {w w' : World} (hr0 : Rep P μ V w) (h : Step μ V w μ' V' w') (hr : Rep P μ' V' w') (hn : V'.n ≤ V''.n) (ht : ∀ b, b < V'.n → V''.t b = V'.t b) : Step μ V w μ' V'' w' :=
  ⟨h.os, h.tape, h.output, h.size, h.keep, h.mono, fun b e hb hm => by
    obtain ⟨h1, h2, h3⟩ := h.new b e hb hm
    exact ⟨h1, Nat.lt_of_lt_of_le h2 hn, h3⟩, Nat.le_trans h.n hn, fun b e k hb hk => by
    obtain ⟨k', h1, h2⟩ := h.ro b e k hb hk
    exact ⟨k', by rw [ht b (hr.lt (h.mono b e hb))]; exact h1, h2⟩⟩

/-- A block that the heap has already comes to lie in the world. -/
theorem rep_place {μ : Mu} {V : View} {w : World} {cells cells' : List Value} {t : TypeId} {s b : Nat} (hr : Rep P μ V w) (hb : b < V.n) (hμ : μ b = none)
    (ht : V.t b = some { cells, elem := t, grp := b, w := 0, ro := false }) (hg : V.g b = some { tip := b, w := 0 }) (ho : ∀ b' e k, μ b' = some e → V.t b' = some k → k.grp ≠ b)
    (hc : LR μ cells cells') (hs : szOf P t = some s) :
    Rep P (μ.put b ⟨w.heap.size, 0, cells.length, s, cells.length⟩) V { w with heap := w.heap.push (.cells cells'.toArray t) } := by
  have hm := Mu.le_put (μ := μ) (n := b) ⟨w.heap.size, 0, cells.length, s, cells.length⟩ hμ
  have hl := hc.1
  generalize hw' : ({ w with heap := w.heap.push (.cells cells'.toArray t) } : World) = w'
  have hhe : w'.heap = w.heap.push (.cells cells'.toArray t) := by rw [← hw']
  have hold : ∀ c, c < w.heap.size → w'.heap[c]? = w.heap[c]? := fun c hc => by rw [hhe, Array.getElem?_push, if_neg (by omega)]
  have hnew : w'.heap[w.heap.size]? = some (.cells cells'.toArray t (0, 0)) := by rw [hhe, Array.getElem?_push, if_pos rfl]
  have split : ∀ x e, μ.put b ⟨w.heap.size, 0, cells.length, s, cells.length⟩ x = some e → (x = b ∧ e = ⟨w.heap.size, 0, cells.length, s, cells.length⟩) ∨ (x ≠ b ∧ μ x = some e) := by
    intro x e h
    by_cases hx : x = b
    · subst hx; rw [Mu.put_same] at h; cases h; exact .inl ⟨rfl, rfl⟩
    · rw [Mu.put_ne _ _ hx] at h; exact .inr ⟨hx, h⟩
  refine ⟨fun x e hx => ?_, fun x e k g hx hk hgk hwk j v hv => ?_, fun x e k g hx hk hgk => ?_, fun b1 b2 e1 e2 k1 k2 h1 h2 hk1 hk2 hc => ?_, fun x e et k g hx hk hro hgk hwk htip hc => ?_⟩
  · rcases split x e hx with ⟨rfl, rfl⟩ | ⟨hne, hx⟩
    · exact ⟨_, _, _, ht, hb, hb, hnew, by simp [hl], rfl, by simp, hs, fun _ o _ => by simp [fzIn]⟩
    · obtain ⟨k, arr, fz, h1, h2, h3, h4, h5⟩ := hr.blk x e hx
      exact ⟨k, arr, fz, h1, h2, h3, by rw [hold _ (hr.clt hx)]; exact h4, h5⟩
  · rcases split x e hx with ⟨rfl, rfl⟩ | ⟨hne, hx⟩
    · rw [ht] at hk; cases hk
      obtain ⟨v', hv', hvr⟩ := hc.get hv
      exact ⟨v', by rw [cell_of hnew, Nat.zero_add]; simpa using hv', hvr.mono hm⟩
    · obtain ⟨v', hv', hvr⟩ := hr.cells x e k g hx hk hgk hwk j v hv
      exact ⟨v', by rw [cell_heap (hold _ (hr.clt hx))]; exact hv', hvr.mono hm⟩
  · rcases split x e hx with ⟨rfl, rfl⟩ | ⟨hne, hx⟩
    · rw [ht] at hk; cases hk; exact Nat.zero_le _
    · exact hr.wle x e k g hx hk hgk
  · rcases split b1 e1 h1 with ⟨q1, r1⟩ | ⟨hne1, j1⟩ <;> rcases split b2 e2 h2 with ⟨q2, r2⟩ | ⟨hne2, j2⟩
    · rw [q1] at hk1; rw [q2, hk1] at hk2; cases hk2; exact ⟨rfl, fun _ => rfl⟩
    · have := hr.clt j2; rw [r1] at hc; simp only at hc; omega
    · have := hr.clt j1; rw [r2] at hc; simp only at hc; omega
    · exact hr.grp b1 b2 e1 e2 k1 k2 j1 j2 hk1 hk2 hc
  · rcases split x e hx with ⟨rfl, rfl⟩ | ⟨hne, hx⟩
    · rw [ht] at hk; cases hk; rw [hg] at hgk; cases hgk
      rw [Mu.put_same] at htip; cases htip; exact Nat.le_refl _
    · rcases split _ et htip with ⟨htn, rfl⟩ | ⟨_, ht2⟩
      · have := hr.clt hx; simp only at hc; omega
      · exact hr.tip x e et k g hx hk hro hgk hwk ht2 hc
theorem step_place {μ0 μ : Mu} {V0 V : View} {w0 w : World} {b : Nat} {e : Ent} {o : Obj} (h : Step μ0 V0 w0 μ V w) (h0 : V0.n ≤ b) (hb : b < V.n) (hμ : μ b = none) (he : e.c = w.heap.size) :
    Step μ0 V0 w0 (μ.put b e) V { w with heap := w.heap.push o } where
  os := h.os
  tape := h.tape
  output := h.output
  size := by have := h.size; simp; omega
  keep := fun c hc hro => by
    have := h.size
    simp only [Array.getElem?_push]
    rw [if_neg (by omega)]
    exact h.keep c hc hro
  mono := Mu.le_trans h.mono (Mu.le_put e hμ)
  new := fun x ex hx hn => by
    by_cases hxb : x = b
    · subst hxb
      rw [Mu.put_same] at hx; cases hx
      exact ⟨h0, hb, .inl (by have := h.size; omega)⟩
    · rw [Mu.put_ne _ _ hxb] at hx
      exact h.new x ex hx hn
  n := h.n
  ro := h.ro

/-- One step of a plan. -/
inductive OpStep (P : Program) (call : FuncId → List Value → AH → Option (Value × AH)) (ops : Array Oper) (nt : Nat) : Oper × Bool → Fr → AH → Fr → AH → Prop
  | no {o : Oper} {lo : Bool} {fr : Fr} {H : AH} (hd : dstOk nt o = true) (hw : wantedA ops fr o = some false) : OpStep P call ops nt (o, lo) fr H (fr.put o.dst undef) H
  | yes {o : Oper} {fr : Fr} {H H' : AH} {v : Value} (hd : dstOk nt o = true) (hw : wantedA ops fr o = some true) (h : evOper P call fr o H = some (v, H')) : OpStep P call ops nt (o, false) fr H (fr.put o.dst v) H'
  | loose {o : Oper} {fr : Fr} {H H' : AH} {v : Value} (hd : dstOk nt o = true) (hw : wantedA ops fr o = some true) (h : evOper P call fr o { H with low := H.n } = some (v, H')) (hl : H.n ≤ H'.low) :
      OpStep P call ops nt (o, true) fr H (fr.put o.dst v) { H' with low := Nat.min H.low H'.low }
theorem OpStep.put {call : FuncId → List Value → AH → Option (Value × AH)} {ops : Array Oper} {nt : Nat} {x : Oper × Bool} {fr fr' : Fr} {H H' : AH} (h : OpStep P call ops nt x fr H fr' H') : ∃ v, fr' = fr.put x.1.dst v := by
  cases h <;> exact ⟨_, rfl⟩
theorem OpStep.dst {call : FuncId → List Value → AH → Option (Value × AH)} {ops : Array Oper} {nt : Nat} {x : Oper × Bool} {fr fr' : Fr} {H H' : AH} (h : OpStep P call ops nt x fr H fr' H') : dstOk nt x.1 = true := by
  cases h <;> assumption

theorem evOps_trace {call : FuncId → List Value → AH → Option (Value × AH)} {ops : Array Oper} {nt : Nat} : ∀ (l : List (Oper × Bool)) (fr fr' : Fr) (H H' : AH), evOps P call ops nt l fr H = some (fr', H') →
    ∃ (F : Nat → Fr) (G : Nat → AH), F 0 = fr ∧ G 0 = H ∧ F l.length = fr' ∧ G l.length = H' ∧ ∀ k x, l[k]? = some x → OpStep P call ops nt x (F k) (G k) (F (k + 1)) (G (k + 1)) := by
  intro l
  induction l with
  | nil =>
    intro fr fr' H H' h
    simp only [evOps_nil, Option.some.injEq, Prod.mk.injEq] at h
    exact ⟨fun _ => fr, fun _ => H, rfl, rfl, h.1, h.2, fun k x hx => by simp at hx⟩
  | cons y l ih =>
    intro fr fr' H H' h
    obtain ⟨o, lo⟩ := y
    have key : ∀ fr1 H1, OpStep P call ops nt (o, lo) fr H fr1 H1 → evOps P call ops nt l fr1 H1 = some (fr', H') →
        ∃ (F : Nat → Fr) (G : Nat → AH), F 0 = fr ∧ G 0 = H ∧ F ((o, lo) :: l).length = fr' ∧ G ((o, lo) :: l).length = H' ∧ ∀ k x, ((o, lo) :: l)[k]? = some x → OpStep P call ops nt x (F k) (G k) (F (k + 1)) (G (k + 1)) := by
      intro fr1 H1 hs h1
      obtain ⟨F, G, a1, a2, a3, a4, a5⟩ := ih _ _ _ _ h1
      refine ⟨fun k => match k with | 0 => fr | k + 1 => F k, fun k => match k with | 0 => H | k + 1 => G k, rfl, rfl, a3, a4, fun k x hx => ?_⟩
      cases k with
      | zero => simp at hx; subst hx; simp only [a1, a2]; exact hs
      | succ k => exact a5 k x (by simpa using hx)
    simp only [evOps_cons] at h
    split at h
    · rename_i hdst
      split at h
      · rename_i hw
        split at h
        · split at h
          · rename_i v H1 hop
            split at h
            · rename_i hl
              exact key _ _ (.loose hdst hw hop hl) h
            · cases h
          · cases h
        · split at h
          · rename_i v H1 hop
            exact key _ _ (.yes hdst hw hop) h
          · cases h
      · rename_i hw
        exact key _ _ (.no hdst hw) h
      · cases h
    · cases h

theorem WF.low {H : AH} (h : WF H) (l : Nat) : WF { H with low := l } := h
theorem OpStep.grow {call : FuncId → List Value → AH → Option (Value × AH)} (hc : CallSound P call) {ops : Array Oper} {nt : Nat} {x : Oper × Bool} {fr fr' : Fr} {H H' : AH} (h : OpStep P call ops nt x fr H fr' H') : AGrow H H' := by
  cases h with
  | no => exact AGrow.refl _
  | yes hd hw h => exact evOper_grow hc h
  | loose hd hw h hl =>
    have g := evOper_grow hc h
    rename_i o H1 v
    refine ⟨g.n, Nat.min_le_left _ _, fun b k hb hk => ?_, fun i gi hi hgi => ?_, fun q => (g.wf q), fun q b k h1 h2 h3 h4 => ?_⟩
    · obtain ⟨k', a1, a2, a3, a4, a5, a6⟩ := g.t b k hb hk
      exact ⟨k', a1, a2, a3, a4, a5, fun hlt => a6 (Nat.lt_of_lt_of_le hlt (Nat.min_le_right _ _))⟩
    · obtain ⟨g', a1, a2⟩ := g.g i gi hi hgi
      exact ⟨g', a1, fun hlt => a2 (Nat.lt_of_lt_of_le hlt (Nat.min_le_right _ _))⟩
    · exact Nat.le_trans (Nat.min_le_right _ _) (g.new q b k h1 h2 h3 h4)

/-- What there was is as it was. -/
structure Held (H H' : AH) : Prop where
  n : H.n ≤ H'.n
  t : ∀ b k, H.t.get b = some k → H'.t.get b = some k
  g : ∀ i x, i < H.n → H.g.get i = some x → H'.g.get i = some x
  new : ∀ b k, H.n ≤ b → H'.t.get b = some k → H.n ≤ k.grp
theorem Held.refl {H : AH} (h : WF H) : Held H H := ⟨Nat.le_refl _, fun _ _ h => h, fun _ _ _ h => h, fun b k h1 h2 => absurd (h.at h2).1 (Nat.not_lt.2 h1)⟩
theorem Held.trans {a b c : AH} (hwf : WF b) (h : Held a b) (k : Held b c) : Held a c :=
  ⟨Nat.le_trans h.n k.n, fun x kx hx => k.t x kx (h.t x kx hx), fun i x hi hx => k.g i x (Nat.lt_of_lt_of_le hi h.n) (h.g i x hi hx), fun x kx h1 h2 => by
    cases hb : b.t.get x with
    | some k0 =>
      have := k.t x k0 hb
      rw [h2] at this; cases this
      exact h.new x kx h1 hb
    | none =>
      by_cases hx : b.n ≤ x
      · exact Nat.le_trans h.n (k.new x kx hx h2)
      · obtain ⟨k0, h3, _⟩ := hwf.1 x (Nat.lt_of_not_le hx)
        rw [hb] at h3; cases h3⟩
theorem Held.push {H : AH} (h : WF H) (cells : List Value) (t : TypeId) : Held H (H.push cells t) :=
  ⟨by simp [AH.push], fun b k hb => by have := (h.at hb).1; simp only [AH.push, T.get_set]; rw [if_neg (by omega)]; exact hb,
    fun i x hi hx => by simp only [AH.push, T.get_set]; rw [if_neg (by omega)]; exact hx,
    fun b k h1 h2 => by
      simp only [AH.push, T.get_set] at h2
      by_cases hb : b = H.n
      · rw [if_pos hb] at h2; cases h2; exact Nat.le_refl _
      · rw [if_neg hb] at h2; exact absurd (h.at h2).1 (Nat.not_lt.2 h1)⟩
/-- Blocks alone, and below them all is as it was. -/
structure More (H H' : AH) : Prop where
  n : H.n ≤ H'.n
  t : ∀ b, b < H.n → H'.t.get b = H.t.get b
  g : ∀ i, i < H.n → H'.g.get i = H.g.get i
theorem More.refl (H : AH) : More H H := ⟨Nat.le_refl _, fun _ _ => rfl, fun _ _ => rfl⟩
theorem More.trans {a b c : AH} (h : More a b) (k : More b c) : More a c :=
  ⟨Nat.le_trans h.n k.n, fun x hx => (k.t x (Nat.lt_of_lt_of_le hx h.n)).trans (h.t x hx), fun x hx => (k.g x (Nat.lt_of_lt_of_le hx h.n)).trans (h.g x hx)⟩
theorem More.push (H : AH) (cells : List Value) (t : TypeId) : More H (H.push cells t) :=
  ⟨by simp [AH.push], fun b hb => by simp only [AH.push, T.get_set]; rw [if_neg (by omega)], fun b hb => by simp only [AH.push, T.get_set]; rw [if_neg (by omega)]⟩
theorem More.rep {H H' : AH} (h : More H H') {μ : Mu} {w : World} (hr : Rep P μ H.view w) : Rep P μ H'.view w := hr.grown h.n h.t h.g
theorem More.step {H H' : AH} (h : More H H') {μ μ' : Mu} {V : View} {w w' : World} (hr0 : Rep P μ V w) (hr : Rep P μ' H.view w') (hs : Step μ V w μ' H.view w') : Step μ V w μ' H'.view w' := hs.grown hr0 hr h.n h.t

theorem float_call {op : Op} (h : floatOp op = true) : isCall op = false := by
  cases op with
  | call c =>
    obtain ⟨callee, args, ts⟩ := c
    cases callee with
    | value f => simp [floatOp] at h
    | _ => rfl
  | _ => rfl
theorem float_evOper {call : FuncId → List Value → AH → Option (Value × AH)} {fr : Fr} {o : Oper} {H : AH} (h : floatOp o.op = true) : evOper P call fr o H = evOp P fr o H := by
  unfold evOper
  rw [float_call h]
theorem alloc_heap {fr : Fr} {o : Oper} {H H' : AH} {v : Value} (hal : allocOp o.op = true) (h : evOp P fr o H = some (v, H')) : ∃ cells t, H' = H.push cells t := by
  obtain ⟨dst, op, type, pos, after, guard⟩ := o
  cases op with
  | alloc t =>
    simp only [evOp, evAlloc] at h
    split at h
    · split at h
      · cases h; exact ⟨_, _, rfl⟩
      · cases h
    · cases h
  | box t x =>
    simp only [evOp] at h
    split at h
    · unfold evBox at h
      split at h
      · split at h
        · cases h; exact ⟨_, _, rfl⟩
        · cases h
      · cases h
    · cases h
  | buildSlice t len parts =>
    simp only [evOp] at h
    split at h
    · unfold evBuildSlice at h
      split at h
      · split at h
        · split at h
          · split at h
            · split at h
              · cases h; exact ⟨_, _, rfl⟩
              · cases h
            · cases h
          · cases h
        · cases h
      · cases h
    · cases h
  | makeSlice t l c =>
    simp only [evOp] at h
    split at h
    · unfold evMakeSlice at h
      split at h
      · split at h
        · split at h
          · cases h; exact ⟨_, _, rfl⟩
          · cases h
        · cases h
      · cases h
    · cases h
  | _ => simp [allocOp] at hal
theorem float_heap {fr : Fr} {o : Oper} {H H' : AH} {v : Value} (hf : floatOp o.op = true) (h : evOp P fr o H = some (v, H')) : (allocOp o.op = false ∧ H' = H) ∨ (allocOp o.op = true ∧ ∃ cells t, H' = H.push cells t) := by
  cases hal : allocOp o.op with
  | true => exact .inr ⟨rfl, alloc_heap hal h⟩
  | false => exact .inl ⟨rfl, (evOp_later h hf hal (fun b k hb => ⟨k, hb, rfl, rfl⟩) (fun _ b k hb => hb)).1⟩
theorem OpStep.more {call : FuncId → List Value → AH → Option (Value × AH)} {ops : Array Oper} {nt : Nat} {o : Oper} {fr fr' : Fr} {H H' : AH} (hf : floatOp o.op = true) (h : OpStep P call ops nt (o, false) fr H fr' H') : More H H' := by
  cases h with
  | no => exact More.refl _
  | yes hd hw h =>
    rw [float_evOper hf] at h
    rcases float_heap hf h with ⟨_, rfl⟩ | ⟨_, cells, t, rfl⟩
    · exact More.refl _
    · exact More.push _ _ _
theorem OpStep.held {call : FuncId → List Value → AH → Option (Value × AH)} (hc : CallSound P call) {ops : Array Oper} {nt : Nat} {o : Oper} {lo : Bool} {fr fr' : Fr} {H H' : AH} (hwf : WF H)
    (hf : (floatOp o.op = true ∧ lo = false) ∨ lo = true) (h : OpStep P call ops nt (o, lo) fr H fr' H') : Held H H' := by
  cases h with
  | no => exact Held.refl hwf
  | yes hd hw h =>
    rcases hf with ⟨hf, _⟩ | hf
    · rw [float_evOper hf] at h
      rcases float_heap hf h with ⟨_, rfl⟩ | ⟨_, cells, t, rfl⟩
      · exact Held.refl hwf
      · exact Held.push hwf _ _
    · cases hf
  | loose hd hw h hl =>
    have g := evOper_grow hc h
    rename_i H1 v
    refine ⟨g.n, fun b k hb => ?_, fun i x hi hx => ?_, fun b k h1 h2 => ?_⟩
    · obtain ⟨hb1, hb2⟩ := hwf.at hb
      obtain ⟨k', a1, _, _, _, _, a6⟩ := g.t b k hb1 hb
      rw [a6 (Nat.lt_of_lt_of_le hb2 hl)] at a1
      exact a1
    · obtain ⟨g', a1, a2⟩ := g.g i x hi hx
      rw [a2 (Nat.lt_of_lt_of_le hi hl)] at a1
      exact a1
    · have hwf1 : WF H1 := g.wf hwf
      by_cases hlt : k.grp < H.n
      · have := g.new hwf b k h1 (hwf1.at h2).1 h2 hlt
        exact absurd hlt (Nat.not_lt.2 (Nat.le_trans hl this))
      · exact Nat.le_of_not_lt hlt

/-! ### Slots that matter -/
noncomputable def Fr.only (fr : Fr) (ts : List Nat) : Fr := ts.foldr (fun t m => T.set m t (fr.at t)) T.nil
theorem Fr.only_at (fr : Fr) (t : Nat) : ∀ ts : List Nat, (fr.only ts).at t = if t ∈ ts then fr.at t else undef := by
  intro ts
  induction ts with
  | nil => rfl
  | cons x ts ih =>
    have : (fr.only (x :: ts)).at t = if t = x then fr.at x else (fr.only ts).at t := by
      simp only [Fr.only, List.foldr_cons, Fr.at, T.get_set]
      by_cases h : t = x
      · rw [if_pos h, if_pos h]
      · rw [if_neg h, if_neg h]
    rw [this, ih]
    by_cases h : t = x
    · subst h; simp
    · simp [h]
def onlyAct (a : Act) (ts : List Nat) : Act := { a with tmps := a.tmps.mapIdx fun i v => if i ∈ ts then v else undef }
theorem only_tmp (a : Act) (ts : List Nat) (t : Nat) : (onlyAct a ts).tmps.getD t undef = if t ∈ ts then a.tmps.getD t undef else undef := by
  simp only [onlyAct, Array.getD_eq_getD_getElem?, Array.getElem?_mapIdx]
  cases h : a.tmps[t]? with
  | none => simp
  | some v => simp
def opTs (o : Oper) : List Nat := o.op.operands.toList.filterMap fun | .tmp t => some t | _ => none
theorem mem_opTs {o : Oper} {t : Nat} : t ∈ opTs o ↔ Operand.tmp t ∈ o.op.operands.toList := by
  unfold opTs
  rw [List.mem_filterMap]
  constructor
  · rintro ⟨x, hx, h⟩
    split at h
    · cases h; exact hx
    · cases h
  · exact fun h => ⟨_, h, rfl⟩
theorem looks_opTs {ops : Array Oper} {o : Oper} {t : Nat} (h : t ∈ opTs o) : looks ops o t = true := by
  unfold looks
  rw [Bool.or_eq_true]
  exact .inl (List.any_eq_true.2 ⟨_, mem_opTs.1 h, by simp [isTmp]⟩)
theorem only_rel {μ : Mu} {fr : Fr} {a : Act} {ts : List Nat} (h : ∀ t ∈ ts, VR μ (fr.at t) (a.tmps.getD t undef)) : FrR μ (fr.only ts) (onlyAct a ts) := fun t => by
  rw [Fr.only_at, only_tmp]
  split
  · exact h t ‹_›
  · exact VR.undef μ
theorem only_agree (fr : Fr) (o : Oper) : AgreeOn fr (fr.only (opTs o)) o.op.operands.toList := fun t ht => by
  rw [Fr.only_at, if_pos (mem_opTs.2 ht)]
theorem only_exec (a : Act) (o : Oper) (hs : ∀ cs b, o.op ≠ .select cs b) : execOp a.eval o = execOp (onlyAct a (opTs o)).eval o :=
  execOp_congr o hs fun x hx => by
    cases x with
    | tmp t => simp only [Act.eval]; rw [only_tmp, if_pos (mem_opTs.2 (by simpa using hx))]
    | _ => rfl
theorem evOper_only {call : FuncId → List Value → AH → Option (Value × AH)} {fr : Fr} {o : Oper} {H : AH} : evOper P call fr o H = evOper P call (fr.only (opTs o)) o H := by
  unfold evOper
  rw [evCallee_congr (only_agree fr o), evOp_congr (only_agree fr o)]
theorem evOper_nosel {call : FuncId → List Value → AH → Option (Value × AH)} {fr : Fr} {o : Oper} {H : AH} {r : Value × AH} (h : evOper P call fr o H = some r) : ∀ cs b, o.op ≠ .select cs b := fun cs b e => by
  unfold evOper at h
  rw [e] at h
  simp [isCall, evOp, e] at h
end Go.Ae
