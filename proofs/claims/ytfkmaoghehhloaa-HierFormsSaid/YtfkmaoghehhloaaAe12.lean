/- Operations that may be done later than the evaluator does them. -/
import Derived.Test.YtfkmaoghehhloaaAe11
set_option linter.unusedVariables false
set_option linter.unusedSimpArgs false
namespace Go.Ae
variable {P : Program}

/-! ### What is new -/
theorem evOp_made {μ : Mu} {fr : Fr} {a : Act} {H H' : AH} {w : World} {o : Oper} {v : Value} (hf : FrR μ fr a) (hal : allocOp o.op = true) (h : evOp P fr o H = some (v, H')) :
    Made P μ w v H H' ((execOp a.eval o).run P w) := by
  obtain ⟨dst, op, type, pos, after, guard⟩ := o
  cases op with
  | alloc t => simp only [evOp] at h; exact evAlloc_made h rfl
  | box t x =>
    simp only [evOp] at h
    split at h
    · rename_i xv hx
      have := evBox_made (P := P) (w := w) (hf.ev hx) h
      rwa [show execOp a.eval ⟨dst, .box t x, type, pos, after, guard⟩ = (do pure (Next.value (← Instr.box t (a.eval x))) : Sem Next) by simp [execOp]]
    · cases h
  | buildSlice t len parts =>
    simp only [evOp] at h
    split at h
    · rename_i l hl
      rw [show execOp a.eval ⟨dst, .buildSlice t len parts, type, pos, after, guard⟩ = (do pure (Next.value (← Instr.buildSlice t len (parts.map fun (i, x) => (i, a.eval x)))) : Sem Next) by simp [execOp]]
      exact evBuildSlice_made (by simpa using evParts_rel hf hl) h
    · cases h
  | makeSlice t l c =>
    simp only [evOp] at h
    split at h
    · rename_i lv cv hl hc
      rw [show execOp a.eval ⟨dst, .makeSlice t l c, type, pos, after, guard⟩ = (do pure (Next.value (← Instr.makeSlice t (a.eval l) (a.eval c))) : Sem Next) by simp [execOp]]
      exact evMakeSlice_made (hf.ev hl) (hf.ev hc) h
    · cases h
  | _ => simp [allocOp] at hal

theorem evLoad_later {H H2 : AH} {t : TypeId} {x v : Value} (h : evLoad P H t x = some v) (hrd : ∀ b k, H.rd b = some k → H2.rd b = some k) : evLoad P H2 t x = some v := by
  unfold evLoad at h ⊢
  split at h
  · rename_i b o
    cases hk : H.rd b with
    | none => rw [hk] at h; simp at h
    | some k =>
      rw [hk] at h
      simp only [hrd b k hk]
      exact h
  · cases h
theorem evSlice_later {H H2 : AH} {e : TypeId} {x v : Value} {lo hi mx : Option Value} (h : evSlice P H e x lo hi mx = some v)
    (ht : ∀ b k, H.t.get b = some k → ∃ k', H2.t.get b = some k' ∧ k'.elem = k.elem ∧ k'.cells.length = k.cells.length) : evSlice P H2 e x lo hi mx = some v := by
  unfold evSlice at h ⊢
  cases hs : szOf P e with
  | none => rw [hs] at h; simp at h
  | some s =>
    simp only [hs] at h ⊢
    split at h
    · exact h
    · rename_i b o n c
      cases hk : H.t.get b with
      | none => rw [hk] at h; simp at h
      | some k =>
        obtain ⟨k', h1, h2, h3⟩ := ht b k hk
        rw [hk] at h
        simp only [h1]
        unfold topOf at h ⊢
        cases hlo : natOfo lo 0 with
        | none => rw [hlo] at h; simp at h
        | some l =>
          cases hhi : natOfo hi n with
          | none => rw [hlo, hhi] at h; simp at h
          | some m =>
            rw [hlo, hhi] at h
            simp only at h ⊢
            rw [h2, h3]
            exact h
    · cases h

/-- What floats and makes nothing: as well on a later heap. -/
theorem evOp_later {fr : Fr} {o : Oper} {H H' H2 : AH} {v : Value} (h : evOp P fr o H = some (v, H')) (hf : floatOp o.op = true) (hal : allocOp o.op = false)
    (ht : ∀ b k, H.t.get b = some k → ∃ k', H2.t.get b = some k' ∧ k'.elem = k.elem ∧ k'.cells.length = k.cells.length)
    (hrd : loadOp o.op = true → ∀ b k, H.rd b = some k → H2.rd b = some k) : H' = H ∧ evOp P fr o H2 = some (v, H2) := by
  obtain ⟨dst, op, type, pos, after, guard⟩ := o
  have kp : ∀ {x : Option Value}, keep H x = some (v, H') → H' = H ∧ keep H2 x = some (v, H2) := fun hx => by
    obtain ⟨q1, q2⟩ := keep_some hx
    exact ⟨q2, by rw [q1]; rfl⟩
  have pn : ∀ {x : Option Value}, (match x with | some v => some (v, H) | none => none) = some (v, H') → H' = H ∧ (match x with | some v => some (v, H2) | none => none) = some (v, H2) := fun {x} hx => by
    cases x with
    | none => cases hx
    | some y => cases hx; exact ⟨rfl, rfl⟩
  cases op with
  | move x => simp only [evOp] at h ⊢; exact kp h
  | assign x => simp only [evOp] at h ⊢; exact kp h
  | pick c p q => simp only [evOp] at h ⊢; split at h <;> first | exact kp h | cases h
  | build t ps => simp only [evOp] at h ⊢; split at h <;> first | exact kp h | cases h
  | load t x =>
    simp only [evOp] at h ⊢
    split at h
    · obtain ⟨q1, q2⟩ := keep_some h
      exact ⟨q2, by rw [evLoad_later q1 (hrd rfl)]; rfl⟩
    · cases h
  | nilCheck x => simp only [evOp] at h ⊢; split at h <;> first | exact kp h | cases h
  | binOp op t x y yt => simp only [evOp] at h ⊢; exact kp h
  | unOp op t x => simp only [evOp] at h ⊢; exact kp h
  | index t x i => simp only [evOp] at h ⊢; exact kp h
  | makeFunc f p q =>
    cases f with
    | func f =>
      simp only [evOp] at h ⊢
      split at h
      · cases h; exact ⟨rfl, rfl⟩
      · cases h
    | _ => simp [evOp] at h
  | makeInterface t x => simp only [evOp] at h ⊢; split at h <;> first | exact kp h | cases h
  | slice t x lo hi mx =>
    simp only [evOp] at h ⊢
    split at h
    · exact kp h
    · split at h
      · obtain ⟨q1, q2⟩ := keep_some h
        exact ⟨q2, by rw [evSlice_later q1 ht]; rfl⟩
      · cases h
    · cases h
  | fieldAddr t x f => simp only [evOp] at h ⊢; split at h <;> first | exact kp h | cases h
  | field t x f => simp only [evOp] at h ⊢; split at h <;> first | exact kp h | cases h
  | indexAddr t x i => simp only [evOp] at h ⊢; split at h <;> first | exact kp h | cases h
  | extract x i => simp only [evOp] at h ⊢; split at h <;> first | exact kp h | cases h
  | typeAssert x p q c =>
    cases c with
    | true => simp only [evOp] at h ⊢; split at h <;> first | exact kp h | cases h
    | false => simp [evOp] at h
  | call c =>
    obtain ⟨callee, args, argTypes⟩ := c
    cases callee with
    | builtin b =>
      simp only [evOp] at h ⊢
      split at h
      · rename_i l hl
        generalize argTypes.toList = ts at h ⊢
        cases b with
        | len =>
          cases ts with
          | nil => simp [evBuiltin] at h
          | cons t ts => cases l with
            | nil => simp [evBuiltin] at h
            | cons x l => simp only [evBuiltin] at h ⊢; exact pn h
        | cap =>
          cases ts with
          | nil => simp [evBuiltin] at h
          | cons t ts => cases l with
            | nil => simp [evBuiltin] at h
            | cons x l => simp only [evBuiltin] at h ⊢; exact pn h
        | max => simp only [evBuiltin] at h ⊢; exact pn h
        | min => simp only [evBuiltin] at h ⊢; exact pn h
        | _ => simp [floatOp] at hf
      · cases h
    | _ => simp [floatOp] at hf
  | _ => first | (simp [floatOp] at hf; done) | (simp [allocOp] at hal; done)
end Go.Ae
