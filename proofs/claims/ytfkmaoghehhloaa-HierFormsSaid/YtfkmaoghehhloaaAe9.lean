/- What the evaluator's heap keeps; which operands matter; operations that may be done at another place. -/
import Derived.Test.YtfkmaoghehhloaaAe8
set_option linter.unusedVariables false
set_option linter.unusedSimpArgs false
namespace Go.Ae
variable {P : Program}

/-- Each block is there, its group too. -/
def WF (H : AH) : Prop := (∀ b, b < H.n → ∃ k, H.t.get b = some k ∧ k.grp < H.n) ∧ ∀ b, H.n ≤ b → H.t.get b = none
theorem WF.at {H : AH} (h : WF H) {b : Nat} {k : Blk} (hb : H.t.get b = some k) : b < H.n ∧ k.grp < H.n := by
  by_cases hlt : b < H.n
  · obtain ⟨k1, h1, h2⟩ := h.1 b hlt
    rw [hb] at h1; cases h1
    exact ⟨hlt, h2⟩
  · rw [h.2 b (Nat.le_of_not_lt hlt)] at hb; cases hb
/-- From one heap to a later one: what is below 'low' has not been written. -/
structure AGrow (H H' : AH) : Prop where
  n : H.n ≤ H'.n
  low : H'.low ≤ H.low
  t : ∀ b k, b < H.n → H.t.get b = some k → ∃ k', H'.t.get b = some k' ∧ k'.ro = k.ro ∧ k'.grp = k.grp ∧ k'.elem = k.elem ∧ k'.cells.length = k.cells.length ∧ (k.grp < H'.low → k' = k)
  g : ∀ i g, i < H.n → H.g.get i = some g → ∃ g', H'.g.get i = some g' ∧ (i < H'.low → g' = g)
  wf : WF H → WF H'
  new : WF H → ∀ b k, H.n ≤ b → b < H'.n → H'.t.get b = some k → k.grp < H.n → H'.low ≤ k.grp
theorem AGrow.refl (H : AH) : AGrow H H := ⟨Nat.le_refl _, Nat.le_refl _, fun b k _ h => ⟨k, h, rfl, rfl, rfl, rfl, fun _ => rfl⟩, fun i g _ h => ⟨g, h, fun _ => rfl⟩, id, fun _ b k h1 h2 => absurd h2 (Nat.not_lt.2 h1)⟩
theorem AGrow.trans {a b c : AH} (h : AGrow a b) (k : AGrow b c) : AGrow a c where
  n := Nat.le_trans h.n k.n
  low := Nat.le_trans k.low h.low
  t := fun x kx hx ht => by
    obtain ⟨k1, h1, h2, h3, h3a, h3b, h4⟩ := h.t x kx hx ht
    obtain ⟨k2, q1, q2, q3, q3a, q3b, q4⟩ := k.t x k1 (Nat.lt_of_lt_of_le hx h.n) h1
    exact ⟨k2, q1, q2.trans h2, q3.trans h3, q3a.trans h3a, q3b.trans h3b, fun hl => (q4 (by rw [h3]; exact hl)).trans (h4 (Nat.lt_of_lt_of_le hl k.low))⟩
  g := fun i g hi hg => by
    obtain ⟨g1, h1, h2⟩ := h.g i g hi hg
    obtain ⟨g2, q1, q2⟩ := k.g i g1 (Nat.lt_of_lt_of_le hi h.n) h1
    exact ⟨g2, q1, fun hl => (q2 hl).trans (h2 (Nat.lt_of_lt_of_le hl k.low))⟩
  wf := fun q => k.wf (h.wf q)
  new := fun q x kx h1 h2 h3 h4 => by
    by_cases hx : x < b.n
    · obtain ⟨k0, h5, _⟩ := (h.wf q).1 x hx
      obtain ⟨k2, q1, _, q3, _⟩ := k.t x k0 hx h5
      rw [h3] at q1; cases q1
      have := h.new q x k0 h1 hx h5 (by rw [← q3]; exact h4)
      rw [q3]
      exact Nat.le_trans k.low this
    · exact k.new (h.wf q) x kx (Nat.le_of_not_lt hx) h2 h3 (Nat.lt_of_lt_of_le h4 h.n)
theorem AGrow.push (H : AH) (cells : List Value) (e : TypeId) : AGrow H (H.push cells e) :=
  ⟨by simp [AH.push], Nat.le_refl _, fun b k hb h => ⟨k, by simp only [AH.push, T.get_set]; rw [if_neg (by omega)]; exact h, rfl, rfl, rfl, rfl, fun _ => rfl⟩,
    fun i g hi h => ⟨g, by simp only [AH.push, T.get_set]; rw [if_neg (by omega)]; exact h, fun _ => rfl⟩,
    fun q => ⟨fun b hb => by
      simp only [AH.push, T.get_set] at hb ⊢
      by_cases he : b = H.n
      · exact ⟨_, by rw [if_pos he], by simp⟩
      · obtain ⟨k, h1, h2⟩ := q.1 b (by omega)
        exact ⟨k, by rw [if_neg he]; exact h1, by omega⟩, fun b hb => by
      simp only [AH.push, T.get_set] at hb ⊢
      rw [if_neg (by omega)]
      exact q.2 b (by omega)⟩,
    fun _ b k h1 h2 h3 h4 => by
      simp only [AH.push, T.get_set] at h2 h3
      rw [if_pos (by omega)] at h3
      cases h3
      exact absurd h4 (Nat.lt_irrefl _)⟩
theorem AGrow.wr {H H' : AH} {b : Nat} {cells : List Value} (h : H.wr b cells = some H') : AGrow H H' := by
  obtain ⟨k, g, hk, hg, hro, htip, hkw, hlen, rfl⟩ := wr_some h
  refine ⟨Nat.le_refl _, Nat.min_le_left _ _, fun x kx hx ht => ?_, fun i gx hi hgi => ?_, fun q => ⟨fun x hx => ?_, fun x hx => ?_⟩, fun _ b k h1 h2 => absurd h2 (Nat.not_lt.2 h1)⟩
  rotate_left 2
  · by_cases he : x = b
    · subst he
      have h0 : H.t.get x = some k := hk
      obtain ⟨k1, h1, h2⟩ := q.1 x hx
      rw [h0] at h1; cases h1
      exact ⟨{ k with cells, w := g.w + 1 }, by simp only [T.get_set, if_true], h2⟩
    · obtain ⟨k1, h1, h2⟩ := q.1 x hx
      exact ⟨k1, by simp only [T.get_set]; rw [if_neg he]; exact h1, h2⟩
  · have hx' : H.n ≤ x := hx
    have hbn : b < H.n := (WF.at q (b := b) (k := k) hk).1
    simp only [T.get_set]; rw [if_neg (by omega)]; exact q.2 x hx
  · by_cases he : x = b
    · subst he
      have : H.t.get x = some k := hk
      rw [this] at ht; cases ht
      exact ⟨{ k with cells, w := g.w + 1 }, by simp only [T.get_set, if_true], rfl, rfl, rfl, hlen, fun hl => by
        have := Nat.lt_of_lt_of_le hl (Nat.min_le_right H.low k.grp)
        exact absurd this (Nat.lt_irrefl _)⟩
    · exact ⟨kx, by simp only [T.get_set]; rw [if_neg he]; exact ht, rfl, rfl, rfl, rfl, fun _ => rfl⟩
  · by_cases he : i = k.grp
    · subst he
      exact ⟨{ g with w := g.w + 1 }, by simp only [T.get_set, if_true], fun hl => by
        have := Nat.lt_of_lt_of_le hl (Nat.min_le_right H.low k.grp)
        exact absurd this (Nat.lt_irrefl _)⟩
    · exact ⟨gx, by simp only [T.get_set]; rw [if_neg he]; exact hgi, fun _ => rfl⟩
theorem AGrow.ext {H H' : AH} {b : Nat} {cells : List Value} (h : H.ext b cells = some H') : AGrow H H' := by
  have hb := ext_lt h
  obtain ⟨k, g, hk, hg, hro, htip, hkw, rfl⟩ := ext_some h
  refine ⟨by simp, Nat.min_le_left _ _, fun x kx hx ht => ⟨kx, by simp only [T.get_set]; rw [if_neg (by omega)]; exact ht, rfl, rfl, rfl, rfl, fun _ => rfl⟩, fun i gx hi hgi => ?_, fun q => ⟨fun x hx => ?_, fun x hx => ?_⟩, fun _ x kx h1 h2 h3 h4 => ?_⟩
  rotate_left
  rotate_left
  · have hx' : H.n + 1 ≤ x := hx
    simp only [T.get_set]; rw [if_neg (by omega)]; exact q.2 x (by omega)
  · simp only [T.get_set] at h2 h3
    rw [if_pos (by omega)] at h3
    cases h3
    exact Nat.min_le_right _ _
  rotate_left
  · simp only [T.get_set] at hx ⊢
    by_cases he : x = H.n
    · have h0 : H.t.get b = some k := hk
      obtain ⟨y, hy⟩ : ∃ y, y = b := ⟨b, rfl⟩
      by_cases hbn : b < H.n
      · obtain ⟨k1, h1, h2⟩ := q.1 b hbn
        rw [h0] at h1; cases h1
        exact ⟨_, by rw [if_pos he], by simp only; omega⟩
      · exact absurd hb hbn
    · obtain ⟨k1, h1, h2⟩ := q.1 x (by omega)
      exact ⟨k1, by rw [if_neg he]; exact h1, by omega⟩
  by_cases he : i = k.grp
  · subst he
    have : H.g.get k.grp = some g := hg
    rw [this] at hgi; cases hgi
    exact ⟨{ g with tip := H.n }, by simp only [T.get_set, if_true], fun hl => absurd (Nat.lt_of_lt_of_le hl (Nat.min_le_right H.low k.grp)) (Nat.lt_irrefl _)⟩
  · exact ⟨gx, by simp only [T.get_set]; rw [if_neg he]; exact hgi, fun _ => rfl⟩
/-- The mark alone is another one. -/
theorem AGrow.low_of {H : AH} {l : Nat} (h : l ≤ H.low) : AGrow H { H with low := l } :=
  ⟨Nat.le_refl _, h, fun b k _ h => ⟨k, h, rfl, rfl, rfl, rfl, fun _ => rfl⟩, fun i g _ h => ⟨g, h, fun _ => rfl⟩, id, fun _ b k h1 h2 => absurd h2 (Nat.not_lt.2 h1)⟩

theorem evAppend_grow {H H' : AH} {t : TypeId} {x y v : Value} {z : Bool} (h : evAppend P H t x y z = some (v, H')) : AGrow H H' := by
  unfold evAppend at h
  split at h
  · split at h
    · split at h
      · split at h
        · unfold evAppendTo at h
          split at h
          · split at h
            · split at h
              · cases h; exact AGrow.refl _
              · cases h; exact AGrow.push _ _ _
            · cases h
          · split at h
            · split at h
              · split at h
                · cases h; exact AGrow.push _ _ _
                · split at h
                  · cases h; exact AGrow.refl _
                  · split at h
                    · split at h
                      · rename_i hw; cases h; exact AGrow.wr hw
                      · cases h
                    · split at h
                      · split at h
                        · rename_i hw; cases h; exact AGrow.ext hw
                        · cases h
                      · cases h
              · cases h
            · cases h
          · cases h
        · cases h
      · cases h
    · cases h
  · cases h

theorem keep_grow {H H' : AH} {o : Option Value} {v : Value} (h : keep H o = some (v, H')) : AGrow H H' := by
  obtain ⟨_, rfl⟩ := keep_some h; exact AGrow.refl _
theorem plain_grow {fr : Fr} {o : Oper} {H H' : AH} {v : Value} (h : (match evPlain P fr o with | some v => some (v, H) | none => none) = some (v, H')) : AGrow H H' := by
  split at h
  · cases h; exact AGrow.refl _
  · cases h

theorem evOp_grow {fr : Fr} {o : Oper} {H H' : AH} {v : Value} (h : evOp P fr o H = some (v, H')) : AGrow H H' := by
  unfold evOp at h
  split at h
  · exact keep_grow h
  · exact keep_grow h
  · split at h
    · exact keep_grow h
    · cases h
  · unfold evAlloc at h
    split at h
    · split at h
      · cases h; exact AGrow.push _ _ _
      · cases h
    · cases h
  · split at h
    · unfold evBox at h
      split at h
      · split at h
        · cases h; exact AGrow.push _ _ _
        · cases h
      · cases h
    · cases h
  · split at h
    · exact keep_grow h
    · cases h
  · split at h
    · unfold evBuildSlice at h
      split at h
      · split at h
        · split at h
          · split at h
            · split at h
              · cases h; exact AGrow.push _ _ _
              · cases h
            · cases h
          · cases h
        · cases h
      · cases h
    · cases h
  · split at h
    · exact keep_grow h
    · cases h
  · split at h
    · split at h
      · rename_i hst
        cases h
        unfold evStore at hst
        split at hst
        · split at hst
          · split at hst
            · exact AGrow.wr hst
            · cases hst
          · cases hst
        · cases hst
      · cases h
    · cases h
  · split at h
    · exact keep_grow h
    · cases h
  · exact keep_grow h
  · exact keep_grow h
  · exact keep_grow h
  · unfold evConvert at h
    split at h
    · split at h
      · cases h; exact AGrow.refl _
      · cases h
    · split at h
      · unfold evBytes at h
        split at h
        · split at h
          · cases h; exact AGrow.push _ _ _
          · cases h
        · cases h
      · exact plain_grow h
    · exact plain_grow h
    · cases h
  · split at h
    · cases h; exact AGrow.refl _
    · cases h
  · split at h
    · exact keep_grow h
    · cases h
  · split at h
    · unfold evMakeSlice at h
      split at h
      · split at h
        · split at h
          · cases h; exact AGrow.push _ _ _
          · cases h
        · cases h
      · cases h
    · cases h
  · split at h
    · exact keep_grow h
    · split at h
      · exact keep_grow h
      · cases h
    · cases h
  · split at h
    · exact keep_grow h
    · cases h
  · split at h
    · exact keep_grow h
    · cases h
  · split at h
    · exact keep_grow h
    · cases h
  · split at h
    · exact keep_grow h
    · cases h
  · split at h
    · exact keep_grow h
    · cases h
  · split at h
    · unfold evBuiltin at h
      split at h
      · split at h
        · cases h; exact AGrow.refl _
        · cases h
      · split at h
        · cases h; exact AGrow.refl _
        · cases h
      · split at h
        · exact evAppend_grow h
        · exact evAppend_grow h
        · exact evAppend_grow h
        · cases h
      · split at h
        · rename_i hc
          cases h
          split at hc
          · unfold evClear at hc
            split at hc
            · cases hc; exact AGrow.refl _
            · split at hc
              · cases hc; exact AGrow.refl _
              · split at hc
                · split at hc
                  · split at hc
                    · exact AGrow.wr hc
                    · cases hc
                  · cases hc
                · cases hc
            · cases hc
          · cases hc
        · cases h
      · exact plain_grow h
      · exact plain_grow h
      · cases h
    · cases h
  · cases h

/-! ### The operands alone matter -/
def AgreeOn (fr fr' : Fr) (l : List Operand) : Prop := ∀ t, Operand.tmp t ∈ l → fr.at t = fr'.at t
theorem AgreeOn.ev {fr fr' : Fr} {l : List Operand} (h : AgreeOn fr fr' l) {x : Operand} (hx : x ∈ l) : fr.ev x = fr'.ev x := by
  cases x with
  | tmp t => simp only [Fr.ev]; rw [h t hx]
  | _ => rfl
theorem AgreeOn.evD {fr fr' : Fr} {l : List Operand} (h : AgreeOn fr fr' l) {x : Operand} (hx : x ∈ l) : fr.evD x = fr'.evD x := by
  cases x with
  | tmp t => simp only [Fr.evD]; rw [h t hx]
  | _ => rfl
theorem AgreeOn.evs {fr fr' : Fr} {l : List Operand} (h : AgreeOn fr fr' l) : ∀ {m : List Operand}, (∀ x ∈ m, x ∈ l) → fr.evs m = fr'.evs m := by
  intro m
  induction m with
  | nil => intro _; rfl
  | cons x m ih => intro hm; simp only [Fr.evs, h.ev (hm x (by simp)), ih fun y hy => hm y (by simp [hy])]
theorem AgreeOn.evo {fr fr' : Fr} {l : List Operand} (h : AgreeOn fr fr' l) {x : Option Operand} (hx : ∀ y, x = some y → y ∈ l) : fr.evo x = fr'.evo x := by
  cases x with
  | none => rfl
  | some x => simp only [Fr.evo, h.ev (hx x rfl)]
theorem AgreeOn.parts {fr fr' : Fr} {l : List Operand} (h : AgreeOn fr fr' l) : ∀ {m : List (Nat × Operand)}, (∀ x ∈ m, x.2 ∈ l) → evParts fr m = evParts fr' m := by
  intro m
  induction m with
  | nil => intro _; rfl
  | cons x m ih =>
    intro hm
    obtain ⟨i, x⟩ := x
    simp only [evParts, h.ev (hm (i, x) (by simp)), ih fun y hy => hm y (by simp [hy])]
theorem AgreeOn.plain {fr fr' : Fr} {o : Oper} (h : AgreeOn fr fr' o.op.operands.toList) (hs : ∀ cs b, o.op ≠ .select cs b) : evPlain P fr o = evPlain P fr' o := by
  unfold evPlain
  have e1 : o.op.operands.toList.all (gnd fr) = o.op.operands.toList.all (gnd fr') := by
    rw [Bool.eq_iff_iff, List.all_eq_true, List.all_eq_true]
    have q : ∀ x ∈ o.op.operands.toList, gnd fr x = gnd fr' x := fun x hx => by unfold gnd; rw [h.ev hx]
    exact ⟨fun r x hx => by rw [← q x hx]; exact r x hx, fun r x hx => by rw [q x hx]; exact r x hx⟩
  have e2 : execOp fr.evD o = execOp fr'.evD o := execOp_congr o hs fun x hx => h.evD (by simpa using hx)
  rw [e1, e2]

theorem evOp_congr {fr fr' : Fr} {o : Oper} {H : AH} (h : AgreeOn fr fr' o.op.operands.toList) : evOp P fr o H = evOp P fr' o H := by
  obtain ⟨dst, op, type, pos, after, guard⟩ := o
  have pl : (∀ cs b, op ≠ .select cs b) → evPlain P fr ⟨dst, op, type, pos, after, guard⟩ = evPlain P fr' ⟨dst, op, type, pos, after, guard⟩ := fun hs => AgreeOn.plain (o := ⟨dst, op, type, pos, after, guard⟩) h hs
  simp only at h
  cases op with
  | move x => simp only [evOp]; rw [h.ev (by simp [Op.operands])]
  | assign x => simp only [evOp]; rw [h.ev (by simp [Op.operands])]
  | pick c a b => simp only [evOp]; rw [h.ev (x := c) (by simp [Op.operands]), h.ev (x := a) (by simp [Op.operands]), h.ev (x := b) (by simp [Op.operands])]
  | alloc t => rfl
  | box t x => simp only [evOp]; rw [h.ev (by simp [Op.operands])]
  | build t ps => simp only [evOp]; rw [h.parts (fun x hx => by simp [Op.operands]; exact ⟨x.1, by simpa using hx⟩)]
  | buildSlice t n ps => simp only [evOp]; rw [h.parts (fun x hx => by simp [Op.operands]; exact ⟨x.1, by simpa using hx⟩)]
  | load t x => simp only [evOp]; rw [h.ev (by simp [Op.operands])]
  | store t a x => simp only [evOp]; rw [h.ev (x := a) (by simp [Op.operands]), h.ev (x := x) (by simp [Op.operands])]
  | nilCheck x => simp only [evOp]; rw [h.ev (by simp [Op.operands])]
  | binOp op t x y yt => simp only [evOp, evBin]; rw [h.ev (x := x) (by simp [Op.operands]), h.ev (x := y) (by simp [Op.operands]), pl (fun _ _ e => by cases e)]
  | unOp op t x => simp only [evOp]; rw [pl (fun _ _ e => by cases e)]
  | index t x i => simp only [evOp]; rw [pl (fun _ _ e => by cases e)]
  | convert s d x => simp only [evOp, evConvert]; rw [h.ev (by simp [Op.operands]), pl (fun _ _ e => by cases e)]
  | makeFunc f a b =>
    cases f with
    | func f => simp only [evOp]; rw [h.evs (m := a.toList) (fun x hx => by simp [Op.operands]; exact .inl (by simpa using hx)), h.evs (m := b.toList) (fun x hx => by simp [Op.operands]; exact .inr (by simpa using hx))]
    | _ => rfl
  | makeInterface t x => simp only [evOp]; rw [h.ev (by simp [Op.operands])]
  | makeSlice t l c => simp only [evOp]; rw [h.ev (x := l) (by simp [Op.operands]), h.ev (x := c) (by simp [Op.operands])]
  | slice t x lo hi mx =>
    simp only [evOp]
    rw [h.ev (x := x) (by simp [Op.operands]), h.evo (x := lo) (fun y e => by subst e; simp [Op.operands]), h.evo (x := hi) (fun y e => by subst e; simp [Op.operands]), h.evo (x := mx) (fun y e => by subst e; simp [Op.operands]), pl (fun _ _ e => by cases e)]
  | fieldAddr t x f => simp only [evOp]; rw [h.ev (by simp [Op.operands])]
  | field t x f => simp only [evOp]; rw [h.ev (by simp [Op.operands])]
  | indexAddr t x i => simp only [evOp]; rw [h.ev (x := x) (by simp [Op.operands]), h.ev (x := i) (by simp [Op.operands])]
  | extract x i => simp only [evOp]; rw [h.ev (by simp [Op.operands])]
  | typeAssert x a b c =>
    cases c with
    | true => simp only [evOp]; rw [h.ev (by simp [Op.operands])]
    | false => rfl
  | call c =>
    obtain ⟨callee, args, argTypes⟩ := c
    cases callee with
    | builtin b =>
      simp only [evOp]
      rw [h.evs (m := args.toList) (fun x hx => by simpa [Op.operands, Call.operands] using hx)]
      have : ∀ l, evBuiltin P fr ⟨dst, .call ⟨.builtin b, args, argTypes⟩, type, pos, after, guard⟩ H b argTypes.toList l = evBuiltin P fr' ⟨dst, .call ⟨.builtin b, args, argTypes⟩, type, pos, after, guard⟩ H b argTypes.toList l := fun l => by
        unfold evBuiltin
        rw [pl (fun _ _ e => by cases e)]
      simp only [this]
    | _ => rfl
  | _ => rfl
theorem evCallee_congr {fr fr' : Fr} {o : Oper} (h : AgreeOn fr fr' o.op.operands.toList) : evCallee P fr o = evCallee P fr' o := by
  unfold evCallee
  split
  · rename_i f args ts ho
    rw [ho] at h
    rw [h.ev (x := f) (by simp [Op.operands, Call.operands]), h.evs (m := args.toList) (fun x hx => by simp [Op.operands, Call.operands]; exact .inr (by simpa using hx))]
  · rfl
end Go.Ae
