/- The evaluator's operations beside the model's: what makes, cuts, joins. -/
import Derived.Test.YtfkmaoghehhloaaAe4
namespace Go.Ae
variable {P : Program}

theorem natOf_some {v : Value} {n : Nat} (h : natOf v = some n) : ∃ k, v = .int k n := by
  unfold natOf at h
  split at h
  · rename_i k i
    split at h
    · rename_i h0
      cases h
      exact ⟨k, by rw [Int.toNat_of_nonneg h0]⟩
    · cases h
  · cases h

theorem evBin_run {μ : Mu} {fr : Fr} {a : Act} (hf : FrR μ fr a) {o : Oper} {op : BinOp} {t yt : TypeId} {x y : Operand} {v : Value} (ho : o.op = .binOp op t x y yt)
    (h : evBin P fr o op t x y = some v) (w : World) : (execOp a.eval o).run P w = .ok (.value v) w ∧ ground v = true := by
  have hs : ∀ cs b, o.op ≠ .select cs b := fun cs b e => by rw [ho] at e; cases e
  unfold evBin at h
  split at h
  · rename_i k m k' n hx hy
    have ex := (hf.ev hx).int
    have ey := (hf.ev hy).int
    split at h
    · rename_i u hu
      cases h
      split at hu
      · rename_i hk
        subst hk
        cases op <;> simp only [fastInt, Option.some.injEq, reduceCtorEq] at hu <;> subst hu <;> refine ⟨?_, rfl⟩ <;>
          simp [execOp, ho, ex, ey, eqGuard, binOp, Op.intArith, Op.intCmp]
      · cases hu
    · exact evPlain_run hf h hs w
  · rename_i b n c n' c' hx hy
    have ey := (hf.ev hy).nilSlice
    have ex := hf.ev hx
    split at h
    · rename_i e he
      have hu := elemT_some he
      obtain ⟨a1, l1, c1, ha1⟩ : ∃ a1 l1 c1, a.eval x = .slice (some a1) l1 c1 := by
        cases hxv : a.eval x <;> rw [hxv] at ex <;> cases ex <;> first | exact ⟨_, _, _, rfl⟩ | simp_all [ground, groundD]
      have q : ∀ d, (Op.equalIn (d + 1) t (.slice (some a1) l1 c1) (.slice none n' c')).run P w = .ok false w := fun d => by
        simp [Op.equalIn, run_underlying hu]
      have q2 : (Op.equal t (.slice (some a1) l1 c1) (.slice none n' c')).run P w = .ok false w := q 9999
      cases op <;> simp only [nilSlice, Option.some.injEq, reduceCtorEq] at h <;> subst h <;> refine ⟨?_, rfl⟩ <;>
        simp [execOp, ho, ha1, ey, eqGuard, binOp, q2]
    · cases h
  · exact evPlain_run hf h hs w
  · cases h

theorem evExtract_run {μ : Mu} {x x' v : Value} {i : Nat} (hx : VR μ x x') (h : evExtract x i = some v) (w : World) : ∃ v', (Instr.extract x' i).run P w = .ok v' w ∧ VR μ v v' := by
  unfold evExtract at h
  split at h
  · rename_i vs
    obtain ⟨vs', rfl, hsz, hall⟩ := hx.tuple_inv
    obtain ⟨v', hv', hvr⟩ := (LR.of_arr hsz hall).get h
    rw [Array.getElem?_toList] at hv'
    exact ⟨v', by simp [Instr.extract, hv'], hvr⟩
  · cases h

theorem evFieldAddr_run {μ : Mu} {t : TypeId} {x x' v : Value} {f : Nat} (hx : VR μ x x') (h : evFieldAddr P t x f = some v) (w : World) : ∃ v', (Instr.fieldAt t x' f).run P w = .ok v' w ∧ VR μ v v' := by
  unfold evFieldAddr at h
  split at h
  · rename_i b o
    obtain ⟨e, hb, rfl⟩ := hx.ptr_inv
    split at h
    · rename_i fs hfs
      split at h
      · rename_i fd hfd
        split at h
        · rename_i s hs
          split at h
          · cases h
          · rename_i hs0
            cases h
            rw [Array.getElem?_toList] at hfd
            refine ⟨.pointer (some ⟨e.c, e.s + (o + fd.offset), none⟩), ?_, .ptr hb⟩
            simp [Instr.fieldAt, run_underlying (fieldsT_some hfs), hfd, Instr.sureAddr, fieldPlace, run_sizeOf' hs, hs0, add_at, Nat.add_assoc]
        · cases h
      · cases h
    · cases h
  · cases h

theorem evField_run {μ : Mu} {t : TypeId} {x x' v : Value} {f : Nat} (hx : VR μ x x') (h : evField P t x f = some v) (w : World) : ∃ v', (Instr.field t x' f).run P w = .ok v' w ∧ VR μ v v' := by
  unfold evField at h
  split at h
  · rename_i cs
    obtain ⟨cs', rfl, hsz, hall⟩ := hx.agg_inv
    have hlr := LR.of_arr hsz hall
    split at h
    · rename_i fs hfs
      split at h
      · rename_i fd hfd
        rw [Array.getElem?_toList] at hfd
        split at h
        · rename_i s hs ha
          split at h
          · rename_i hle
            cases h
            refine ⟨.agg ((cs'.toList.drop fd.offset).take s).toArray, ?_, ((hlr.drop fd.offset).take s).agg⟩
            have : cs'.extract fd.offset (fd.offset + s) = ((cs'.toList.drop fd.offset).take s).toArray := by
              apply Array.ext'
              simp [Array.toList_extract, List.extract_eq_take_drop]
            simp [Instr.field, run_underlying (fieldsT_some hfs), hfd, part, run_isAgg' ha, run_sizeOf' hs, asAgg, this]
          · cases h
        · rename_i s hs ha
          obtain ⟨v', hv', hvr⟩ := hlr.get h
          rw [Array.getElem?_toList] at hv'
          exact ⟨v', by simp [Instr.field, run_underlying (fieldsT_some hfs), hfd, part, run_isAgg' ha, asAgg, hv'], hvr⟩
        · cases h
      · cases h
    · cases h
  · cases h

theorem evIndexAddr_run {μ : Mu} {t : TypeId} {x x' i i' v : Value} (hx : VR μ x x') (hi : VR μ i i') (h : evIndexAddr P t x i = some v) (w : World) : ∃ v', (Instr.indexAt t x' i').run P w = .ok v' w ∧ VR μ v v' := by
  unfold evIndexAddr at h
  split at h
  · rename_i j hj
    obtain ⟨k, rfl⟩ := natOf_some hj
    have := hi.int
    subst this
    split at h
    · rename_i e b o n c hu
      obtain ⟨en, a', c', hb, rfl, hn, hl, hc, ha⟩ := hx.slice_inv
      split at h
      · rename_i s hs
        split at h
        · rename_i hlt
          cases h
          rcases ha with rfl | h0
          · refine ⟨.pointer (some ⟨en.c, en.s + (o + j * s), none⟩), ?_, .ptr hb⟩
            simp [Instr.indexAt, asIntOf, run_underlying hu, run_sizeOf' hs, hlt, add_at, Nat.add_assoc]
          · omega
        · cases h
      · cases h
    · rename_i n e b o hu
      obtain ⟨en, hb, rfl⟩ := hx.ptr_inv
      split at h
      · rename_i s hs
        split at h
        · rename_i hlt
          cases h
          refine ⟨.pointer (some ⟨en.c, en.s + (o + j * s), none⟩), ?_, .ptr hb⟩
          simp [Instr.indexAt, asIntOf, run_underlying hu, run_sizeOf' hs, hlt, add_at, Nat.add_assoc, Instr.sureAddr]
        · cases h
      · cases h
    · cases h
  · cases h

theorem evNil_run {μ : Mu} {x x' v : Value} (hx : VR μ x x') (h : evNil x = some v) : v = x ∧ ∃ a, x' = .pointer (some a) := by
  unfold evNil at h
  split at h
  · rename_i a
    cases h
    obtain ⟨b, o, sp⟩ := a
    cases hx with
    | gr _ h => simp [ground, groundD] at h
    | ptr h => exact ⟨rfl, _, rfl⟩
  · cases h

theorem evMakeInterface_run {μ : Mu} {t : TypeId} {x x' v : Value} (hx : VR μ x x') (h : evMakeInterface P t x = some v) (w : World) : ∃ v', (Instr.makeInterface t x').run P w = .ok v' w ∧ VR μ v v' := by
  unfold evMakeInterface at h
  split at h
  · cases h
  · cases h
  · rename_i h1 h2
    cases h
    refine ⟨_, ?_, .iface hx⟩
    cases hu : P.underlying t with
    | none => exact absurd hu h2
    | some d =>
      simp only [Instr.makeInterface, Sem.run_bind, run_underlying hu, Result.andThen]
      split
      · rename_i ms; exact absurd hu (h1 ms)
      · rfl

theorem evAssert_run {μ : Mu} {xt t : TypeId} {x x' v : Value} (hx : VR μ x x') (h : evAssert P x t = some v) (w : World) : ∃ v', (Instr.typeAssert x' xt t true).run P w = .ok v' w ∧ VR μ v v' := by
  unfold evAssert at h
  split at h
  · cases h
  · rename_i d u y hd hu
    obtain ⟨y', rfl, hy⟩ := hx.iface_inv
    split at h
    · rename_i he
      cases h
      subst he
      refine ⟨.tuple #[y', .bool true], ?_, (LR.cons hy (LR.cons (.gr _ rfl) (LR.nil μ))).tuple⟩
      simp only [Instr.typeAssert, Sem.run_bind, run_underlying hu, Result.andThen]
      cases d <;> first | (exact absurd rfl (hd _)) | simp
    · rename_i hne
      split at h
      · rename_i z hz
        cases h
        obtain ⟨i, hi, hzi, hg⟩ := zeroOf_some hz
        refine ⟨.tuple #[z, .bool false], ?_, (LR.cons (.gr _ hg) (LR.cons (.gr _ rfl) (LR.nil μ))).tuple⟩
        simp only [Instr.typeAssert, Sem.run_bind, run_underlying hu, Result.andThen]
        cases d <;> first | (exact absurd rfl (hd _)) | simp [hne, run_zeroValue' hz]
      · cases h
  · rename_i d hd hu
    have := hx.nilIface
    subst this
    split at h
    · rename_i z hz
      cases h
      obtain ⟨i, hi, hzi, hg⟩ := zeroOf_some hz
      refine ⟨.tuple #[z, .bool false], ?_, (LR.cons (.gr _ hg) (LR.cons (.gr _ rfl) (LR.nil μ))).tuple⟩
      simp only [Instr.typeAssert, Sem.run_bind, run_underlying hu, Result.andThen]
      cases d <;> first | (exact absurd rfl (hd _)) | simp [run_zeroValue' hz]
    · cases h
  · cases h

theorem evLen_run {μ : Mu} {t : TypeId} {x x' v : Value} (hx : VR μ x x') (h : evLen P t x = some v) (ts : List TypeId) (ty : TypeId) (xs : List Value) (w : World) :
    (Builtin.len_ (t :: ts).toArray ty (x' :: xs).toArray).run P w = .ok v w ∧ ground v = true := by
  unfold evLen at h
  split at h
  · rename_i e a n c hu
    cases h
    refine ⟨?_, rfl⟩
    cases a with
    | none => have := hx.nilSlice; subst this; simp [Builtin.len_, run_underlying hu, goInt]
    | some a =>
      obtain ⟨l, ca, rfl⟩ : ∃ a1 c1, x' = .slice (some a1) n c1 := by
        cases hx with
        | gr _ h => simp [ground, groundD] at h
        | slice h hn hl hc ha => exact ⟨_, _, rfl⟩
      simp [Builtin.len_, run_underlying hu, goInt]
  · rename_i z hu
    cases h
    have := hx.string
    subst this
    exact ⟨by simp [Builtin.len_, run_underlying hu, goInt], rfl⟩
  · rename_i n e hu
    cases h
    exact ⟨by simp [Builtin.len_, run_underlying hu, goInt], rfl⟩
  · cases h
theorem evCap_run {μ : Mu} {t : TypeId} {x x' v : Value} (hx : VR μ x x') (h : evCap P t x = some v) (ts : List TypeId) (ty : TypeId) (xs : List Value) (w : World) :
    (Builtin.cap_ (t :: ts).toArray ty (x' :: xs).toArray).run P w = .ok v w ∧ ground v = true := by
  unfold evCap at h
  split at h
  · rename_i e a n c hu
    split at h
    · cases h
    · rename_i hne
      cases h
      refine ⟨?_, rfl⟩
      cases a with
      | none => have := hx.nilSlice; subst this; simp [Builtin.cap_, run_underlying hu, goInt]
      | some a =>
        cases hx with
        | gr _ h => simp [ground, groundD] at h
        | slice h hn hl hc ha =>
          rcases hc with ⟨q, _⟩ | ⟨_, q, _⟩
          · exact absurd q hne
          · subst q; simp [Builtin.cap_, run_underlying hu, goInt]
  · cases h

/-! zero cells -/
theorem zeroCellsL_length (z : List Value) (n : Nat) : (zeroCellsL z n).length = n * z.length := by
  induction n with
  | zero => simp [zeroCellsL]
  | succ n ih => simp [zeroCellsL, ih, Nat.succ_mul, Nat.add_comm]
theorem zeroCellsL_get (z : List Value) (n i : Nat) (h : i < n * z.length) : (zeroCellsL z n)[i]? = z[i % z.length]? := by
  induction n generalizing i with
  | zero => simp at h
  | succ n ih =>
    simp only [zeroCellsL]
    rw [Nat.succ_mul] at h
    by_cases hi : i < z.length
    · rw [List.getElem?_append_left hi, Nat.mod_eq_of_lt hi]
    · rw [List.getElem?_append_right (by omega), ih _ (by omega)]
      congr 1
      rw [Nat.mod_eq_sub_mod (by omega : i ≥ z.length)]
theorem zeroCells_eq (z : Array Value) (n : Nat) : ((Array.range (n * z.size)).map fun i => z[i % z.size]!) = (zeroCellsL z.toList n).toArray := by
  apply Array.ext
  · simp [zeroCellsL_length]
  · intro i h1 h2
    simp at h1
    have hz : 0 < z.size := by
      rcases Nat.eq_zero_or_pos z.size with h | h
      · rw [h] at h1; simp at h1
      · exact h
    have hlt := Nat.mod_lt i hz
    have := zeroCellsL_get z.toList n i (by simpa using h1)
    simp only [Array.length_toList, Array.getElem?_toList] at this
    rw [Array.getElem?_eq_getElem hlt] at this
    have e2 := List.getElem?_eq_some_iff.1 this
    obtain ⟨_, e2⟩ := e2
    simp [hlt, e2]
theorem zeroCells_eq' {z : Array Value} {n s : Nat} (h : z.toList.length = s) : ((Array.range (n * s)).map fun i => z[i % z.size]!) = (zeroCellsL z.toList n).toArray := by
  rw [← zeroCells_eq]
  simp at h
  rw [h]
theorem zeroCellsL_one {z : List Value} (h : z.all oneC = true) (n : Nat) : (zeroCellsL z n).all oneC = true := by
  induction n with
  | zero => rfl
  | succ n ih => simp [zeroCellsL, List.all_append, h, ih]
theorem zeroCellsL_ground {z : List Value} (h : ∀ v ∈ z, ground v = true) (n : Nat) : ∀ v ∈ zeroCellsL z n, ground v = true := by
  induction n with
  | zero => intro v hv; simp [zeroCellsL] at hv
  | succ n ih => intro v hv; simp only [zeroCellsL, List.mem_append] at hv; rcases hv with hv | hv; exact h v hv; exact ih v hv

/-! fill -/
theorem fold_set {μ : Mu} {off : Nat} : ∀ {l l' : List Value} (j : Nat) {c c' : Array Value}, LR μ l l' → LR μ c.toList c'.toList →
    LR μ ((l.zipIdx j).foldl (fun cs (x : Value × Nat) => cs.setIfInBounds (off + x.2) x.1) c).toList ((l'.zipIdx j).foldl (fun cs (x : Value × Nat) => cs.setIfInBounds (off + x.2) x.1) c').toList := by
  intro l
  induction l with
  | nil => intro l' j c c' hl hc; have : l' = [] := List.eq_nil_of_length_eq_zero (by rw [← hl.1]; rfl); subst this; simpa using hc
  | cons v l ih =>
    intro l' j c c' hl hc
    cases l' with
    | nil => have := hl.1; simp at this
    | cons v' l' =>
      simp only [List.zipIdx_cons, List.foldl_cons]
      refine ih (j + 1) ⟨by simpa using hl.1, fun i a b ha hb => hl.2 (i + 1) a b (by simpa using ha) (by simpa using hb)⟩ ?_
      refine ⟨by simpa using hc.1, fun i a b ha hb => ?_⟩
      simp only [Array.toList_setIfInBounds, List.getElem?_set] at ha hb
      have hlen := hc.1
      by_cases hi : off + j = i
      · subst hi
        by_cases h2 : off + j < c.toList.length
        · rw [if_pos rfl, if_pos h2] at ha
          rw [if_pos rfl, if_pos (by omega)] at hb
          cases ha; cases hb
          exact hl.2 0 v v' rfl rfl
        · rw [if_pos rfl, if_neg h2] at ha; cases ha
      · rw [if_neg hi] at ha hb
        exact hc.2 i a b ha hb
def PR (μ : Mu) (l l' : List (Nat × Value)) : Prop := l.length = l'.length ∧ ∀ (i : Nat) (x x' : Nat × Value), l[i]? = some x → l'[i]? = some x' → x.1 = x'.1 ∧ VR μ x.2 x'.2
theorem fill_rel {μ : Mu} {place : Nat → Option (Nat × Nat)} : ∀ {l l' : List (Nat × Value)} {c c' r : Array Value}, PR μ l l' → LR μ c.toList c'.toList → Instr.fill place c l = some r →
    ∃ r', Instr.fill place c' l' = some r' ∧ LR μ r.toList r'.toList := by
  intro l
  induction l with
  | nil =>
    intro l' c c' r hl hc h
    have : l' = [] := List.eq_nil_of_length_eq_zero (by rw [← hl.1]; rfl)
    subst this
    simp only [Instr.fill, Option.some.injEq] at h
    subst h
    exact ⟨c', rfl, hc⟩
  | cons x l ih =>
    intro l' c c' r hl hc h
    cases l' with
    | nil => have := hl.1; simp at this
    | cons x' l' =>
      obtain ⟨i, v⟩ := x
      obtain ⟨i', v'⟩ := x'
      obtain ⟨hi, hv⟩ := hl.2 0 _ _ rfl rfl
      simp only at hi hv
      subst hi
      simp only [Instr.fill] at h ⊢
      cases hp : place i with
      | none => rw [hp] at h; cases h
      | some os =>
        obtain ⟨off, size⟩ := os
        rw [hp] at h
        simp only at h ⊢
        have hcell := hv.cells
        have e1 : v'.cells.size = v.cells.size := by have := hcell.1; simpa using this.symm
        have e2 : c'.size = c.size := by have := hc.1; simpa using this.symm
        rw [e1, e2]
        split at h
        · cases h
        · rename_i hcond
          rw [if_neg hcond]
          refine ih ⟨by simpa using hl.1, fun j a b ha hb => hl.2 (j + 1) a b (by simpa using ha) (by simpa using hb)⟩ ?_ h
          rw [← Array.foldl_toList, ← Array.foldl_toList, Array.toList_zipIdx, Array.toList_zipIdx]
          exact fold_set 0 hcell hc
theorem evParts_rel {μ : Mu} {fr : Fr} {a : Act} (hf : FrR μ fr a) : ∀ {l : List (Nat × Operand)} {r : List (Nat × Value)}, evParts fr l = some r → PR μ r (l.map fun (i, x) => (i, a.eval x)) := by
  intro l
  induction l with
  | nil => intro r h; simp only [evParts, Option.some.injEq] at h; subst h; exact ⟨rfl, fun i x x' h => by simp at h⟩
  | cons p l ih =>
    intro r h
    obtain ⟨i, x⟩ := p
    simp only [evParts] at h
    split at h
    · rename_i v vs hv hvs
      cases h
      have q := ih hvs
      refine ⟨by simpa using q.1, fun j y y' hy hy' => ?_⟩
      cases j with
      | zero => simp at hy hy'; subst hy; subst hy'; exact ⟨rfl, hf.ev hv⟩
      | succ j => exact q.2 j y y' (by simpa using hy) (by simpa using hy')
    · cases h

theorem mapM_places : ∀ {l : List Field} {ps : List (Nat × Nat)}, (l.mapM fun f => (szOf P f.type).map fun s => (f.offset, s)) = some ps → ∀ w, ((l.mapM fun f => (do pure (f.offset, ← sizeOf f.type) : Sem (Nat × Nat))) : Sem (List (Nat × Nat))).run P w = .ok ps w := by
  intro l
  induction l with
  | nil => intro ps h w; simp at h; subst h; rfl
  | cons f l ih =>
    intro ps h w
    simp only [List.mapM_cons, Option.bind_eq_bind, Option.bind_eq_some_iff, Option.map_eq_some_iff] at h
    obtain ⟨p, ⟨s, hs, rfl⟩, ps', hps, h⟩ := h
    simp at h
    subst h
    simp only [List.mapM_cons, Sem.run_bind, run_sizeOf' hs, Result.andThen, Sem.run_pure, ih hps w]

theorem evBuild_run {μ : Mu} {t : TypeId} {parts : List (Nat × Value)} {parts' : Array (Nat × Value)} {v : Value} (hp : PR μ parts parts'.toList) (h : evBuild P t parts = some v) (w : World) :
    ∃ v', (Instr.build t parts').run P w = .ok v' w ∧ VR μ v v' := by
  unfold evBuild at h
  split at h
  · rename_i z fs hz hfs
    split at h
    · rename_i places hpl
      split at h
      · rename_i cells hc
        cases h
        obtain ⟨r', hr', hlr⟩ := fill_rel hp (LR_zero hz) hc
        refine ⟨.agg r', ?_, by simpa using hlr.agg⟩
        have hm := mapM_places (P := P) hpl w
        simp only [Instr.build, Sem.run_bind, run_zeroValue' hz, Result.andThen, run_underlying (fieldsT_some hfs), Array.mapM_eq_mapM_toList, Sem.run_map, hm]
        simp only [List.getElem?_toArray, hr']
        rfl
      · cases h
    · cases h
  · cases h

theorem run_buildSlice {w : World} {t e : TypeId} {len s : Nat} {z : Value} {parts : Array (Nat × Value)} {r : Array Value} (he : P.underlying t = some (.slice e)) (hs : szOf P e = some s) (hz : zeroOf P e = some z)
    (c1 : s ≠ 0) (c2 : z.cells.toList.length = s) (c3 : len * s ≤ 16777216) (hf : Instr.fill (fun i => some (i * s, s)) (zeroCellsL z.cells.toList len).toArray parts.toList = some r) :
    (Instr.buildSlice t len parts).run P w = .ok (.slice (some ⟨w.heap.size, 0, none⟩) len len) { w with heap := w.heap.push (.cells r.toList.toArray e) } := by
  have hb : ¬ (len * s > 2 ^ 24) := by omega
  by_cases h0 : len * s = 0
  · have hl0 : len = 0 := by
      rcases Nat.mul_eq_zero.1 h0 with h | h
      · exact h
      · exact absurd h c1
    subst hl0
    have e0 : (Array.range (0 * s)).map (fun x => (#[] : Array Value)[x % (#[] : Array Value).size]!) = (zeroCellsL z.cells.toList 0).toArray := by
      rw [Nat.zero_mul]
      apply Array.ext'
      simp [zeroCellsL]
    simp only [Instr.buildSlice, Sem.run_bind, run_underlying he, Result.andThen, run_sizeOf' hs, if_neg hb, if_pos h0, Sem.run_pure, e0, hf, newRow, run_newObj, Array.toArray_toList]
  · simp only [Instr.buildSlice, Sem.run_bind, run_underlying he, Result.andThen, run_sizeOf' hs, if_neg hb, if_neg h0, Sem.run_pure, run_zeroValue' hz, zeroCells_eq' c2, hf, newRow, run_newObj, Array.toArray_toList]

theorem evBuildSlice_made {μ : Mu} {H H' : AH} {w : World} {t : TypeId} {len : Nat} {parts : List (Nat × Value)} {parts' : Array (Nat × Value)} {v : Value} (hp : PR μ parts parts'.toList)
    (h : evBuildSlice P H t len parts = some (v, H')) : Made P μ w v H H' ((do pure (Next.value (← Instr.buildSlice t len parts')) : Sem Next).run P w) := by
  unfold evBuildSlice at h
  split at h
  · rename_i e he
    split at h
    · rename_i s z hs hz
      split at h
      · rename_i hc
        obtain ⟨c1, c2, c3⟩ := hc
        split at h
        · rename_i cells hcells
          split at h
          · rename_i hone
            cases h
            have hzz : LR μ (zeroCellsL z.cells.toList len).toArray.toList (zeroCellsL z.cells.toList len).toArray.toList := by
              obtain ⟨i, hi, hzi, hg⟩ := zeroOf_some hz
              exact LR.ground (by simpa using zeroCellsL_ground (ground_cells hg) len)
            obtain ⟨r', hr', hlr⟩ := fill_rel hp hzz hcells
            have hlen : cells.toList.length = len * s := by
              have key : ∀ {pl : Nat → Option (Nat × Nat)} {l : List (Nat × Value)} {c r : Array Value}, Instr.fill pl c l = some r → r.size = c.size := by
                intro pl l
                induction l with
                | nil => intro c r h; simp only [Instr.fill, Option.some.injEq] at h; rw [h]
                | cons x l ih =>
                  intro c r h
                  simp only [Instr.fill] at h
                  split at h
                  · cases h
                  · split at h
                    · cases h
                    · rw [ih h]
                      have fold : ∀ (l : List (Value × Nat)) (f : Value × Nat → Nat) (c : Array Value), (l.foldl (fun cs (x : Value × Nat) => cs.setIfInBounds (f x) x.1) c).size = c.size := by
                        intro l f
                        induction l with
                        | nil => intro c; rfl
                        | cons y l ih => intro c; simp only [List.foldl_cons]; rw [ih]; simp
                      rw [← Array.foldl_toList]
                      exact fold _ (fun x => _ + x.2) _
              have := key hcells
              simp [zeroCellsL_length] at this
              simp at c2
              simp [this, c2]
            refine ⟨_, _, e, s, .slice (some ⟨w.heap.size, 0, none⟩) len len, rfl, hlr, hs, ?_, fun μ' hm h3 => ?_⟩
            · have hrun := run_buildSlice (w := w) (elemT_some he) hs hz c1 c2 c3 hr'
              simp only [Sem.run_bind, hrun, Result.andThen, Sem.run_pure]
            · refine VR.slice h3 (Nat.le_refl _) ?_ (.inr ⟨?_, rfl, ?_⟩) (.inl rfl)
              · simp only; omega
              · have : len ≤ len * s := Nat.le_mul_of_pos_right len (by omega)
                unfold unk; omega
              · simp only; omega
          · cases h
        · cases h
      · cases h
    · cases h
  · cases h
end Go.Ae
