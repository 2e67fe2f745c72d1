/- The evaluator's operations, one by one, beside the model's. -/
import Derived.Test.YtfkmaoghehhloaaAe3
namespace Go.Ae
variable {P : Program}

theorem pureRun_run {α : Type} {e : Sem α} {a : α} (h : pureRun P e = some a) (w : World) : e.run P w = .ok a w := by
  induction e with
  | pure x => simp only [pureRun, Option.some.injEq] at h; subst h; rfl
  | program k ih => simp only [pureRun] at h; exact ih P h
  | mark m k ih => simp only [pureRun] at h; exact ih h
  | _ => simp [pureRun] at h

def FrR (μ : Mu) (fr : Fr) (a : Act) : Prop := ∀ t, VR μ (fr.at t) (a.tmps.getD t undef)
theorem FrR.mono {μ μ' : Mu} (hm : Mu.le μ μ') {fr : Fr} {a : Act} (h : FrR μ fr a) : FrR μ' fr a := fun t => (h t).mono hm
theorem FrR.ev {μ : Mu} {fr : Fr} {a : Act} (h : FrR μ fr a) {x : Operand} {v : Value} (hv : fr.ev x = some v) : VR μ v (a.eval x) := by
  cases x with
  | tmp t => simp only [Fr.ev, Option.some.injEq] at hv; subst hv; exact h t
  | const c =>
    simp only [Fr.ev] at hv
    split at hv
    · cases hv; exact .gr _ ‹_›
    · cases hv
  | func f => simp only [Fr.ev, Option.some.injEq] at hv; subst hv; exact .gr _ rfl
  | global g => simp [Fr.ev] at hv
theorem Fr.evD_of {fr : Fr} {x : Operand} {v : Value} (hv : fr.ev x = some v) : fr.evD x = v := by
  cases x with
  | tmp t => simpa [Fr.ev, Fr.evD] using hv
  | const c =>
    simp only [Fr.ev] at hv
    split at hv
    · simpa [Fr.evD] using hv
    · cases hv
  | func f => simpa [Fr.ev, Fr.evD] using hv
  | global g => simp [Fr.ev] at hv
theorem FrR.evs {μ : Mu} {fr : Fr} {a : Act} (h : FrR μ fr a) : ∀ {l : List Operand} {vs : List Value}, fr.evs l = some vs → LR μ vs (l.map a.eval) := by
  intro l
  induction l with
  | nil => intro vs hv; simp only [Fr.evs, Option.some.injEq] at hv; subst hv; exact LR.nil μ
  | cons x l ih =>
    intro vs hv
    simp only [Fr.evs] at hv
    split at hv
    · rename_i v vs' h1 h2
      cases hv
      exact LR.cons (h.ev h1) (ih h2)
    · cases hv

/-- What an operation comes to. -/
def Done (P : Program) (μ : Mu) (V : View) (w : World) (v : Value) (H' : AH) (r : Result Next) : Prop :=
  ∃ x v' w' μ', r = .ok x w' ∧ (x = .value v' ∨ (x = .skip ∧ v' = undef)) ∧ VR μ' v v' ∧ Rep P μ' H'.view w' ∧ Step μ V w μ' H'.view w'
theorem Done.same {μ : Mu} {H : AH} {w : World} {v v' : Value} {r : Result Next} (hr : Rep P μ H.view w) (h : r = .ok (.value v') w) (hv : VR μ v v') : Done P μ H.view w v H r :=
  ⟨_, v', w, μ, h, .inl rfl, hv, hr, Step.refl _ _ _⟩
theorem keep_some {H H' : AH} {o : Option Value} {v : Value} (h : keep H o = some (v, H')) : o = some v ∧ H' = H := by
  unfold keep at h
  split at h
  · cases h; exact ⟨rfl, rfl⟩
  · cases h

theorem evPlain_run {μ : Mu} {fr : Fr} {a : Act} (hf : FrR μ fr a) {o : Oper} {v : Value} (h : evPlain P fr o = some v) (hs : ∀ cs b, o.op ≠ .select cs b) (w : World) :
    (execOp a.eval o).run P w = .ok (.value v) w ∧ ground v = true := by
  unfold evPlain at h
  split at h
  · rename_i hall
    have he : execOp a.eval o = execOp fr.evD o := execOp_congr o hs fun x hx => by
      rw [List.all_eq_true] at hall
      have := hall x (by simpa using hx)
      unfold gnd at this
      split at this
      · rename_i u hu
        rw [Fr.evD_of hu]
        exact (hf.ev hu).ground_eq this
      · cases this
    split at h
    · rename_i u hu
      split at h
      · rename_i hg
        cases h
        exact ⟨by rw [he]; exact pureRun_run hu w, hg⟩
      · cases h
    · cases h
  · cases h

theorem szOf_some {t : TypeId} {s : Nat} (h : szOf P t = some s) : ∃ i, P.info? t = some i ∧ i.size = s := by
  simp only [szOf, Option.map_eq_some_iff] at h
  exact h
theorem run_sizeOf' {t : TypeId} {s : Nat} (h : szOf P t = some s) (w : World) : (sizeOf t).run P w = .ok s w := by
  obtain ⟨i, hi, rfl⟩ := szOf_some h
  simp [sizeOf, typeInfo, hi]
theorem run_isAgg' {t : TypeId} {b : Bool} (h : isAggT P t = some b) (w : World) : (isAgg t).run P w = .ok b w := by
  unfold isAggT at h
  split at h
  · rename_i fs hu; cases h; simp [isAgg, run_underlying hu]
  · rename_i n e hu; cases h; simp [isAgg, run_underlying hu]
  · rename_i d h1 h2 hu
    cases h
    simp only [isAgg, Sem.run_bind, run_underlying hu, Result.andThen]
    rfl
  · cases h
theorem zeroOf_some {t : TypeId} {z : Value} (h : zeroOf P t = some z) : ∃ i, P.info? t = some i ∧ i.zero = some z ∧ ground z = true := by
  unfold zeroOf at h
  split at h
  · rename_i i hi
    split at h
    · rename_i z' hz
      split at h
      · rename_i hg; cases h; exact ⟨i, hi, hz, hg⟩
      · cases h
    · cases h
  · cases h
theorem run_zeroValue' {t : TypeId} {z : Value} (h : zeroOf P t = some z) (w : World) : (zeroValue t).run P w = .ok z w := by
  obtain ⟨i, hi, hz, _⟩ := zeroOf_some h
  simp [zeroValue, typeInfo, hi, hz]
theorem ground_cells {z : Value} (h : ground z = true) : ∀ v ∈ z.cells.toList, ground v = true := by
  intro v hv
  cases z with
  | agg cs =>
    have h' : cs.toList.all (groundD 3) = true := by simpa only [ground, groundD] using h
    rw [List.all_eq_true] at h'
    exact groundD_mono (h' v hv)
  | _ => simp [Value.cells] at hv; subst hv; exact h
theorem LR_zero {μ : Mu} {t : TypeId} {z : Value} (h : zeroOf P t = some z) : LR μ z.cells.toList z.cells.toList := by
  obtain ⟨i, hi, hz, hg⟩ := zeroOf_some h
  exact LR.ground (ground_cells hg)
theorem elemT_some {t e : TypeId} (h : elemT P t = some e) : P.underlying t = some (.slice e) := by
  unfold elemT at h
  split at h
  · rename_i x hu; cases h; exact hu
  · cases h
theorem fieldsT_some {t : TypeId} {fs : Array Field} (h : fieldsT P t = some fs) : P.underlying t = some (.struct fs) := by
  unfold fieldsT at h
  split at h
  · rename_i x hu; cases h; exact hu
  · cases h

theorem add_at (c o j : Nat) : (⟨c, o, none⟩ : Addr).add j = ⟨c, o + j, none⟩ := by
  unfold Addr.add
  split <;> simp_all

/-- A new variable of the world's. -/
theorem done_push {μ : Mu} {H : AH} {w : World} {cells cells' : List Value} {t : TypeId} {s : Nat} (hr : Rep P μ H.view w) (hc : LR μ cells cells') (hs : szOf P t = some s) :
    ∃ μ', Rep P μ' (H.push cells t).view { w with heap := w.heap.push (.cells cells'.toArray t) } ∧ Step μ H.view w μ' (H.push cells t).view { w with heap := w.heap.push (.cells cells'.toArray t) } ∧
      μ' H.n = some ⟨w.heap.size, 0, cells.length, s, cells.length⟩ := by
  have hl := hc.1
  obtain ⟨μ', h1, h2, h3⟩ := rep_push (w' := { w with heap := w.heap.push (.cells cells'.toArray t) }) (arr := cells'.toArray) (fz := (0, 0)) hr (cells := cells) (elem := t) (k := s)
    (by simpa [hl] using hc) (by simp [hl]) hs (fun o _ => by simp [fzIn]) rfl rfl rfl rfl
  exact ⟨μ', h1, h2, by rw [h3]; simp [hl]⟩

/-- An operation that makes a variable, and does nothing else. -/
def Made (P : Program) (μ : Mu) (w : World) (v : Value) (H H' : AH) (r : Result Next) : Prop :=
  ∃ cells cells' t s v', H' = H.push cells t ∧ LR μ cells cells' ∧ szOf P t = some s ∧ r = .ok (.value v') { w with heap := w.heap.push (.cells cells'.toArray t) } ∧
    ∀ μ', Mu.le μ μ' → μ' H.n = some ⟨w.heap.size, 0, cells.length, s, cells.length⟩ → VR μ' v v'
theorem Made.done {μ : Mu} {w : World} {v : Value} {H H' : AH} {r : Result Next} (h : Made P μ w v H H' r) (hr : Rep P μ H.view w) : Done P μ H.view w v H' r := by
  obtain ⟨cells, cells', t, s, v', rfl, h1, h2, h3, h4⟩ := h
  obtain ⟨μ', q1, q2, q3⟩ := done_push hr h1 h2
  exact ⟨_, v', _, μ', h3, .inl rfl, h4 μ' q2.mono q3, q1, q2⟩
theorem evAlloc_made {μ : Mu} {H H' : AH} {w : World} {t : TypeId} {v : Value} (h : evAlloc P H t = some (v, H')) {ρ : Operand → Value} {o : Oper} (ho : o.op = .alloc t) :
    Made P μ w v H H' ((execOp ρ o).run P w) := by
  unfold evAlloc at h
  split at h
  · rename_i z hz
    split at h
    · cases h
      obtain ⟨i, hi, hzi, hg⟩ := zeroOf_some hz
      refine ⟨_, _, t, i.size, .pointer (some ⟨w.heap.size, 0, none⟩), rfl, LR_zero hz, by simp [szOf, hi], ?_, fun μ' hm h3 => .ptr h3⟩
      simp [execOp, ho, Instr.alloc, run_zeroValue' hz, newVar, newRow]
    · cases h
  · cases h
theorem evBox_made {μ : Mu} {H H' : AH} {w : World} {t : TypeId} {x x' v : Value} (hx : VR μ x x') (h : evBox P H t x = some (v, H')) :
    Made P μ w v H H' ((do pure (Next.value (← Instr.box t x')) : Sem Next).run P w) := by
  unfold evBox at h
  split at h
  · rename_i s hs
    split at h
    · cases h
      refine ⟨_, _, t, s, .pointer (some ⟨w.heap.size, 0, none⟩), rfl, hx.cells, hs, ?_, fun μ' hm h3 => .ptr h3⟩
      simp [Instr.box, newVar, newRow]
    · cases h
  · cases h

theorem cells_read {μ : Mu} {H : AH} {w : World} (hr : Rep P μ H.view w) {b : Nat} {e : Ent} {k : Blk} (hb : μ b = some e) (hk : H.rd b = some k) :
    ∃ g, H.view.t b = some k ∧ H.view.g k.grp = some g ∧ k.w = g.w ∧ k.cells.length = e.ln ∧ e.s + e.ln ≤ e.cz ∧ szOf P k.elem = some e.k ∧
      ∀ o n, o + n ≤ k.cells.length → ∃ l', LR μ ((k.cells.drop o).take n) l' ∧ ∀ (j : Nat) (v' : Value), l'[j]? = some v' → w.cell? ⟨e.c, e.s + o + j, none⟩ = some v' := by
  obtain ⟨hkt, g, hg, hw⟩ := rd_some hk
  obtain ⟨k1, arr, fz, h1, _, _, hh, hsz, hl, hfit, hkk, _⟩ := hr.blk b e hb
  rw [hkt] at h1; cases h1
  refine ⟨g, hkt, hg, hw, hl, hfit, hkk, fun o n hn => ⟨(arr.toList.drop (e.s + o)).take n, ⟨by simp; omega, fun i v v' hv hv' => ?_⟩, fun j v' hv' => ?_⟩⟩
  · have hi : i < n := by
      have := (List.getElem?_eq_some_iff.1 hv).1
      simp at this; omega
    rw [List.getElem?_take, if_pos hi, List.getElem?_drop] at hv hv'
    obtain ⟨u, hu, hvr⟩ := hr.cells b e k g hb hkt hg hw _ v hv
    rw [cell_of hh, ← Array.getElem?_toList, show e.s + (o + i) = e.s + o + i by omega, hv'] at hu
    cases hu
    exact hvr
  · have hj : j < n := by
      have := (List.getElem?_eq_some_iff.1 hv').1
      simp at this; omega
    rw [List.getElem?_take, if_pos hj, List.getElem?_drop, Array.getElem?_toList] at hv'
    rw [cell_of hh]
    exact hv'

theorem evLoad_run {μ : Mu} {H : AH} {w : World} {t : TypeId} {x x' v : Value} (hr : Rep P μ H.view w) (hx : VR μ x x') (h : evLoad P H t x = some v) :
    ∃ v' a, x' = .pointer (some a) ∧ (loadVar t a).run P w = .ok v' w ∧ VR μ v v' := by
  unfold evLoad at h
  split at h
  · rename_i b o
    obtain ⟨e, hb, rfl⟩ := hx.ptr_inv
    split at h
    · rename_i k s hk hs ha
      split at h
      · rename_i hle
        cases h
        obtain ⟨g, hkt, hg, hw, hl, hfit, hkk, hread⟩ := cells_read hr hb hk
        obtain ⟨l', hlr, hcell⟩ := hread o s hle
        have hl' : l'.length = s := by rw [← hlr.1]; simp; omega
        refine ⟨.agg l'.toArray, _, rfl, ?_, hlr.agg⟩
        have := run_loadCells_list (P := P) w ⟨e.c, e.s + o, none⟩ l' (fun j v' hv' => by rw [add_at]; exact hcell j v' hv')
        rw [hl'] at this
        simp [loadVar, run_isAgg' ha, run_sizeOf' hs, this]
      · cases h
    · rename_i k s hk hs ha
      obtain ⟨g, hkt, hg, hw, hl, hfit, hkk, hread⟩ := cells_read hr hb hk
      obtain ⟨v', hv', hvr⟩ := hr.cells b e k g hb hkt hg hw o v h
      exact ⟨v', _, rfl, by simp [loadVar, run_isAgg' ha, hv'], hvr⟩
    · cases h
  · cases h

/-- Cells are stored. -/
theorem run_storeCells' (c o : Nat) (t : TypeId) (fz : Nat × Nat) : ∀ (vs : List Value) (i : Nat) (cur : Array Value) (w : World), w.heap[c]? = some (.cells cur t fz) → o + i + vs.length ≤ cur.size →
    (∀ q, q < cur.size → fzIn fz q = false) → (∀ v ∈ vs, v.oneCell' = true) →
    (storeCells ⟨c, o, none⟩ vs i).run P w = .ok () (w.setRow c (cur.toList.take (o + i) ++ vs ++ cur.toList.drop (o + i + vs.length)).toArray)
  | [], i, cur, w, hg, _, _, _ => by
    simp only [storeCells, List.append_nil, List.length_nil, Nat.add_zero, List.take_append_drop, Array.toArray_toList]
    rw [setRow_self w c cur t fz hg]
    rfl
  | v :: rest, i, cur, w, hg, hl, hfz, h1 => by
    have hi : o + i < cur.size := by simp at hl; omega
    have hcell : w.cell? ⟨c, o + i, none⟩ = some cur[o + i] := by rw [cell_of hg]; simp [hi]
    have hfro : w.frozen? ⟨c, o + i, none⟩ = false := by rw [frozen_of hg]; exact hfz _ hi
    have hset : w.setCell ⟨c, o + i, none⟩ v = w.setRow c (cur.setIfInBounds (o + i) v) := by
      have hlt : c < w.heap.size := (Array.getElem?_eq_some_iff.1 hg).1
      have hv : w.heap[c] = .cells cur t fz := (Array.getElem?_eq_some_iff.1 hg).2
      unfold World.setCell World.setRow
      congr 1
      apply Array.ext
      · simp
      · intro j h1 h2
        simp only [Array.getElem_modify]
        split
        · subst_vars; simp [hv]
        · rfl
    have hst : (store ((⟨c, o, none⟩ : Addr).add i) v).run P w = .ok () (w.setRow c (cur.setIfInBounds (o + i) v)) := by
      rw [add_at, run_store P w _ v _ (h1 v (by simp)), hcell]
      simp [hfro, hset]
    have ih := run_storeCells' c o t fz rest (i + 1) (cur.setIfInBounds (o + i) v) (w.setRow c (cur.setIfInBounds (o + i) v)) (setRow_heap w c cur _ t _ hg) (by simp at hl ⊢; omega) (fun q hq => hfz q (by simpa using hq)) (fun x hx => h1 x (by simp [hx]))
    simp only [storeCells, Sem.run_bind, hst, Result.andThen_ok, ih, setRow_setRow]
    congr 3
    have e := list_seg_step cur.toList (o + i) v rest (by simp at hl ⊢; omega)
    simpa [Array.toList_setIfInBounds, Nat.add_assoc] using e

theorem setRow_heap' {w : World} {g : Nat} {cs : Array Value} (k : Nat) (h : k ≠ g) : (w.setRow g cs).heap[k]? = w.heap[k]? := setRow_other w g k cs h

/-- A block is written with cells at a place. -/
theorem done_wr {μ : Mu} {H H' : AH} {w : World} {b o : Nat} {e : Ent} {k : Blk} {new new' : List Value} (hr : Rep P μ H.view w) (hb : μ b = some e) (hk : H.rd b = some k)
    (hle : o + new.length ≤ k.cells.length) (hnew : LR μ new new') (h1 : new.all oneC = true) (h : H.wr b (splice k.cells o new) = some H') :
    ∃ w', (storeCells ⟨e.c, e.s + o, none⟩ new').run P w = .ok () w' ∧ Rep P μ H'.view w' ∧ Step μ H.view w μ H'.view w' := by
  obtain ⟨g, hkt, hg, hw, hl, hfit, hkk, hread⟩ := cells_read hr hb hk
  obtain ⟨k1, arr, fz, q1, _, _, hh, hsz, _, _, _, hfz⟩ := hr.blk b e hb
  rw [hkt] at q1; cases q1
  obtain ⟨k2, g2, hk2, hg2, hro, _⟩ := wr_some h
  rw [hkt] at hk2; cases hk2
  have hnl := hnew.1
  have hrun := run_storeCells' (P := P) e.c (e.s + o) k.elem fz new' 0 arr w hh (by omega) (fun q hq => hfz hro q (by omega)) (hnew.one h1)
  simp only [Nat.add_zero] at hrun
  refine ⟨_, hrun, ?_⟩
  refine rep_wr (arr := arr) (arr' := (arr.toList.take (e.s + o) ++ new' ++ arr.toList.drop (e.s + o + new'.length)).toArray) (t := k.elem) (fz := fz) hr h hb hh ?_ ?_ (setRow_heap w e.c arr _ k.elem fz hh) (fun c hc => setRow_heap' c hc) (by simp) (by simp) (by simp) (by simp)
  · simp; omega
  · -- cell by cell
    refine ⟨?_, fun i v v' hv hv' => ?_⟩
    · simp [splice]; omega
    · have hi : i < k.cells.length := by
        have := (List.getElem?_eq_some_iff.1 hv).1
        simp [splice] at this; omega
      rw [List.getElem?_take, if_pos (by simp [splice]; omega), List.getElem?_drop] at hv'
      simp only [] at hv'
      simp only [splice] at hv
      have hl1 : (k.cells.take o).length = o := by simp; omega
      have hl2 : (arr.toList.take (e.s + o)).length = e.s + o := by simp; omega
      rw [List.append_assoc] at hv hv'
      by_cases c1 : i < o
      · rw [List.getElem?_append_left (by omega), List.getElem?_take, if_pos c1] at hv
        rw [List.getElem?_append_left (by omega), List.getElem?_take, if_pos (by omega), Array.getElem?_toList] at hv'
        obtain ⟨u, hu, hvr⟩ := hr.cells b e k g hb hkt hg hw i v hv
        rw [cell_of hh, hv'] at hu
        cases hu
        exact hvr
      · rw [List.getElem?_append_right (by omega), hl1] at hv
        rw [List.getElem?_append_right (by omega), hl2, show e.s + i - (e.s + o) = i - o by omega] at hv'
        by_cases c2 : i - o < new.length
        · rw [List.getElem?_append_left c2] at hv
          rw [List.getElem?_append_left (by omega)] at hv'
          exact hnew.2 _ v v' hv hv'
        · rw [List.getElem?_append_right (by omega), List.getElem?_drop] at hv
          rw [List.getElem?_append_right (by omega), List.getElem?_drop, Array.getElem?_toList] at hv'
          obtain ⟨u, hu, hvr⟩ := hr.cells b e k g hb hkt hg hw _ v hv
          rw [cell_of hh, show e.s + (o + new.length + (i - o - new.length)) = e.s + o + new'.length + (i - o - new'.length) by omega, hv'] at hu
          cases hu
          exact hvr

theorem evStore_run {μ : Mu} {H H' : AH} {w : World} {t : TypeId} {x x' v v' : Value} (hr : Rep P μ H.view w) (hx : VR μ x x') (hv : VR μ v v') (h : evStore P H t v x = some H') :
    ∃ w' a, x' = .pointer (some a) ∧ (storeVar t a v').run P w = .ok () w' ∧ Rep P μ H'.view w' ∧ Step μ H.view w μ H'.view w' := by
  unfold evStore at h
  split at h
  · rename_i b o
    obtain ⟨e, hb, rfl⟩ := hx.ptr_inv
    split at h
    · rename_i k s hk hs
      split at h
      · rename_i hc
        obtain ⟨c1, c2, c3⟩ := hc
        obtain ⟨w', hrun, h1, h2⟩ := done_wr hr hb hk (by omega) hv.cells c2 h
        refine ⟨w', _, rfl, ?_, h1, h2⟩
        have hsz : v'.cells.size = s := by rw [← c1, ← Array.length_toList, hv.cells.1]
        simp [storeVar, run_sizeOf' hs, hsz, hrun]
      · cases h
    · cases h
  · cases h
end Go.Ae
