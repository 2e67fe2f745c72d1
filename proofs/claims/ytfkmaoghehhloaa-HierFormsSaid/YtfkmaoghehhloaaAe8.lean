/- The evaluator's operations beside the model's: all of them. -/
import Derived.Test.YtfkmaoghehhloaaAe7
set_option linter.unusedVariables false
set_option linter.unusedSimpArgs false
namespace Go.Ae
variable {P : Program}

theorem evClear_run {μ : Mu} {H H' : AH} {w : World} {t ty : TypeId} {ts : List TypeId} {x x' : Value} {xs : List Value} (hr : Rep P μ H.view w) (hx : VR μ x x') (hu0 : (P.underlying t).isSome) (h : evClear P H t x = some H') :
    ∃ w', (Builtin.clear_ (t :: ts).toArray ty (x' :: xs).toArray).run P w = .ok (.tuple #[]) w' ∧ Rep P μ H'.view w' ∧ Step μ H.view w μ H'.view w' := by
  obtain ⟨d, hd⟩ := Option.isSome_iff_exists.1 hu0
  unfold evClear at h
  split at h
  · rename_i n c
    have := hx.nilSlice
    subst this
    cases h
    refine ⟨w, ?_, hr, Step.refl _ _ _⟩
    cases d <;> simp [Builtin.clear_, run_underlying hd]
  · rename_i b o n c
    obtain ⟨en, a', c', hb, rfl, hn, hl, hc, ha⟩ := hx.slice_inv
    split at h
    · rename_i h0
      cases h
      subst h0
      refine ⟨w, ?_, hr, Step.refl _ _ _⟩
      cases d <;> simp [Builtin.clear_, run_underlying hd]
    · rename_i h0
      split at h
      · rename_i e he
        have hu := elemT_some he
        split at h
        · rename_i s z k hs hz hk
          split at h
          · rename_i hcond
            obtain ⟨c1, c2, c3⟩ := hcond
            obtain ⟨i, hi, hzi, hg⟩ := zeroOf_some hz
            have hlr : LR μ (zeroCellsL z.cells.toList n) (zeroCellsL z.cells.toList n) := LR.ground (zeroCellsL_ground (ground_cells hg) n)
            have ha' : a' = ⟨en.c, en.s + o, none⟩ := by rcases ha with q | q; exact q; omega
            subst ha'
            obtain ⟨w', q1, q2, q3⟩ := done_wr hr hb hk (by rw [zeroCellsL_length, c1]; exact c3) hlr (zeroCellsL_one c2 n) h
            refine ⟨w', ?_, q2, q3⟩
            have hzc : Builtin.zeroCells z.cells n = (zeroCellsL z.cells.toList n).toArray := zeroCells_eq z.cells n
            cases n with
            | zero => exact absurd rfl h0
            | succ n => simp [Builtin.clear_, run_underlying hu, run_zeroValue' hz, hzc, q1]
          · cases h
        · cases h
      · cases h
  · cases h

theorem numsOf_some : ∀ {l : List Value} {ns : List Int}, numsOf l = some ns → l = ns.map (Value.int .u8) := by
  intro l
  induction l with
  | nil => intro ns h; simp only [numsOf, Option.some.injEq] at h; subst h; rfl
  | cons v l ih =>
    intro ns h
    unfold numsOf at h
    split at h
    · cases ‹v :: l = []›
    · rename_i n vs heq
      injection heq with h1 h2
      subst h1; subst h2
      split at h
      · rename_i bs hbs
        cases h
        rw [ih hbs]
        rfl
      · cases h
    · cases h

theorem evText_run {μ : Mu} {H : AH} {w : World} {src dst : TypeId} {x x' v : Value} (hr : Rep P μ H.view w) (hx : VR μ x x') (hxs : ∃ a n c, x = .slice a n c) (h : evText P H src dst x = some v) :
    (convert src dst x').run P w = .ok v w ∧ ground v = true := by
  obtain ⟨a, n, c, rfl⟩ := hxs
  unfold evText at h
  split at h
  · rename_i e m cs he hd hcs
    have hu := elemT_some he
    split at h
    · rename_i h8
      have h8' : P.underlying e = some (.int .u8) := by
        unfold isU8 at h8
        split at h8
        · assumption
        · cases h8
      split at h
      · rename_i ns hns
        cases h
        refine ⟨?_, rfl⟩
        have hcsn := numsOf_some hns
        unfold evCells at hcs
        split at hcs
        · rename_i n' c' heq
          injection heq with e1 e2 e3
          subst e1; subst e2; subst e3
          have := hx.nilSlice
          subst this
          split at hcs
          · cases hcs
            have hns0 : ns = [] := by cases ns; rfl; simp at hcsn
            subst hns0
            exact run_convert_bytes_nil w src e hu h8' _ _ dst hd
          · cases hcs
        · rename_i b o n' c' heq
          injection heq with e1 e2 e3
          subst e1; subst e2; subst e3
          obtain ⟨en, a', c', hb, rfl, hn, hl, hc, ha⟩ := hx.slice_inv
          split at hcs
          · rename_i k hk
            split at hcs
            · rename_i hle
              cases hcs
              rw [Nat.mul_one] at hle hcsn
              obtain ⟨g, hkt, hg, hw, hlen, hfit, hkk, hread⟩ := cells_read hr hb hk
              obtain ⟨l', hlr, hcell⟩ := hread o _ hle
              have hll : ns.length = n := by
                have := congrArg List.length hcsn
                simp at this
                omega
              have hcellv : ∀ i, i < n → w.cell? ⟨en.c, en.s + o + i, none⟩ = some (.int .u8 (ns.getD i 0)) := fun i hi => by
                have hi2 : ((k.cells.drop o).take n)[i]? = some (.int .u8 (ns.getD i 0)) := by
                  rw [hcsn]
                  simp [List.getD, hll, hi]
                obtain ⟨v', hv', hvr⟩ := hlr.get hi2
                rw [hvr.int] at hv'
                exact hcell i _ hv'
              rcases ha with rfl | h0
              · exact run_convert_bytes_arg w src e hu h8' en.c (en.s + o) n c' ns hll hcellv dst hd
              · have hn0 : n = 0 := by omega
                subst hn0
                have : ns = [] := List.eq_nil_of_length_eq_zero hll
                subst this
                obtain ⟨q1, q2, q3⟩ := a'
                have := run_convert_bytes_string (P := P) w src dst e (some ⟨q1, q2, q3⟩) 0 c' hu h8' hd
                rw [this]
                simp [Conv.bytesToString, loadCells, loadCellsFrom, strOfNums]
                rfl
            · cases hcs
          · cases hcs
        · rename_i z hz; cases hz
        · cases hcs
      · cases h
    · cases h
  · cases h

theorem evBytes_done {μ : Mu} {H H' : AH} {w : World} {src dst : TypeId} {z : ByteArray} {v : Value} (hr : Rep P μ H.view w) (h : evBytes P H src dst z = some (v, H')) :
    ∃ v' w' μ', (convert src dst (.string z)).run P w = .ok v' w' ∧ VR μ' v v' ∧ Rep P μ' H'.view w' ∧ Step μ H.view w μ' H'.view w' := by
  unfold evBytes at h
  split at h
  · rename_i e hs he
    have hu := elemT_some he
    split at h
    · rename_i hcond
      simp only [Bool.and_eq_true, decide_eq_true_eq] at hcond
      obtain ⟨⟨h8, hsz⟩, hsz8⟩ := hcond
      have h8' : P.underlying e = some (.int .u8) := by
        unfold isU8 at h8
        split at h8
        · assumption
        · cases h8
      cases h
      have hcut : z.size ≤ (Question.appendCap z.size 0 e).cut (w.tape w.drawn (.appendCap z.size 0 e)) := cut_le _ _ _ _ (by omega)
      generalize hcap : (Question.appendCap z.size 0 e).cut (w.tape w.drawn (.appendCap z.size 0 e)) = cap at hcut
      have hds : z.data.size = z.size := rfl
      have hasz : (z.data.map (fun b => Value.int .u8 b.toNat) ++ Array.replicate (cap - z.size) (Value.int .u8 0)).size = cap := by
        simp [hds]; omega
      have hlr : LR μ (z.data.toList.map fun b => Value.int .u8 b.toNat) (z.data.toList.map fun b => Value.int .u8 b.toNat) :=
        LR.ground (fun v hv => by simp at hv; obtain ⟨b, _, rfl⟩ := hv; rfl)
      obtain ⟨μ', r1, r2, r3⟩ := rep_push (w' := { w with drawn := w.drawn + 1, heap := w.heap.push (.cells (z.data.map (fun b => Value.int .u8 b.toNat) ++ Array.replicate (cap - z.size) (Value.int .u8 0)) e (cap, cap + 1)) })
        (arr := z.data.map (fun b => Value.int .u8 b.toNat) ++ Array.replicate (cap - z.size) (Value.int .u8 0)) (fz := (cap, cap + 1)) hr (cells := z.data.toList.map fun b => Value.int .u8 b.toNat) (elem := e) (k := 1)
        (by
          have : (z.data.map (fun b => Value.int .u8 b.toNat) ++ Array.replicate (cap - z.size) (Value.int .u8 0)).toList.take (z.data.toList.map fun b => Value.int .u8 b.toNat).length = z.data.toList.map fun b => Value.int .u8 b.toNat := by
            simp only [Array.toList_append, Array.toList_map]
            exact List.take_left
          rw [this]; exact hlr) (by rw [hasz]; simp [hds]; exact hcut) (by simpa using hsz8) (fun o ho => by rw [hasz] at ho; simp [fzIn]; omega) rfl rfl rfl rfl
      refine ⟨.slice (some ⟨w.heap.size, 0, none⟩) z.size cap, _, μ', ?_, VR.slice r3 hcut ?_ (.inl ⟨rfl, ?_, ?_⟩) (.inl rfl), r1, r2⟩
      · simp only [convert, Sem.run_bind, run_underlying hs, run_underlying hu, run_underlying h8', Result.andThen, Conv.stringToBytes, run_choose, Question.forced, Bool.false_eq_true, if_false, hcap, newRow, run_newObj, Sem.run_pure, markStringish, run_shape, run_freeze]
        simp [World.shape?, World.freeze, hds]
        apply Array.ext
        · simp
        · intro i h1 h2
          simp only [Array.getElem_modify, Array.getElem_push]
          by_cases hi : i < w.heap.size
          · rw [if_neg (by omega)]
            simp [hi]
          · have : i = w.heap.size := by simp at h1; omega
            subst this
            simp
            omega
      · simp [hds]
      · simp [hds]; exact hcut
      · simp [hds]; omega
    · cases h
  · cases h

/-- A value, a heap. -/
theorem Done.of {μ : Mu} {H H' : AH} {w : World} {v : Value} {e : Sem Value} (h : ∃ v' w' μ', e.run P w = .ok v' w' ∧ VR μ' v v' ∧ Rep P μ' H'.view w' ∧ Step μ H.view w μ' H'.view w') :
    Done P μ H.view w v H' ((do pure (Next.value (← e)) : Sem Next).run P w) := by
  obtain ⟨v', w', μ', h1, h2, h3, h4⟩ := h
  exact ⟨.value v', v', w', μ', by simp [h1], .inl rfl, h2, h3, h4⟩
theorem Done.val {μ : Mu} {H : AH} {w : World} {v : Value} {e : Sem Value} (hr : Rep P μ H.view w) (h : ∃ v', e.run P w = .ok v' w ∧ VR μ v v') :
    Done P μ H.view w v H ((do pure (Next.value (← e)) : Sem Next).run P w) := by
  obtain ⟨v', h1, h2⟩ := h
  exact Done.of ⟨v', w, μ, h1, h2, hr, Step.refl _ _ _⟩
theorem Done.plain {μ : Mu} {H : AH} {w : World} {v : Value} {r : Result Next} (hr : Rep P μ H.view w) (h : r = .ok (.value v) w ∧ ground v = true) : Done P μ H.view w v H r :=
  Done.same hr h.1 (.gr _ h.2)

theorem evo_or {μ : Mu} {fr : Fr} {a : Act} (hf : FrR μ fr a) {x : Option Operand} {v : Option Value} (h : fr.evo x = some v) : OR μ v (x.map a.eval) := by
  cases x with
  | none => simp only [Fr.evo, Option.some.injEq] at h; subst h; trivial
  | some x =>
    simp only [Fr.evo] at h
    split at h
    · rename_i u hu; cases h; exact hf.ev hu
    · cases h

theorem evConvert_done {μ : Mu} {fr : Fr} {a : Act} {H H' : AH} {w : World} {o : Oper} {src dst : TypeId} {x : Operand} {v : Value} (hr : Rep P μ H.view w) (hf : FrR μ fr a) (ho : o.op = .convert src dst x)
    (h : evConvert P fr o H src dst x = some (v, H')) : Done P μ H.view w v H' ((execOp a.eval o).run P w) := by
  have hs : ∀ cs b, o.op ≠ .select cs b := fun cs b e => by rw [ho] at e; cases e
  have hex : execOp a.eval o = (do pure (Next.value (← convert src dst (a.eval x))) : Sem Next) := by simp [execOp, ho]
  have plain : (match evPlain P fr o with | some v => some (v, H) | none => none) = some (v, H') → Done P μ H.view w v H' ((execOp a.eval o).run P w) := fun h => by
    split at h
    · rename_i u hu; cases h; exact Done.plain hr (evPlain_run hf hu hs w)
    · cases h
  unfold evConvert at h
  split at h
  · rename_i p n c hx
    split at h
    · rename_i u hu
      cases h
      obtain ⟨q1, q2⟩ := evText_run hr (hf.ev hx) ⟨_, _, _, rfl⟩ hu
      rw [hex]
      exact Done.val hr ⟨v, q1, .gr _ q2⟩
    · cases h
  · rename_i z hx
    split at h
    · rename_i e he
      have := (hf.ev hx).string
      rw [hex, this]
      exact Done.of (evBytes_done hr h)
    · exact plain h
  · exact plain h
  · cases h

theorem evBuiltin_done {μ : Mu} {fr : Fr} {a : Act} {H H' : AH} {w : World} {o : Oper} {b : Builtin} {args : Array Operand} {argTypes : Array TypeId} {l : List Value} {v : Value} (hr : Rep P μ H.view w) (hf : FrR μ fr a)
    (ho : o.op = .call ⟨.builtin b, args, argTypes⟩) (hl : fr.evs args.toList = some l) (h : evBuiltin P fr o H b argTypes.toList l = some (v, H')) : Done P μ H.view w v H' ((execOp a.eval o).run P w) := by
  have hs : ∀ cs b, o.op ≠ .select cs b := fun cs b e => by rw [ho] at e; cases e
  have hlr := hf.evs hl
  have hmap : (args.map a.eval) = ((args.toList.map a.eval).toArray) := Array.ext' (by simp)
  have plain : (match evPlain P fr o with | some v => some (v, H) | none => none) = some (v, H') → Done P μ H.view w v H' ((execOp a.eval o).run P w) := fun h => by
    split at h
    · rename_i u hu; cases h; exact Done.plain hr (evPlain_run hf hu hs w)
    · cases h
  have hat : argTypes = argTypes.toList.toArray := by simp
  unfold evBuiltin at h
  split at h
  · -- len
    rename_i t ts x xs hts
    split at h
    · rename_i u hu
      cases h
      have hx := hlr.2 0 x
      cases hq : args.toList.map a.eval with
      | nil => have := hlr.1; rw [hq] at this; simp at this
      | cons x' xs' =>
        have hxr := hx x' rfl (by rw [hq]; rfl)
        obtain ⟨q1, q2⟩ := evLen_run hxr hu ts o.type xs' w
        refine Done.plain hr ⟨?_, q2⟩
        simp only [execOp, ho, resolve, invoke, builtin, Sem.run_bind, Sem.run_pure, Result.andThen, hmap, hq]
        rw [hat, hts, q1]
    · cases h
  · rename_i t ts x xs hts
    split at h
    · rename_i u hu
      cases h
      have hx := hlr.2 0 x
      cases hq : args.toList.map a.eval with
      | nil => have := hlr.1; rw [hq] at this; simp at this
      | cons x' xs' =>
        have hxr := hx x' rfl (by rw [hq]; rfl)
        obtain ⟨q1, q2⟩ := evCap_run hxr hu ts o.type xs' w
        refine Done.plain hr ⟨?_, q2⟩
        simp only [execOp, ho, resolve, invoke, builtin, Sem.run_bind, Sem.run_pure, Result.andThen, hmap, hq]
        rw [hat, hts, q1]
    · cases h
  · -- append
    rename_i t u ts x y hts
    obtain ⟨x', y', hq⟩ : ∃ x' y', args.toList.map a.eval = [x', y'] := by
      have := hlr.1
      cases hq : args.toList.map a.eval with
      | nil => rw [hq] at this; simp at this
      | cons p l =>
        cases l with
        | nil => rw [hq] at this; simp at this
        | cons q l =>
          cases l with
          | nil => exact ⟨p, q, rfl⟩
          | cons r l => rw [hq] at this; simp at this
    rw [hq] at hlr
    have hx := hlr.2 0 x x' rfl rfl
    have hy := hlr.2 1 y y' rfl rfl
    have fin : (∃ v' w' μ', (Builtin.append_ (t :: u :: ts).toArray o.type [x', y'].toArray).run P w = .ok v' w' ∧ VR μ' v v' ∧ Rep P μ' H'.view w' ∧ Step μ H.view w μ' H'.view w') → Done P μ H.view w v H' ((execOp a.eval o).run P w) := by
      rintro ⟨v', w', μ', q1, q2, q3, q4⟩
      refine ⟨.value v', v', w', μ', ?_, .inl rfl, q2, q3, q4⟩
      simp only [execOp, ho, resolve, invoke, builtin, Sem.run_bind, Sem.run_pure, Result.andThen, hmap, hq]
      rw [hat, hts, q1]
    split at h
    · rename_i k hu; exact fin (evAppend_done (zeros := true) hr hx hy ⟨k, hu⟩ h)
    · rename_i k hu; exact fin (evAppend_done (zeros := false) hr hx hy (.inl ⟨k, hu⟩) h)
    · rename_i hu; exact fin (evAppend_done (zeros := false) hr hx hy (.inr hu) h)
    · cases h
  · -- clear
    rename_i t ts x xs hts
    split at h
    · rename_i H1 hc
      cases h
      split at hc
      · rename_i hsome
        cases hq : args.toList.map a.eval with
        | nil => have := hlr.1; rw [hq] at this; simp at this
        | cons x' xs' =>
          have hxr := hlr.2 0 x x' rfl (by rw [hq]; rfl)
          obtain ⟨w', q1, q2, q3⟩ := evClear_run (ty := o.type) (ts := ts) (xs := xs') hr hxr hsome hc
          refine ⟨.value (.tuple #[]), _, w', μ, ?_, .inl rfl, .gr _ rfl, q2, q3⟩
          simp only [execOp, ho, resolve, invoke, builtin, Sem.run_bind, Sem.run_pure, Result.andThen, hmap, hq]
          rw [hat, hts, q1]
      · cases hc
    · cases h
  · exact plain h
  · exact plain h
  · cases h

/-- AN OPERATION THAT IS NO CALL OF A FUNCTION. -/
theorem evOp_done {μ : Mu} {fr : Fr} {a : Act} {H H' : AH} {w : World} {o : Oper} {v : Value} (hr : Rep P μ H.view w) (hf : FrR μ fr a) (h : evOp P fr o H = some (v, H')) :
    Done P μ H.view w v H' ((execOp a.eval o).run P w) := by
  unfold evOp at h
  split at h
  · rename_i x ho
    obtain ⟨q1, rfl⟩ := keep_some h
    exact Done.same hr (by simp [execOp, ho]) (hf.ev q1)
  · rename_i x ho
    obtain ⟨q1, rfl⟩ := keep_some h
    exact Done.same hr (by simp [execOp, ho]) (hf.ev q1)
  · rename_i c p q ho
    split at h
    · rename_i cv pv qv hc hp hq
      obtain ⟨q1, rfl⟩ := keep_some h
      unfold evPick at q1
      split at q1
      · rename_i t
        cases q1
        have hcv := (hf.ev hc).bool
        cases t with
        | true => exact Done.same hr (by simp [execOp, ho, hcv, asBool]) (hf.ev hp)
        | false => exact Done.same hr (by simp [execOp, ho, hcv, asBool]) (hf.ev hq)
      · cases q1
    · cases h
  · rename_i t ho
    exact (evAlloc_made h ho).done hr
  · rename_i t x ho
    split at h
    · rename_i xv hx
      have := (evBox_made (w := w) (hf.ev hx) h).done hr
      rwa [show execOp a.eval o = (do pure (Next.value (← Instr.box t (a.eval x))) : Sem Next) by simp [execOp, ho]]
    · cases h
  · rename_i t parts ho
    split at h
    · rename_i l hl
      obtain ⟨q1, rfl⟩ := keep_some h
      rw [show execOp a.eval o = (do pure (Next.value (← Instr.build t (parts.map fun (i, x) => (i, a.eval x)))) : Sem Next) by simp [execOp, ho]]
      refine Done.val hr (evBuild_run ?_ q1 w)
      simpa using evParts_rel hf hl
    · cases h
  · rename_i t len parts ho
    split at h
    · rename_i l hl
      rw [show execOp a.eval o = (do pure (Next.value (← Instr.buildSlice t len (parts.map fun (i, x) => (i, a.eval x)))) : Sem Next) by simp [execOp, ho]]
      exact (evBuildSlice_made (by simpa using evParts_rel hf hl) h).done hr
    · cases h
  · rename_i t x ho
    split at h
    · rename_i xv hx
      obtain ⟨q1, rfl⟩ := keep_some h
      obtain ⟨v', ad, e1, e2, e3⟩ := evLoad_run hr (hf.ev hx) q1
      rw [show execOp a.eval o = (do pure (Next.value (← Instr.loadAt t (a.eval x))) : Sem Next) by simp [execOp, ho]]
      exact Done.val hr ⟨v', by rw [e1]; simp [Instr.loadAt, Instr.sureAddr, e2], e3⟩
    · cases h
  · rename_i t p x ho
    split at h
    · rename_i pv xv hp hx
      split at h
      · rename_i H1 hst
        cases h
        obtain ⟨w', ad, e1, e2, e3, e4⟩ := evStore_run hr (hf.ev hp) (hf.ev hx) hst
        refine ⟨.skip, undef, w', μ, ?_, .inr ⟨rfl, rfl⟩, VR.undef μ, e3, e4⟩
        simp [execOp, ho, e1, Instr.storeAt, Instr.sureAddr, e2]
      · cases h
    · cases h
  · rename_i x ho
    split at h
    · rename_i xv hx
      obtain ⟨q1, rfl⟩ := keep_some h
      obtain ⟨rfl, ad, e1⟩ := evNil_run (hf.ev hx) q1
      have hxv := hf.ev hx
      rw [e1] at hxv
      exact Done.same hr (by simp [execOp, ho, e1]) hxv
    · cases h
  · rename_i op t x y yt ho
    obtain ⟨q1, rfl⟩ := keep_some h
    exact Done.plain hr (evBin_run hf ho q1 w)
  · rename_i op t x ho
    obtain ⟨q1, rfl⟩ := keep_some h
    exact Done.plain hr (evPlain_run hf q1 (fun cs b e => by rw [ho] at e; cases e) w)
  · rename_i t x i ho
    obtain ⟨q1, rfl⟩ := keep_some h
    exact Done.plain hr (evPlain_run hf q1 (fun cs b e => by rw [ho] at e; cases e) w)
  · rename_i src dst x ho
    exact evConvert_done hr hf ho h
  · rename_i f first captured ho
    split at h
    · rename_i l1 l2 h1 h2
      cases h
      refine Done.same hr (v' := .func (.func f) (first.map a.eval) (captured.map a.eval)) (by simp [execOp, ho, Instr.makeFunc]) ?_
      have r1 := hf.evs h1
      have r2 := hf.evs h2
      have e1 : first.map a.eval = (first.toList.map a.eval).toArray := Array.ext' (by simp)
      have e2 : captured.map a.eval = (captured.toList.map a.eval).toArray := Array.ext' (by simp)
      rw [e1, e2]
      exact .func (by simp [r1.1]) (by simp [r2.1]) r1.arr r2.arr
    · cases h
  · rename_i t x ho
    split at h
    · rename_i xv hx
      obtain ⟨q1, rfl⟩ := keep_some h
      rw [show execOp a.eval o = (do pure (Next.value (← Instr.makeInterface t (a.eval x))) : Sem Next) by simp [execOp, ho]]
      exact Done.val hr (evMakeInterface_run (hf.ev hx) q1 w)
    · cases h
  · rename_i t l c ho
    split at h
    · rename_i lv cv hl hc
      rw [show execOp a.eval o = (do pure (Next.value (← Instr.makeSlice t (a.eval l) (a.eval c))) : Sem Next) by simp [execOp, ho]]
      exact (evMakeSlice_made (hf.ev hl) (hf.ev hc) h).done hr
    · cases h
  · rename_i t x lo hi mx ho
    split at h
    · rename_i z hz
      obtain ⟨q1, rfl⟩ := keep_some h
      exact Done.plain hr (evPlain_run hf q1 (fun cs b e => by rw [ho] at e; cases e) w)
    · rename_i xv hx hns
      split at h
      · rename_i e lov hiv mxv he hlo hhi hmx
        obtain ⟨q1, rfl⟩ := keep_some h
        rw [show execOp a.eval o = (do pure (Next.value (← Instr.sliceAt t (a.eval x) (lo.map a.eval) (hi.map a.eval) (mx.map a.eval))) : Sem Next) by simp [execOp, ho]]
        exact Done.val hr (evSlice_run hr he (hf.ev ‹_›) (evo_or hf hlo) (evo_or hf hhi) (evo_or hf hmx) q1)
      · cases h
    · cases h
  · rename_i t x f ho
    split at h
    · rename_i xv hx
      obtain ⟨q1, rfl⟩ := keep_some h
      rw [show execOp a.eval o = (do pure (Next.value (← Instr.fieldAt t (a.eval x) f)) : Sem Next) by simp [execOp, ho]]
      exact Done.val hr (evFieldAddr_run (hf.ev hx) q1 w)
    · cases h
  · rename_i t x f ho
    split at h
    · rename_i xv hx
      obtain ⟨q1, rfl⟩ := keep_some h
      rw [show execOp a.eval o = (do pure (Next.value (← Instr.field t (a.eval x) f)) : Sem Next) by simp [execOp, ho]]
      exact Done.val hr (evField_run (hf.ev hx) q1 w)
    · cases h
  · rename_i t x i ho
    split at h
    · rename_i xv iv hx hi
      obtain ⟨q1, rfl⟩ := keep_some h
      rw [show execOp a.eval o = (do pure (Next.value (← Instr.indexAt t (a.eval x) (a.eval i))) : Sem Next) by simp [execOp, ho]]
      exact Done.val hr (evIndexAddr_run (hf.ev hx) (hf.ev hi) q1 w)
    · cases h
  · rename_i x i ho
    split at h
    · rename_i xv hx
      obtain ⟨q1, rfl⟩ := keep_some h
      rw [show execOp a.eval o = (do pure (Next.value (← Instr.extract (a.eval x) i)) : Sem Next) by simp [execOp, ho]]
      exact Done.val hr (evExtract_run (hf.ev hx) q1 w)
    · cases h
  · rename_i x xt t ho
    split at h
    · rename_i xv hx
      obtain ⟨q1, rfl⟩ := keep_some h
      rw [show execOp a.eval o = (do pure (Next.value (← Instr.typeAssert (a.eval x) xt t true)) : Sem Next) by simp [execOp, ho]]
      exact Done.val hr (evAssert_run (hf.ev hx) q1 w)
    · cases h
  · rename_i b args argTypes ho
    split at h
    · rename_i l hl
      exact evBuiltin_done hr hf ho hl h
    · cases h
  · cases h
end Go.Ae
