/- The evaluator's operations beside the model's: append, clear, cuts, texts. -/
import Derived.Test.YtfkmaoghehhloaaAe5
namespace Go.Ae
variable {P : Program}

theorem wrap_nat (n : Nat) (h : n ≤ 1073741824) : IntKind.i64.wrap (n : Int) = n := by
  simp [IntKind.wrap, IntKind.bits, IntKind.signed]
  omega

theorem evMakeSlice_made {μ : Mu} {H H' : AH} {w : World} {t : TypeId} {l l' c c' v : Value} (hl : VR μ l l') (hc : VR μ c c')
    (h : evMakeSlice P H t l c = some (v, H')) : Made P μ w v H H' ((do pure (Next.value (← Instr.makeSlice t l' c')) : Sem Next).run P w) := by
  unfold evMakeSlice at h
  split at h
  · rename_i e he
    split at h
    · rename_i s by_ z ln cn hs hby hz hln hcn
      split at h
      · rename_i hcond
        obtain ⟨c1, c2, c3, c4, c5, c6⟩ := hcond
        cases h
        obtain ⟨k1, rfl⟩ := natOf_some hln
        obtain ⟨k2, rfl⟩ := natOf_some hcn
        have := hl.int; subst this
        have := hc.int; subst this
        obtain ⟨i, hi, hzi, hg⟩ := zeroOf_some hz
        have hbi : i.bytes = by_ := by simpa [byOf, hi] using hby
        have hlr : LR μ (zeroCellsL z.cells.toList cn) (zeroCellsL z.cells.toList cn) := LR.ground (zeroCellsL_ground (ground_cells hg) cn)
        refine ⟨_, _, e, s, .slice (some ⟨w.heap.size, 0, none⟩) ln cn, rfl, hlr, hs, ?_, fun μ' hm h3 => ?_⟩
        · have w1 := wrap_nat ln (by omega)
          have w2 := wrap_nat cn (by omega)
          have hb : ¬ ((2 : Int) ^ 48 < (by_ : Int) * (cn : Int)) := by
            have h1 : by_ * cn ≤ 68719476736 := Nat.mul_le_mul c4 c3
            have h2 : ((by_ * cn : Nat) : Int) ≤ ((68719476736 : Nat) : Int) := Int.ofNat_le.2 h1
            rw [Int.natCast_mul] at h2
            generalize (by_ : Int) * (cn : Int) = q at h2 ⊢
            omega
          have hcond : (decide ((cn : Int) < 0) || decide ((by_ : Int) * (cn : Int) > 2 ^ 48) || decide ((ln : Int) < 0) || decide ((ln : Int) > (cn : Int))) = false := by
            rw [decide_eq_false (p := (cn : Int) < 0) (by omega), decide_eq_false (p := (by_ : Int) * (cn : Int) > 2 ^ 48) hb, decide_eq_false (p := (ln : Int) < 0) (by omega), decide_eq_false (p := (ln : Int) > (cn : Int)) (by omega)]
            rfl
          by_cases h0 : cn * s = 0
          · have hc0 : cn = 0 := by
              rcases Nat.mul_eq_zero.1 h0 with h | h
              · exact h
              · exact absurd h c1
            subst hc0
            have e0 : (Array.range (0 * s)).map (fun x => (#[] : Array Value)[x % (#[] : Array Value).size]!) = (zeroCellsL z.cells.toList 0).toArray := by
              rw [Nat.zero_mul]
              apply Array.ext'
              simp [zeroCellsL]
            simp only [Instr.makeSlice, Sem.run_bind, run_underlying (elemT_some he), Result.andThen, asInt, asIntOf, Sem.run_pure, typeInfo, run_program, hi, w1, w2, hbi, hcond, Bool.false_eq_true, if_false, run_askRoom, run_sizeOf' hs, Int.toNat_natCast, if_pos h0, e0, newRow, run_newObj]
          · simp only [Instr.makeSlice, Sem.run_bind, run_underlying (elemT_some he), Result.andThen, asInt, asIntOf, Sem.run_pure, typeInfo, run_program, hi, w1, w2, hbi, hcond, Bool.false_eq_true, if_false, run_askRoom, run_sizeOf' hs, Int.toNat_natCast, if_neg h0, run_zeroValue' hz, zeroCells_eq' c5, newRow, run_newObj]
        · refine VR.slice h3 c2 ?_ (.inr ⟨?_, rfl, ?_⟩) (.inl rfl)
          · simp only [zeroCellsL_length]; rw [c5]; have := Nat.mul_le_mul_right s c2; omega
          · unfold unk; omega
          · simp only [zeroCellsL_length]; rw [c5]; omega
      · cases h
    · cases h
  · cases h

theorem run_bound {v : Value} {n y : Nat} {code : BoundsCode} (h : natOf v = some n) (hy : n ≤ y) (w : World) : (Instr.sliceBound v y code).run P w = .ok n w := by
  obtain ⟨k, rfl⟩ := natOf_some h
  simp [Instr.sliceBound, asIntOf, hy]

theorem natOf_same {μ : Mu} {v v' : Value} {n : Nat} (hv : VR μ v v') (h : natOf v = some n) : natOf v' = some n := by
  obtain ⟨k, rfl⟩ := natOf_some h
  have := hv.int
  subst this
  exact h

/-- Bounds alike. -/
def OR (μ : Mu) : Option Value → Option Value → Prop
  | none, none => True
  | some v, some v' => VR μ v v'
  | _, _ => False

theorem run_bounds {μ : Mu} {lo lo' hi hi' mx mx' : Option Value} (hl : OR μ lo lo') (hh : OR μ hi hi') (hm : OR μ mx mx') {l h m len cap : Nat} (h1 : natOfo lo 0 = some l) (h2 : natOfo hi len = some h)
    (h3 : natOfo mx cap = some m) (hmx : mx.isSome = true → hi.isSome = true) (hlh : l ≤ h) (hhm : h ≤ m) (hmc : m ≤ cap) (w : World) :
    (Instr.sliceBounds true len cap lo' hi' mx').run P w = .ok (l, h, m) w := by
  cases mx with
  | none =>
    cases mx' with
    | some _ => exact hm.elim
    | none =>
      simp only [natOfo, Option.some.injEq] at h3
      subst h3
      cases hi with
      | none =>
        cases hi' with
        | some _ => exact hh.elim
        | none =>
          simp only [natOfo, Option.some.injEq] at h2
          subst h2
          cases lo with
          | none =>
            cases lo' with
            | some _ => exact hl.elim
            | none =>
              simp only [natOfo, Option.some.injEq] at h1
              subst h1
              simp [Instr.sliceBounds]
          | some v =>
            cases lo' with
            | none => exact hl.elim
            | some v' => simp [Instr.sliceBounds, run_bound (natOf_same hl h1) hlh]
      | some u =>
        cases hi' with
        | none => exact hh.elim
        | some u' =>
          cases lo with
          | none =>
            cases lo' with
            | some _ => exact hl.elim
            | none =>
              simp only [natOfo, Option.some.injEq] at h1
              subst h1
              simp [Instr.sliceBounds, run_bound (natOf_same hh h2) hhm]
          | some v =>
            cases lo' with
            | none => exact hl.elim
            | some v' => simp [Instr.sliceBounds, run_bound (natOf_same hl h1) hlh, run_bound (natOf_same hh h2) hhm]
  | some x =>
    cases mx' with
    | none => exact hm.elim
    | some x' =>
      cases hi with
      | none => simp at hmx
      | some u =>
        cases hi' with
        | none => exact hh.elim
        | some u' =>
          cases lo with
          | none =>
            cases lo' with
            | some _ => exact hl.elim
            | none =>
              simp only [natOfo, Option.some.injEq] at h1
              subst h1
              simp [Instr.sliceBounds, run_bound (natOf_same hh h2) hhm, run_bound (natOf_same hm h3) hmc]
          | some v =>
            cases lo' with
            | none => exact hl.elim
            | some v' => simp [Instr.sliceBounds, run_bound (natOf_same hl h1) hlh, run_bound (natOf_same hh h2) hhm, run_bound (natOf_same hm h3) hmc]

theorem natOfo_change {v : Option Value} {a b n : Nat} (h : natOfo v a = some n) (hs : v.isSome = true) : natOfo v b = some n := by
  cases v with
  | none => simp at hs
  | some v => exact h

theorem evSlice_run {μ : Mu} {H : AH} {w : World} {t e : TypeId} {x x' v : Value} {lo lo' hi hi' mx mx' : Option Value} (hr : Rep P μ H.view w) (he : elemT P t = some e) (hx : VR μ x x') (hl : OR μ lo lo') (hh : OR μ hi hi') (hm : OR μ mx mx')
    (h : evSlice P H e x lo hi mx = some v) : ∃ v', (Instr.sliceAt t x' lo' hi' mx').run P w = .ok v' w ∧ VR μ v v' := by
  have hu := elemT_some he
  unfold evSlice at h
  split at h
  · cases h
  rename_i s hs
  split at h
  · rename_i n c
    have := hx.nilSlice
    subst this
    split at h
    · rename_i l hb hl1 hh1
      split at h
      · rename_i hc
        obtain ⟨rfl, rfl, rfl, rfl⟩ := hc
        cases h
        have hb := run_bounds (P := P) (len := 0) (cap := 0) hl hh hm hl1 hh1 (m := 0) rfl (by simp) (Nat.le_refl _) (Nat.le_refl _) (Nat.le_refl _) w
        refine ⟨.slice none 0 0, ?_, .gr _ rfl⟩
        simp [Instr.sliceAt, run_underlying hu, Instr.slice, hb, run_sizeOf' hs]
      · cases h
    · cases h
  · rename_i b o n c
    obtain ⟨en, a', c', hb, rfl, hn, hln, hc, ha⟩ := hx.slice_inv
    split at h
    · rename_i k l hgh hk hl1 hh1
      split at h
      · cases h
      · rename_i hnot
        have hs0 : s ≠ 0 := fun q => hnot (.inl q)
        have hke : k.elem = e := Classical.byContradiction fun q => hnot (.inr q)
        obtain ⟨k9, _, _, hk9, _, _, _, _, hlen, hfit, hkk, _⟩ := hr.blk b en hb
        have hkt : H.view.t b = some k := hk
        rw [hkt] at hk9; cases hk9
        have hsk : en.k = s := by rw [hke, hs] at hkk; cases hkk; rfl
        have hol : o ≤ k.cells.length := by omega
        -- the capacity that is known is not beyond what there is
        have hcap : topOf k o s c ≤ c' ∧ o + topOf k o s c * s ≤ en.ln := by
          unfold topOf
          rcases hc with ⟨q1, q2, q3⟩ | ⟨q1, q2, q3⟩
          · rw [if_pos q1]
            rw [hsk] at q2
            have := Nat.div_mul_le_self (k.cells.length - o) s
            exact ⟨Nat.div_le_of_le_mul (by rw [Nat.mul_comm]; omega), by omega⟩
          · rw [if_neg (by omega)]; rw [hsk] at q3; exact ⟨by omega, q3⟩
        obtain ⟨hcap, hcapl⟩ := hcap
        -- what comes out, at a bound m that is known or not
        have fin : ∀ m : Nat, (Instr.sliceBounds true n c' lo' hi' mx').run P w = .ok (l, hgh, m) w →
            (Instr.sliceAt t (.slice (some a') n c') lo' hi' mx').run P w = .ok (.slice (some (if m = l then a' else a'.add (l * s))) (hgh - l) (m - l)) w := by
          intro m hbd
          simp only [Instr.sliceAt, Sem.run_bind, run_underlying hu, Result.andThen, Instr.slice, hbd, run_sizeOf' hs, Sem.run_pure]
          split <;> rfl
        have addr : ∀ m : Nat, l ≤ m → m ≤ c' → (if m = l then a' else a'.add (l * s)) = ⟨en.c, en.s + (o + l * s), none⟩ ∨ m - l = 0 := by
          intro m h1 h2
          by_cases hml : m = l
          · right; omega
          · left
            rw [if_neg hml]
            rcases ha with rfl | h0
            · rw [add_at]; simp [Nat.add_assoc]
            · omega
        have arith : ∀ m : Nat, l ≤ m → o + l * s + (m - l) * s = o + m * s := fun m hm => by
          rw [Nat.add_assoc, ← Nat.add_mul]; congr 2; omega
        split at h
        · rename_i mv
          split at h
          · rename_i m hmn
            split at h
            · rename_i hcond
              obtain ⟨d1, d2, d3, d4, d5⟩ := hcond
              cases h
              have hmc : m ≤ c' := Nat.le_trans d4 hcap
              have hbd := run_bounds (P := P) (len := n) (cap := c') hl hh hm hl1 hh1 (m := m) hmn (fun _ => d1) d2 d3 hmc w
              have e2 : m * s ≤ topOf k o s c * s := Nat.mul_le_mul_right s d4
              have e3 : hgh * s ≤ m * s := Nat.mul_le_mul_right s d3
              refine ⟨_, fin m hbd, VR.slice hb (by omega) ?_ (.inr ⟨by omega, rfl, ?_⟩) (addr m (by omega) hmc)⟩
              · rw [hsk, arith _ d2]; omega
              · rw [hsk, arith _ (by omega)]; omega
            · cases h
          · cases h
        · split at h
          · rename_i hcond
            obtain ⟨d2, d4⟩ := hcond
            cases h
            have hmc : hgh ≤ c' := Nat.le_trans d4 hcap
            have hbd := run_bounds (P := P) (len := n) (cap := c') hl hh hm hl1 hh1 (m := c') rfl (by simp) d2 hmc (Nat.le_refl _) w
            have e2 : hgh * s ≤ topOf k o s c * s := Nat.mul_le_mul_right s d4
            refine ⟨_, fin c' hbd, VR.slice hb (by omega) ?_ ?_ (addr c' (by omega) (Nat.le_refl _))⟩
            · rw [hsk, arith _ d2]; omega
            · rcases hc with ⟨q1, q2, q3⟩ | ⟨q1, q2, q3⟩
              · left
                rw [hsk] at q2 q3
                rw [hsk, arith _ (by omega)]
                refine ⟨by rw [capOf, if_pos q1], by omega, ?_⟩
                have := arith c' (by omega)
                omega
              · right
                rw [hsk] at q3
                subst q2
                rw [hsk, show capOf c' l = c' - l by rw [capOf, if_neg (by omega)], arith _ (by omega)]
                exact ⟨by omega, rfl, q3⟩
          · cases h
    · cases h
  · cases h
end Go.Ae
