/- The evaluator's append, clear, conversions beside the model's. -/
import Derived.Test.YtfkmaoghehhloaaAe6
import Derived.Laws.AppendOwn
namespace Go.Ae
variable {P : Program}

set_option linter.unusedVariables false in
/-- What is appended: a slice's cells, a string's, so many zero values. -/
structure Src (P : Program) (w : World) (u e : TypeId) (s m : Nat) (y : Value) (new : List Value) : Prop where
  room : ∀ (t ty : TypeId) (ts : List TypeId) (base : Option Addr) (n c : Nat), P.underlying t = some (.slice e) → szOf P e = some s → n + m ≤ c → ∀ w', (match base with | some a => (storeCells (a.add (n * s)) new).run P w = .ok () w' | none => w' = w) →
    (Builtin.append_ (t :: u :: ts).toArray ty [.slice base n c, y].toArray).run P w = .ok (.slice base (n + m) c) w'
  grow : ∀ (t ty : TypeId) (ts : List TypeId) (base : Option Addr) (n c : Nat) (i : TypeInfo) (z : Value) (old : List Value), P.underlying t = some (.slice e) → szOf P e = some s → P.info? e = some i → i.zero = some z → ¬ (n + m ≤ c) →
    (n + m) * i.bytes ≤ 140737488355328 → n + m ≤ 9223372036854775807 → i.bytes ≠ 0 → (∀ w', w'.heap = w.heap → (Builtin.firstCells s n (.slice base n c)).run P w' = .ok old.toArray w') →
    ∃ cap w', (Builtin.append_ (t :: u :: ts).toArray ty [.slice base n c, y].toArray).run P w = .ok (.slice (some ⟨w.heap.size, 0, none⟩) (n + m) cap) w' ∧ n + m ≤ cap ∧
      w'.heap = w.heap.push (.cells (old.toArray ++ new.toArray ++ Builtin.zeroCells z.cells (cap - (n + m))) e) ∧ w'.os = w.os ∧ w'.tape = w.tape ∧ w'.output = w.output

theorem cut_le (need old e t : Nat) (h : need ≤ 9223372036854775807) : need ≤ (Question.appendCap need old e).cut t := by
  simp only [Question.cut]; omega

theorem grow_end {w : World} {e : TypeId} {n m c : Nat} {old new : List Value} {z : Value} {r : Result Value} (h63 : n + m ≤ 9223372036854775807)
    (h : r = .ok (.slice (some ⟨w.heap.size, 0, none⟩) (n + m) ((Question.appendCap (n + m) c e).cut (w.tape w.drawn (.appendCap (n + m) c e))))
      (w.drew.alloc (.cells (old.toArray ++ (new.toArray ++ Builtin.zeroCells z.cells ((Question.appendCap (n + m) c e).cut (w.tape w.drawn (.appendCap (n + m) c e)) - (n + m)))) e))) :
    ∃ cap w', r = .ok (.slice (some ⟨w.heap.size, 0, none⟩) (n + m) cap) w' ∧ n + m ≤ cap ∧
      w'.heap = w.heap.push (.cells (old.toArray ++ new.toArray ++ Builtin.zeroCells z.cells (cap - (n + m))) e) ∧ w'.os = w.os ∧ w'.tape = w.tape ∧ w'.output = w.output :=
  ⟨_, _, h, cut_le _ _ _ _ h63, by rw [Array.append_assoc]; rfl, rfl, rfl, rfl⟩

theorem Src.of_cells {w : World} {u e : TypeId} {s m : Nat} {y : Value} {new : List Value} (hd : (∃ x, P.underlying u = some (.slice x)) ∨ P.underlying u = some .string) (hlen : ∀ w', (Builtin.lenOf y).run P w' = .ok m w')
    (hcells : ∀ w', w'.heap = w.heap → (Builtin.firstCells s m y).run P w' = .ok new.toArray w') : Src P w u e s m y new where
  room := by
    intro t ty ts base n c hu hs hroom w' hst
    rcases hd with ⟨x, hd⟩ | hd
    all_goals
      cases base with
      | none =>
        simp only at hst
        subst hst
        simp [Builtin.append_, run_underlying hu, run_underlying hd, run_sizeOf' hs, hlen, hroom, hcells w' rfl]
      | some a =>
        simp only at hst
        simp [Builtin.append_, run_underlying hu, run_underlying hd, run_sizeOf' hs, hlen, hroom, hcells w rfl, hst]
  grow := by
    intro t ty ts base n c i z old hu hs hi hz hroom hby h63 hb0 hold
    have hgf : ¬ (281474976710656 < Builtin.nextslicecap (n + m) c * i.bytes) := by
      have := growslice_fits (need := n + m) (old := c) (bytes := i.bytes) (by omega) hby
      omega
    have h63' : ¬ (9223372036854775807 < ((n : Int) + (m : Int))) := by omega
    have hc1 := hcells w.drew rfl
    have ho1 := hold w.drew rfl
    refine grow_end (c := c) (z := z) h63 ?_
    rcases hd with ⟨x, hd⟩ | hd
    all_goals simp [Builtin.append_, run_underlying hu, run_underlying hd, run_sizeOf' hs, hlen, hroom, typeInfo, hi, hb0, hgf, Question.forced, ho1, hc1, zeroValue, hz, newRow]

theorem Src.of_zeros {w : World} {u e : TypeId} {k k' : IntKind} {s m : Nat} {z : Value} {i : TypeInfo} (hd : P.underlying u = some (.int k)) (hm : m ≤ 1048576) (hm0 : m ≠ 0) (hi : P.info? e = some i) (hby : i.bytes ≤ 65536)
    (hz : zeroOf P e = some z) (hs0 : s ≠ 0) : Src P w u e s m (.int k' m) (zeroCellsL z.cells.toList m) where
  room := by
    intro t ty ts base n c hu hs hroom w' hst
    have hw := wrap_nat m (by omega)
    have hb : ¬ (281474976710656 < (m : Int) * (i.bytes : Int)) := by
      have h1 : m * i.bytes ≤ 68719476736 := Nat.mul_le_mul hm hby
      have h2 : ((m * i.bytes : Nat) : Int) ≤ ((68719476736 : Nat) : Int) := Int.ofNat_le.2 h1
      rw [Int.natCast_mul] at h2
      generalize (m : Int) * (i.bytes : Int) = q at h2 ⊢
      omega
    have hzc : Builtin.zeroCells z.cells m = (zeroCellsL z.cells.toList m).toArray := zeroCells_eq z.cells m
    have h0 : ¬ ((m : Int) < 0) := by omega
    have hms : m * s ≠ 0 := Nat.mul_ne_zero hm0 hs0
    cases base with
    | none =>
      simp only at hst
      subst hst
      simp [Builtin.append_, run_underlying hu, run_underlying hd, run_sizeOf' hs, asInt, asIntOf, typeInfo, hi, hw, h0, hb, hroom, run_zeroValue' hz]
    | some a =>
      simp only at hst
      simp only [Builtin.append_, List.getElem?_toArray, List.getElem?_cons_zero, List.getElem?_cons_succ, Sem.run_bind, run_underlying hu, run_underlying hd, Result.andThen, Sem.run_pure, run_sizeOf' hs, asInt, asIntOf, typeInfo, run_program, hi, hw, if_neg h0, if_true]
      simp [hroom, hms, run_zeroValue' hz, hzc, hst, hb]
  grow := by
    intro t ty ts base n c i' z' old hu hs hi' hz' hroom hby' h63 hb0 hold
    rw [hi] at hi'; cases hi'
    have hzz : i.zero = some z := by obtain ⟨i2, q1, q2, _⟩ := zeroOf_some hz; rw [hi] at q1; cases q1; exact q2
    rw [hzz] at hz'; cases hz'
    have hw := wrap_nat m (by omega)
    have hb : ¬ (281474976710656 < (m : Int) * (i.bytes : Int)) := by
      have h1 : m * i.bytes ≤ 68719476736 := Nat.mul_le_mul hm hby
      have h2 : ((m * i.bytes : Nat) : Int) ≤ ((68719476736 : Nat) : Int) := Int.ofNat_le.2 h1
      rw [Int.natCast_mul] at h2
      generalize (m : Int) * (i.bytes : Int) = q at h2 ⊢
      omega
    have hzc : Builtin.zeroCells z.cells m = (zeroCellsL z.cells.toList m).toArray := zeroCells_eq z.cells m
    have h0 : ¬ ((m : Int) < 0) := by omega
    have hgf : ¬ (281474976710656 < Builtin.nextslicecap (n + m) c * i.bytes) := by
      have := growslice_fits (need := n + m) (old := c) (bytes := i.bytes) (by omega) hby'
      omega
    have h63' : ¬ (9223372036854775807 < ((n : Int) + (m : Int))) := by omega
    have h63'' : ((n : Int) + (m : Int)) ≤ 9223372036854775807 := by omega
    have ho1 := hold w.drew rfl
    refine grow_end (c := c) (z := z) h63 ?_
    have hms : m * s ≠ 0 := Nat.mul_ne_zero hm0 hs0
    simp [Builtin.append_, run_underlying hu, run_underlying hd, run_sizeOf' hs, asInt, asIntOf, typeInfo, hi, hw, h0, hb, hroom, hb0, hgf, Question.forced, ho1, zeroValue, hzz, hzc, newRow, IntKind.max, IntKind.bits, IntKind.signed, h63', hms]

theorem add_add (c o p q : Nat) : ((⟨c, o, none⟩ : Addr).add p).add q = ⟨c, o + p + q, none⟩ := by rw [add_at, add_at]

theorem evCells_run {μ : Mu} {H : AH} {w : World} {s m : Nat} {y y' : Value} {new : List Value} (hr : Rep P μ H.view w) (hs0 : s ≠ 0) (hy : VR μ y y') (h : evCells H s y = some (m, new)) :
    (∀ w', (Builtin.lenOf y').run P w' = .ok m w') ∧ ∃ new', LR μ new new' ∧ ∀ w', w'.heap = w.heap → (Builtin.firstCells s m y').run P w' = .ok new'.toArray w' := by
  unfold evCells at h
  split at h
  · rename_i n c
    have := hy.nilSlice
    subst this
    split at h
    · rename_i h0
      cases h
      subst h0
      exact ⟨fun w' => rfl, [], LR.nil μ, fun w' _ => rfl⟩
    · cases h
  · rename_i b o n c
    obtain ⟨e, a', c', hb, rfl, hn, hl, hc, ha⟩ := hy.slice_inv
    split at h
    · rename_i k hk
      split at h
      · rename_i hle
        cases h
        obtain ⟨g, hkt, hg, hw, hlen, hfit, hkk, hread⟩ := cells_read hr hb hk
        obtain ⟨l', hlr, hcell⟩ := hread o (m * s) hle
        refine ⟨fun w' => rfl, l', hlr, fun w' hw' => ?_⟩
        have hl' : l'.length = m * s := by rw [← hlr.1]; simp; omega
        rcases ha with rfl | h0
        · have := run_loadCells_list (P := P) w' ⟨e.c, e.s + o, none⟩ l' (fun j v' hv' => by rw [add_at, cell_heap (w := w) (by rw [hw'])]; exact hcell j v' hv')
          rw [hl'] at this
          exact this
        · have hm0 : m = 0 := by omega
          subst hm0
          have : l' = [] := List.eq_nil_of_length_eq_zero (by rw [hl']; simp)
          subst this
          simp [Builtin.firstCells, loadCells, loadCellsFrom]
      · cases h
    · cases h
  · rename_i z
    split at h
    · rename_i h1
      cases h
      subst h1
      have := hy.string
      subst this
      refine ⟨fun w' => rfl, z.data.toList.map fun b => .int .u8 b.toNat, LR.ground (fun v hv => by simp at hv; obtain ⟨b, _, rfl⟩ := hv; rfl), fun w' _ => ?_⟩
      simp [Builtin.firstCells]
      apply Array.ext'
      simp
    · cases h
  · cases h

theorem evNew_src {μ : Mu} {H : AH} {w : World} {e u : TypeId} {s m : Nat} {y y' : Value} {new : List Value} {zeros : Bool} {i : TypeInfo} (hr : Rep P μ H.view w) (hs0 : s ≠ 0) (hi : P.info? e = some i) (hby : i.bytes ≤ 65536)
    (hd : if zeros then ∃ k, P.underlying u = some (.int k) else (∃ x, P.underlying u = some (.slice x)) ∨ P.underlying u = some .string)
    (hy : VR μ y y') (h : evNew P H e s y zeros = some (m, new)) : ∃ new', LR μ new new' ∧ Src P w u e s m y' new' := by
  unfold evNew at h
  cases zeros with
  | false =>
    simp only [Bool.false_eq_true, if_false] at h hd
    obtain ⟨q1, new', q2, q3⟩ := evCells_run hr hs0 hy h
    exact ⟨new', q2, Src.of_cells hd q1 q3⟩
  | true =>
    simp only [if_true] at h hd
    obtain ⟨k, hd⟩ := hd
    split at h
    · rename_i n z hn hz
      split at h
      · rename_i hle
        cases h
        obtain ⟨k', rfl⟩ := natOf_some hn
        have := hy.int
        subst this
        obtain ⟨i2, q1, q2, hg⟩ := zeroOf_some hz
        refine ⟨_, LR.ground (zeroCellsL_ground (ground_cells hg) m), ?_⟩
        exact Src.of_zeros hd hle.2 hle.1 hi hby hz hs0
      · cases h
    · cases h

/-- A grown row bears what it should. -/
theorem done_grow {μ : Mu} {H : AH} {w w' : World} {e : TypeId} {s n m cap : Nat} {cells old new : List Value} {z : Value} (hr : Rep P μ H.view w) (hs : szOf P e = some s)
    (hlr : LR μ cells (old ++ new)) (hl : cells.length = (n + m) * s) (hz : z.cells.toList.length = s) (hcap : n + m ≤ cap)
    (hw : w'.heap = w.heap.push (.cells (old.toArray ++ new.toArray ++ Builtin.zeroCells z.cells (cap - (n + m))) e)) (ho : w'.os = w.os) (ht : w'.tape = w.tape) (hp : w'.output = w.output) :
    ∃ μ', Rep P μ' (H.push cells e).view w' ∧ Step μ H.view w μ' (H.push cells e).view w' ∧ VR μ' (.slice (some ⟨H.n, 0, none⟩) (n + m) unk) (.slice (some ⟨w.heap.size, 0, none⟩) (n + m) cap) := by
  have hlen := hlr.1
  have hzsz : (Builtin.zeroCells z.cells (cap - (n + m))).size = (cap - (n + m)) * s := by rw [size_zeroCells]; rw [← hz]; simp
  have hsz : (old.toArray ++ new.toArray ++ Builtin.zeroCells z.cells (cap - (n + m))).size = cap * s := by
    rw [Array.size_append, hzsz]
    have : old.toArray.size + new.toArray.size = (n + m) * s := by rw [← hl, hlen]; simp
    rw [Array.size_append, this, ← Nat.add_mul]
    congr 1
    omega
  obtain ⟨μ', h1, h2, h3⟩ := rep_push (w' := w') (arr := old.toArray ++ new.toArray ++ Builtin.zeroCells z.cells (cap - (n + m))) (fz := (0, 0)) hr (cells := cells) (elem := e) (k := s)
    (by
      have : (old.toArray ++ new.toArray ++ Builtin.zeroCells z.cells (cap - (n + m))).toList.take cells.length = old ++ new := by
        simp only [Array.toList_append, List.toList_toArray]
        rw [hlen]
        exact List.take_left
      rw [this]; exact hlr) (by rw [hsz, hl]; exact Nat.mul_le_mul_right s hcap) hs (fun o _ => by simp [fzIn]) hw ho ht hp
  refine ⟨μ', h1, h2, VR.slice h3 hcap (by simp only; omega) (.inl ⟨rfl, ?_, ?_⟩) (.inl rfl)⟩
  · simp only; rw [hl]; have := Nat.mul_le_mul_right s hcap; omega
  · simp only; rw [hsz]; omega

theorem evAppend_done {μ : Mu} {H H' : AH} {w : World} {t u ty : TypeId} {ts : List TypeId} {x x' y y' v : Value} {zeros : Bool} (hr : Rep P μ H.view w) (hx : VR μ x x') (hy : VR μ y y')
    (hd : if zeros then ∃ k, P.underlying u = some (.int k) else (∃ x, P.underlying u = some (.slice x)) ∨ P.underlying u = some .string)
    (h : evAppend P H t x y zeros = some (v, H')) : ∃ v' w' μ', (Builtin.append_ (t :: u :: ts).toArray ty [x', y'].toArray).run P w = .ok v' w' ∧ VR μ' v v' ∧ Rep P μ' H'.view w' ∧ Step μ H.view w μ' H'.view w' := by
  unfold evAppend at h
  split at h
  · rename_i e he
    have hu := elemT_some he
    split at h
    · rename_i s by_ z hs hby hz
      split at h
      · rename_i m new hnew
        split at h
        · rename_i hcond
          obtain ⟨c1, c2, c3, c4, c5, c6⟩ := hcond
          obtain ⟨i, hi, hzi, hg⟩ := zeroOf_some hz
          have hbi : i.bytes = by_ := by simpa [byOf, hi] using hby
          obtain ⟨new', hlr, hsrc⟩ := evNew_src (u := u) hr c1 hi (by omega) hd hy hnew
          have bound : ∀ q, q ≤ 1073741824 → q * i.bytes ≤ 140737488355328 := fun q hq => by
            have : q * i.bytes ≤ 1073741824 * 65536 := Nat.mul_le_mul hq (by omega)
            omega
          unfold evAppendTo at h
          split at h
          · rename_i n c
            have := hx.nilSlice
            subst this
            split at h
            · rename_i hc
              obtain ⟨rfl, rfl, hm⟩ := hc
              split at h
              · rename_i hm0
                cases h
                subst hm0
                exact ⟨_, w, μ, hsrc.room t ty ts none 0 0 hu hs (Nat.le_refl _) w rfl, .gr _ rfl, hr, Step.refl _ _ _⟩
              · rename_i hm0
                cases h
                obtain ⟨cap, w', q1, q2, q3, q4, q5, q6⟩ := hsrc.grow t ty ts none 0 0 i z [] hu hs hi hzi (by omega) (bound _ (by omega)) (by omega) (by omega) (fun w' _ => rfl)
                obtain ⟨μ', r1, r2, r3⟩ := done_grow (n := 0) (m := m) (cells := new) (old := []) (new := new') hr hs (by simpa using hlr) (by rw [Nat.zero_add]; exact c5) c4 (by omega) q3 q4 q5 q6
                simp only [Nat.zero_add] at q1 r3
                exact ⟨_, w', μ', q1, r3, r1, r2⟩
            · cases h
          · rename_i b o n c
            obtain ⟨en, a', c', hb, rfl, hn, hl, hc, ha⟩ := hx.slice_inv
            split at h
            · rename_i k hk
              split at h
              · rename_i hcc
                obtain ⟨d1, d2, d3⟩ := hcc
                obtain ⟨g, hkt, hg2, hw, hlen, hfit, hkk, hread⟩ := cells_read hr hb hk
                have hsk : en.k = s := by rw [d1, hs] at hkk; cases hkk; rfl
                rw [hsk] at hl hc
                obtain ⟨old', holr, hcell⟩ := hread o (n * s) d3
                have hol : old'.length = n * s := by rw [← holr.1]; simp; omega
                have hfirst : ∀ w', w'.heap = w.heap → (Builtin.firstCells s n (.slice (some a') n c')).run P w' = .ok old'.toArray w' := fun w' hw' => by
                  rcases ha with rfl | h0
                  · have := run_loadCells_list (P := P) w' ⟨en.c, en.s + o, none⟩ old' (fun j v' hv' => by rw [add_at, cell_heap (w := w) (by rw [hw'])]; exact hcell j v' hv')
                    rw [hol] at this
                    exact this
                  · have hn0 : n = 0 := by omega
                    subst hn0
                    have : old' = [] := List.eq_nil_of_length_eq_zero (by rw [hol]; simp)
                    subst this
                    simp [Builtin.firstCells, loadCells, loadCellsFrom]
                have hcl : ((k.cells.drop o).take (n * s) ++ new).length = (n + m) * s := by
                  rw [List.length_append, c5, Nat.add_mul]; simp; omega
                split at h
                · -- no room, for sure
                  rename_i hno
                  cases h
                  have hc' : c' = c := by rcases hc with ⟨q, _⟩ | ⟨_, q, _⟩; exact absurd q hno.1; exact q
                  obtain ⟨cap, w', q1, q2, q3, q4, q5, q6⟩ := hsrc.grow t ty ts (some a') n c' i z old' hu hs hi hzi (by omega) (bound _ d2) (by omega) (by omega) hfirst
                  obtain ⟨μ', r1, r2, r3⟩ := done_grow (n := n) (m := m) (old := old') (new := new') hr hs (holr.append hlr) hcl c4 q2 q3 q4 q5 q6
                  exact ⟨_, w', μ', q1, r3, r1, r2⟩
                · rename_i hno
                  split at h
                  · rename_i hm0
                    cases h
                    subst hm0
                    have hne : new' = [] := List.eq_nil_of_length_eq_zero (by rw [← hlr.1, c5]; simp)
                    subst hne
                    refine ⟨_, w, μ, hsrc.room t ty ts (some a') n c' hu hs (by omega) w rfl, hx, hr, Step.refl _ _ _⟩
                  · rename_i hm0
                    split at h
                    · -- in it, for sure
                      rename_i hin
                      split at h
                      · rename_i H1 hwr
                        cases h
                        have hroom : n + m ≤ c' := by
                          rcases hc with ⟨q1, q2, q3⟩ | ⟨q1, q2, q3⟩
                          · have : (n + m) * s ≤ c' * s := by omega
                            exact Nat.le_of_mul_le_mul_right this (by omega)
                          · have : ¬ (c ≠ unk ∧ c < n + m) := hno
                            have : c ≠ unk := by omega
                            omega
                        have ha' : a' = ⟨en.c, en.s + o, none⟩ := by rcases ha with q | q; exact q; omega
                        subst ha'
                        have e1 : o + n * s + new.length ≤ k.cells.length := by rw [c5]; rw [Nat.add_mul] at hin; omega
                        obtain ⟨w', q1, q2, q3⟩ := done_wr hr hb hk e1 hlr c6 hwr
                        refine ⟨_, w', μ, hsrc.room t ty ts (some ⟨en.c, en.s + o, none⟩) n c' hu hs hroom w' (by show (storeCells (Addr.add ⟨en.c, en.s + o, none⟩ (n * s)) new').run P w = _; rw [add_at, Nat.add_assoc]; exact q1), ?_, q2, q3⟩
                        refine VR.slice hb hroom (by rw [hsk]; omega) (by rw [hsk]; exact hc) (.inl rfl)
                      · cases h
                    · split at h
                      · -- behind it
                        rename_i hout
                        obtain ⟨rfl, hend⟩ := hout
                        have htk : (k.cells.drop o).take (n * s) = k.cells.drop o := List.take_of_length_le (by simp; omega)
                        split at h
                        · rename_i H1 hext
                          cases h
                          rcases hc with ⟨_, p2, p3⟩ | ⟨p1, _⟩
                          · by_cases hroom : n + m ≤ c'
                            · have ha' : a' = ⟨en.c, en.s + o, none⟩ := by rcases ha with q | q; exact q; omega
                              subst ha'
                              obtain ⟨k1, arr, fz, u1, _, _, hh, hsz, _, _, _, hfz⟩ := hr.blk b en hb
                              rw [hkt] at u1; cases u1
                              obtain ⟨k2, g2, hk2, hg2', hro, _⟩ := ext_some hext
                              rw [hkt] at hk2; cases hk2
                              have hnl := hlr.1
                              have hms : n * s + m * s ≤ c' * s := by rw [← Nat.add_mul]; exact Nat.mul_le_mul_right s hroom
                              have hfitn : en.s + en.ln + new.length ≤ en.cz := by omega
                              have hrun := run_storeCells' (P := P) en.c (en.s + en.ln) k.elem fz new' 0 arr w hh (by omega) (fun q hq => hfz hro q (by omega)) (hlr.one c6)
                              simp only [Nat.add_zero] at hrun
                              rw [htk] at hext
                              obtain ⟨μ', r1, r2, r3⟩ := rep_ext_in (w' := w.setRow en.c (arr.toList.take (en.s + en.ln) ++ new' ++ arr.toList.drop (en.s + en.ln + new'.length)).toArray)
                                (arr' := (arr.toList.take (en.s + en.ln) ++ new' ++ arr.toList.drop (en.s + en.ln + new'.length)).toArray) hr hkt hext hb (by omega) hh hlr hfitn (by rw [hnl]) (setRow_heap w en.c arr _ k.elem fz hh) (fun c hc => setRow_heap' c hc) (by simp) (by simp) (by simp) (by simp)
                              refine ⟨_, _, μ', hsrc.room t ty ts (some ⟨en.c, en.s + o, none⟩) n c' hu hs hroom _ (by show (storeCells (Addr.add ⟨en.c, en.s + o, none⟩ (n * s)) new').run P w = _; rw [add_at, show en.s + o + n * s = en.s + en.ln by omega]; exact hrun), ?_, r1, r2⟩
                              have hms2 : (n + m) * s = n * s + m * s := Nat.add_mul _ _ _
                              refine VR.slice r3 hroom ?_ (.inl ⟨rfl, ?_, ?_⟩) (.inl rfl)
                              · simp only; rw [hsk]; omega
                              · simp only; rw [hsk]; omega
                              · simp only; rw [hsk]; omega
                            · obtain ⟨cap, w', q1, q2, q3, q4, q5, q6⟩ := hsrc.grow t ty ts (some a') n c' i z old' hu hs hi hzi hroom (bound _ d2) (by omega) (by omega) hfirst
                              have hzsz : (Builtin.zeroCells z.cells (cap - (n + m))).size = (cap - (n + m)) * s := by rw [size_zeroCells]; rw [← c4]; simp
                              have hlr2 := holr.append hlr
                              have hlen2 := hlr2.1
                              have hsz : (old'.toArray ++ new'.toArray ++ Builtin.zeroCells z.cells (cap - (n + m))).size = cap * s := by
                                rw [Array.size_append, hzsz]
                                have : old'.toArray.size + new'.toArray.size = (n + m) * s := by rw [← hcl, hlen2]; simp
                                rw [Array.size_append, this, ← Nat.add_mul]
                                congr 1
                                omega
                              obtain ⟨μ', r1, r2, r3⟩ := rep_ext_new (w' := w') (elem := e) (arr := old'.toArray ++ new'.toArray ++ Builtin.zeroCells z.cells (cap - (n + m))) hr hext hb hkt d1
                                (by
                                  have : (old'.toArray ++ new'.toArray ++ Builtin.zeroCells z.cells (cap - (n + m))).toList.take ((k.cells.drop o).take (n * s) ++ new).length = old' ++ new' := by
                                    simp only [Array.toList_append, List.toList_toArray]
                                    rw [hlen2]
                                    exact List.take_left
                                  rw [this]; exact hlr2) (by rw [hsz, hcl]; exact Nat.mul_le_mul_right s q2) q3 q4 q5 q6
                              refine ⟨_, w', μ', q1, VR.slice r3 q2 ?_ (.inl ⟨rfl, ?_, ?_⟩) (.inl rfl), r1, r2⟩
                              · simp only; rw [hcl, hsk]; omega
                              · simp only; rw [hcl, hsk]; have := Nat.mul_le_mul_right s q2; omega
                              · simp only; rw [hsz, hsk]; omega
                          · exact absurd rfl (Nat.ne_of_lt p1)
                        · cases h
                      · cases h
              · cases h
            · cases h
          · cases h
        · cases h
      · cases h
    · cases h
  · cases h
end Go.Ae
