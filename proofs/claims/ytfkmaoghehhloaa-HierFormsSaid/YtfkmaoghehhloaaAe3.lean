/- The evaluator's four deeds on its heap, beside the world's: a new block, a write, something behind a block, in it or in a new one. -/
import Derived.Test.YtfkmaoghehhloaaAe2
namespace Go.Ae
variable {P : Program}

theorem cell_of {w : World} {c : Nat} {arr : Array Value} {t : TypeId} {fz : Nat × Nat} (h : w.heap[c]? = some (.cells arr t fz)) (i : Nat) : w.cell? ⟨c, i, none⟩ = arr[i]? := by
  simp [World.cell?, h]
theorem frozen_of {w : World} {c : Nat} {arr : Array Value} {t : TypeId} {fz : Nat × Nat} (h : w.heap[c]? = some (.cells arr t fz)) (i : Nat) : w.frozen? ⟨c, i, none⟩ = fzIn fz i := by
  simp [World.frozen?, h, fzIn]
theorem cell_heap {w w' : World} {c : Nat} (h : w'.heap[c]? = w.heap[c]?) (i : Nat) : w'.cell? ⟨c, i, none⟩ = w.cell? ⟨c, i, none⟩ := by
  simp [World.cell?, h]

theorem Rep.lt {μ : Mu} {V : View} {w : World} (hr : Rep P μ V w) {b : Nat} {e : Ent} (h : μ b = some e) : b < V.n := by
  obtain ⟨k, arr, fz, _, hn, _⟩ := hr.blk b e h
  exact hn
theorem Rep.clt {μ : Mu} {V : View} {w : World} (hr : Rep P μ V w) {b : Nat} {e : Ent} (h : μ b = some e) : e.c < w.heap.size := by
  obtain ⟨k, arr, fz, _, _, _, hh, _⟩ := hr.blk b e h
  exact (Array.getElem?_eq_some_iff.1 hh).1
theorem Rep.none {μ : Mu} {V : View} {w : World} (hr : Rep P μ V w) : μ V.n = none := by
  cases h : μ V.n with
  | none => rfl
  | some e => exact absurd (hr.lt h) (Nat.lt_irrefl _)

/-- A world with some draws more. -/
theorem Rep.heap {μ : Mu} {V : View} {w w' : World} (hr : Rep P μ V w) (h : w'.heap = w.heap) : Rep P μ V w' := by
  refine ⟨fun b e hb => ?_, fun b e k g hb hk hg hw j v hv => ?_, hr.wle, hr.grp, hr.tip⟩
  · rw [h]; exact hr.blk b e hb
  · rw [cell_heap (w := w) (by rw [h])]; exact hr.cells b e k g hb hk hg hw j v hv
theorem Step.heap {μ : Mu} {V : View} {w w' : World} (h : w'.heap = w.heap) (ho : w'.os = w.os) (ht : w'.tape = w.tape) (hp : w'.output = w.output) : Step μ V w μ V w' :=
  ⟨ho, ht, hp, by rw [h]; exact Nat.le_refl _, fun _ _ _ => by rw [h], Mu.le_refl μ, fun b e h k => (by rw [h] at k; cases k), Nat.le_refl _, fun b e k _ h => ⟨k, h, rfl⟩⟩

def Mu.put (μ : Mu) (n : Nat) (e : Ent) : Mu := fun b => if b = n then some e else μ b
theorem Mu.put_same (μ : Mu) (n : Nat) (e : Ent) : μ.put n e n = some e := by simp [Mu.put]
theorem Mu.put_ne (μ : Mu) {n b : Nat} (e : Ent) (h : b ≠ n) : μ.put n e b = μ b := by simp [Mu.put, h]
theorem Mu.le_put {μ : Mu} {n : Nat} (e : Ent) (h : μ n = .none) : Mu.le μ (μ.put n e) := fun b x hb => by
  have : b ≠ n := fun e => by subst e; rw [h] at hb; cases hb
  rw [Mu.put_ne _ _ this]; exact hb

theorem push_t (H : AH) (cells : List Value) (elem : TypeId) (b : Nat) : (H.push cells elem).view.t b = if b = H.n then some { cells, elem, grp := H.n, w := 0, ro := false } else H.view.t b := by
  simp [AH.push, AH.view, T.get_set]
theorem push_g (H : AH) (cells : List Value) (elem : TypeId) (b : Nat) : (H.push cells elem).view.g b = if b = H.n then some { tip := H.n, w := 0 } else H.view.g b := by
  simp [AH.push, AH.view, T.get_set]

/-- A new block of the world's bears something, room behind it perhaps. -/
theorem rep_new {μ : Mu} {V V' : View} {w w' : World} {cells : List Value} {elem : TypeId} {g : Nat} {gw : Nat} {arr : Array Value} {fz : Nat × Nat} {k : Nat}
    (hr : Rep P μ V w) (hcs : LR μ cells (arr.toList.take cells.length)) (hle : cells.length ≤ arr.size) (hk : szOf P elem = some k) (hfz : ∀ o, o < arr.size → fzIn fz o = false)
    (hw : w'.heap = w.heap.push (.cells arr elem fz)) (ho : w'.os = w.os) (htp : w'.tape = w.tape) (hop : w'.output = w.output)
    (hn : V'.n = V.n + 1) (ht : ∀ b, V'.t b = if b = V.n then some { cells, elem, grp := g, w := gw, ro := false } else V.t b)
    (hg : V'.g g = some { tip := V.n, w := gw }) (hg' : ∀ i, i ≠ g → V'.g i = V.g i) (hgn : g ≤ V.n)
    (hold : g = V.n ∨ ∃ x, V.g g = some x ∧ x.w = gw)
    (hV : ∀ b e kb, μ b = some e → V.t b = some kb → kb.grp ≠ V.n) :
    Rep P (μ.put V.n ⟨w.heap.size, 0, cells.length, k, arr.size⟩) V' w' ∧ Step μ V w (μ.put V.n ⟨w.heap.size, 0, cells.length, k, arr.size⟩) V' w' ∧
      Mu.put μ V.n ⟨w.heap.size, 0, cells.length, k, arr.size⟩ V.n = some ⟨w.heap.size, 0, cells.length, k, arr.size⟩ := by
  have hm := Mu.le_put (μ := μ) (n := V.n) ⟨w.heap.size, 0, cells.length, k, arr.size⟩ hr.none
  have hold_heap : ∀ c, c < w.heap.size → w'.heap[c]? = w.heap[c]? := fun c hc => by rw [hw, Array.getElem?_push, if_neg (by omega)]
  have hnew_heap : w'.heap[w.heap.size]? = some (.cells arr elem fz) := by rw [hw, Array.getElem?_push, if_pos rfl]
  have gsame : ∀ b e kb gb, μ b = some e → V.t b = some kb → V'.g kb.grp = some gb → ∃ g0, V.g kb.grp = some g0 ∧ g0.w = gb.w ∧ (kb.grp = g ∧ gb.tip = V.n ∨ kb.grp ≠ g ∧ gb = g0) := by
    intro b e kb gb hb hk hgb
    by_cases hgg : kb.grp = g
    · rw [hgg, hg] at hgb
      cases hgb
      rcases hold with h | ⟨x, hx, hxw⟩
      · exact absurd (hgg.trans h) (hV b e kb hb hk)
      · exact ⟨x, by rw [hgg]; exact hx, hxw, .inl ⟨hgg, rfl⟩⟩
    · rw [hg' _ hgg] at hgb
      exact ⟨gb, hgb, rfl, .inr ⟨hgg, rfl⟩⟩
  have split : ∀ b e, μ.put V.n ⟨w.heap.size, 0, cells.length, k, arr.size⟩ b = some e → (b = V.n ∧ e = ⟨w.heap.size, 0, cells.length, k, arr.size⟩) ∨ (b ≠ V.n ∧ μ b = some e) := by
    intro b e h
    by_cases hb : b = V.n
    · subst hb; rw [Mu.put_same] at h; cases h; exact .inl ⟨rfl, rfl⟩
    · rw [Mu.put_ne _ _ hb] at h; exact .inr ⟨hb, h⟩
  have tnew : V'.t V.n = some { cells, elem, grp := g, w := gw, ro := false } := by rw [ht, if_pos rfl]
  have told : ∀ b, b ≠ V.n → V'.t b = V.t b := fun b h => by rw [ht, if_neg h]
  refine ⟨⟨?_, ?_, ?_, ?_, ?_⟩, ⟨ho, htp, hop, by rw [hw]; simp, fun c hc _ => hold_heap c hc, hm, ?_, by omega, ?_⟩, Mu.put_same _ _ _⟩
  · intro b e hb
    rcases split b e hb with ⟨rfl, rfl⟩ | ⟨hne, hb⟩
    · exact ⟨_, arr, fz, tnew, by omega, (by show g < _; omega), hnew_heap, rfl, rfl, by simpa using hle, hk, fun _ => hfz⟩
    · obtain ⟨kb, ar, f, h1, h2, h3, h4, h5⟩ := hr.blk b e hb
      exact ⟨kb, ar, f, by rw [told b hne]; exact h1, by omega, by omega, by rw [hold_heap _ (hr.clt hb)]; exact h4, h5⟩
  · intro b e kb gb hb hk hgb hwb j v hv
    rcases split b e hb with ⟨rfl, rfl⟩ | ⟨hne, hb⟩
    · rw [tnew] at hk
      cases hk
      obtain ⟨v', hv', hvr⟩ := hcs.get hv
      have hj : j < cells.length := (List.getElem?_eq_some_iff.1 hv).1
      rw [List.getElem?_take, if_pos hj, Array.getElem?_toList] at hv'
      exact ⟨v', by rw [cell_of hnew_heap, Nat.zero_add]; exact hv', hvr.mono hm⟩
    · rw [told b hne] at hk
      obtain ⟨g0, hg0, hgw, _⟩ := gsame b e kb gb hb hk hgb
      obtain ⟨v', hv', hvr⟩ := hr.cells b e kb g0 hb hk hg0 (by omega) j v hv
      exact ⟨v', by rw [cell_heap (hold_heap _ (hr.clt hb))]; exact hv', hvr.mono hm⟩
  · intro b e kb gb hb hk hgb
    rcases split b e hb with ⟨rfl, rfl⟩ | ⟨hne, hb⟩
    · rw [tnew] at hk; cases hk; rw [hg] at hgb; cases hgb; exact Nat.le_refl _
    · rw [told b hne] at hk
      obtain ⟨g0, hg0, hgw, _⟩ := gsame b e kb gb hb hk hgb
      have := hr.wle b e kb g0 hb hk hg0
      omega
  · intro b1 b2 e1 e2 k1 k2 h1 h2 hk1 hk2 hc
    rcases split b1 e1 h1 with ⟨rfl, rfl⟩ | ⟨hne1, h1⟩ <;> rcases split b2 e2 h2 with ⟨rfl, rfl⟩ | ⟨hne2, h2⟩
    · rw [hk1] at hk2; cases hk2; exact ⟨rfl, fun _ => rfl⟩
    · have := hr.clt h2; simp only at hc; omega
    · have := hr.clt h1; simp only at hc; omega
    · exact hr.grp b1 b2 e1 e2 k1 k2 h1 h2 (by rw [← told b1 hne1]; exact hk1) (by rw [← told b2 hne2]; exact hk2) hc
  · intro b e et kb gb hb hk hro hgb hwb htip hc
    rcases split b e hb with ⟨rfl, rfl⟩ | ⟨hne, hb⟩
    · rw [tnew] at hk; cases hk; rw [hg] at hgb; cases hgb
      rw [Mu.put_same] at htip; cases htip; exact Nat.le_refl _
    · rw [told b hne] at hk
      obtain ⟨g0, hg0, hgw, hcase⟩ := gsame b e kb gb hb hk hgb
      rcases hcase with ⟨_, htp⟩ | ⟨_, rfl⟩
      · rw [htp, Mu.put_same] at htip
        cases htip
        have := hr.clt hb
        simp only at hc
        omega
      · rcases split _ et htip with ⟨htn, rfl⟩ | ⟨_, ht2⟩
        · have := hr.clt hb; simp only at hc; omega
        · exact hr.tip b e et kb gb hb hk hro hg0 hwb ht2 hc
  · intro b e hb hnone
    rcases split b e hb with ⟨rfl, rfl⟩ | ⟨hne, hb⟩
    · exact ⟨Nat.le_refl _, by omega, .inl (Nat.le_refl _)⟩
    · rw [hb] at hnone; cases hnone
  · intro b eb kb hmb hk
    have hb := hr.lt hmb
    exact ⟨kb, by rw [told b (by omega)]; exact hk, rfl⟩

theorem rep_push {μ : Mu} {H : AH} {w w' : World} {cells : List Value} {elem : TypeId} {arr : Array Value} {fz : Nat × Nat} {k : Nat}
    (hr : Rep P μ H.view w) (hcs : LR μ cells (arr.toList.take cells.length)) (hle : cells.length ≤ arr.size) (hk : szOf P elem = some k) (hfz : ∀ o, o < arr.size → fzIn fz o = false)
    (hw : w'.heap = w.heap.push (.cells arr elem fz)) (ho : w'.os = w.os) (htp : w'.tape = w.tape) (hop : w'.output = w.output) :
    ∃ μ', Rep P μ' (H.push cells elem).view w' ∧ Step μ H.view w μ' (H.push cells elem).view w' ∧ μ' H.n = some ⟨w.heap.size, 0, cells.length, k, arr.size⟩ :=
  ⟨_, rep_new (V' := (H.push cells elem).view) (g := H.n) (gw := 0) hr hcs hle hk hfz hw ho htp hop rfl (push_t H cells elem) (by rw [push_g, if_pos rfl]; rfl)
    (fun i hi => by rw [push_g, if_neg hi]) (Nat.le_refl _) (.inl rfl)
    (fun b e kb hb hkb he => by
      obtain ⟨k1, _, _, h1, _, h3, _⟩ := hr.blk b e hb
      rw [hkb] at h1; cases h1; rw [he] at h3; exact absurd h3 (Nat.lt_irrefl _))⟩

theorem wr_some {H H' : AH} {b : Nat} {cells : List Value} (h : H.wr b cells = some H') : ∃ k g, H.view.t b = some k ∧ H.view.g k.grp = some g ∧ k.ro = false ∧ g.tip = b ∧ k.w = g.w ∧ cells.length = k.cells.length ∧
    H' = { H with t := H.t.set b { k with cells, w := g.w + 1 }, g := H.g.set k.grp { g with w := g.w + 1 }, low := Nat.min H.low k.grp } := by
  unfold AH.wr at h
  split at h
  · rename_i k hk
    split at h
    · rename_i g hg
      split at h
      · rename_i hc
        cases h
        exact ⟨k, g, hk, hg, hc.1, hc.2.1, hc.2.2.1, hc.2.2.2, rfl⟩
      · cases h
    · cases h
  · cases h
theorem ext_some {H H' : AH} {b : Nat} {cells : List Value} (h : H.ext b cells = some H') : ∃ k g, H.view.t b = some k ∧ H.view.g k.grp = some g ∧ k.ro = false ∧ g.tip = b ∧ k.w = g.w ∧
    H' = { n := H.n + 1, t := H.t.set H.n { k with cells }, g := H.g.set k.grp { g with tip := H.n }, low := Nat.min H.low k.grp } := by
  unfold AH.ext at h
  split at h
  · rename_i k hk
    split at h
    · rename_i g hg
      split at h
      · rename_i hc
        cases h
        exact ⟨k, g, hk, hg, hc.1, hc.2.1, hc.2.2.1, rfl⟩
      · cases h
    · cases h
  · cases h
theorem ext_lt {H H' : AH} {b : Nat} {cells : List Value} (h : H.ext b cells = some H') : b < H.n := by
  unfold AH.ext at h
  split at h
  · split at h
    · split at h
      · rename_i hc; exact hc.2.2.2
      · cases h
    · cases h
  · cases h
theorem rd_some {H : AH} {b : Nat} {k : Blk} (h : H.rd b = some k) : H.view.t b = some k ∧ ∃ g, H.view.g k.grp = some g ∧ k.w = g.w := by
  unfold AH.rd at h
  split at h
  · rename_i k1 hk
    split at h
    · rename_i g hg
      split at h
      · rename_i hw; cases h; exact ⟨hk, g, hg, hw⟩
      · cases h
    · cases h
  · cases h

/-- A block is written. -/
theorem rep_wr {μ : Mu} {H H' : AH} {w w' : World} {b : Nat} {e : Ent} {cells : List Value} {arr arr' : Array Value} {t : TypeId} {fz : Nat × Nat}
    (hr : Rep P μ H.view w) (h : H.wr b cells = some H') (hb : μ b = some e) (harr : w.heap[e.c]? = some (.cells arr t fz)) (hsz : arr'.size = arr.size)
    (hcs : LR μ cells ((arr'.toList.drop e.s).take cells.length))
    (hw : w'.heap[e.c]? = some (.cells arr' t fz)) (hw2 : ∀ c, c ≠ e.c → w'.heap[c]? = w.heap[c]?) (hsize : w'.heap.size = w.heap.size)
    (ho : w'.os = w.os) (htp : w'.tape = w.tape) (hop : w'.output = w.output) :
    Rep P μ H'.view w' ∧ Step μ H.view w μ H'.view w' := by
  obtain ⟨k, g, hk, hg, hro, htip, hkw, hlen, rfl⟩ := wr_some h
  have t' : ∀ b', (AH.view { H with t := H.t.set b { k with cells, w := g.w + 1 }, g := H.g.set k.grp { g with w := g.w + 1 }, low := Nat.min H.low k.grp }).t b' = if b' = b then some { k with cells, w := g.w + 1 } else H.view.t b' := fun b' => by simp [AH.view, T.get_set]
  have g' : ∀ i, (AH.view { H with t := H.t.set b { k with cells, w := g.w + 1 }, g := H.g.set k.grp { g with w := g.w + 1 }, low := Nat.min H.low k.grp }).g i = if i = k.grp then some { g with w := g.w + 1 } else H.view.g i := fun b' => by simp [AH.view, T.get_set]
  generalize hV : (AH.view { H with t := H.t.set b { k with cells, w := g.w + 1 }, g := H.g.set k.grp { g with w := g.w + 1 }, low := Nat.min H.low k.grp }) = V' at t' g' ⊢
  have n' : V'.n = H.view.n := by rw [← hV]; rfl
  clear hV
  obtain ⟨k0, arr0, fz0, hk0, hbn, hgn, hh0, hs0, hl0, hfit, hkk, hff⟩ := hr.blk b e hb
  rw [hk] at hk0; cases hk0
  rw [harr] at hh0
  injection hh0 with hh0
  injection hh0 with ha1 ha2 ha3
  subst ha1; subst ha2; subst ha3
  refine ⟨⟨?_, ?_, ?_, ?_, ?_⟩, ⟨ho, htp, hop, by omega, ?_, Mu.le_refl μ, fun b e h k => (by rw [h] at k; cases k), by omega, ?_⟩⟩
  · intro b1 e1 hb1
    by_cases he : b1 = b
    · subst he
      rw [hb] at hb1; cases hb1
      exact ⟨{ k with cells, w := g.w + 1 }, arr', fz, by rw [t', if_pos rfl], by omega, (by show k.grp < _; omega), hw, by omega, (by show cells.length = _; omega), hfit, hkk, fun _ o ho => hff hro o ho⟩
    · obtain ⟨k1, ar, f, h1, h2, h3, h4, h5, h6⟩ := hr.blk b1 e1 hb1
      refine ⟨k1, ?_⟩
      by_cases hc : e1.c = e.c
      · rw [hc, harr] at h4
        injection h4 with h4
        injection h4 with q1 q2 q3
        subst q1; subst q3
        exact ⟨arr', fz, by rw [t', if_neg he]; exact h1, by omega, by omega, by rw [hc, hw, q2], by omega, h6⟩
      · exact ⟨ar, f, by rw [t', if_neg he]; exact h1, by omega, by omega, by rw [hw2 _ hc]; exact h4, h5, h6⟩
  · intro b1 e1 k1 g1 hb1 hk1 hg1 hw1 j v hv
    by_cases he : b1 = b
    · subst he
      rw [hb] at hb1; cases hb1
      rw [t', if_pos rfl] at hk1; cases hk1
      obtain ⟨v', hv', hvr⟩ := hcs.get hv
      have hj : j < cells.length := (List.getElem?_eq_some_iff.1 hv).1
      rw [List.getElem?_take, if_pos hj, List.getElem?_drop, Array.getElem?_toList] at hv'
      exact ⟨v', by rw [cell_of hw]; exact hv', hvr⟩
    · rw [t', if_neg he] at hk1
      rw [g'] at hg1
      by_cases hgg : k1.grp = k.grp
      · rw [if_pos hgg] at hg1
        cases hg1
        have := hr.wle b1 e1 k1 g hb1 hk1 (by rw [hgg]; exact hg)
        simp only at hw1
        omega
      · rw [if_neg hgg] at hg1
        have hc : e1.c ≠ e.c := fun hc => by
          obtain ⟨q1, q2⟩ := hr.grp b1 b e1 e k1 k hb1 hb hk1 hk hc
          exact hgg (q2 (by rw [q1]; exact hro))
        obtain ⟨v', hv', hvr⟩ := hr.cells b1 e1 k1 g1 hb1 hk1 hg1 hw1 j v hv
        exact ⟨v', by rw [cell_heap (hw2 _ hc)]; exact hv', hvr⟩
  · intro b1 e1 k1 g1 hb1 hk1 hg1
    rw [g'] at hg1
    by_cases he : b1 = b
    · subst he
      rw [t', if_pos rfl] at hk1; cases hk1
      rw [if_pos rfl] at hg1; cases hg1
      exact Nat.le_refl _
    · rw [t', if_neg he] at hk1
      by_cases hgg : k1.grp = k.grp
      · rw [if_pos hgg] at hg1
        cases hg1
        have := hr.wle b1 e1 k1 g hb1 hk1 (by rw [hgg]; exact hg)
        simp only
        omega
      · rw [if_neg hgg] at hg1
        exact hr.wle b1 e1 k1 g1 hb1 hk1 hg1
  · intro b1 b2 e1 e2 k1 k2 h1 h2 hk1 hk2 hc
    have q : ∀ b' k', V'.t b' = some k' → ∃ k0, H.view.t b' = some k0 ∧ k0.ro = k'.ro ∧ k0.grp = k'.grp := fun b' k' hk' => by
      by_cases he : b' = b
      · subst he; rw [t', if_pos rfl] at hk'; cases hk'; exact ⟨k, hk, rfl, rfl⟩
      · rw [t', if_neg he] at hk'; exact ⟨k', hk', rfl, rfl⟩
    obtain ⟨q1, a1, a2, a3⟩ := q b1 k1 hk1
    obtain ⟨q2, c1, c2, c3⟩ := q b2 k2 hk2
    have := hr.grp b1 b2 e1 e2 q1 q2 h1 h2 a1 c1 hc
    rw [a2, c2, a3, c3] at this
    exact this
  · intro b1 e1 et k1 g1 hb1 hk1 hro1 hg1 hw1 htip1 hc
    rw [g'] at hg1
    by_cases he : b1 = b
    · subst he
      rw [hb] at hb1; cases hb1
      rw [t', if_pos rfl] at hk1; cases hk1
      rw [if_pos rfl] at hg1; cases hg1
      simp only [htip] at htip1
      rw [hb] at htip1; cases htip1
      exact Nat.le_refl _
    · rw [t', if_neg he] at hk1
      by_cases hgg : k1.grp = k.grp
      · rw [if_pos hgg] at hg1
        cases hg1
        have := hr.wle b1 e1 k1 g hb1 hk1 (by rw [hgg]; exact hg)
        simp only at hw1
        omega
      · rw [if_neg hgg] at hg1
        exact hr.tip b1 e1 et k1 g1 hb1 hk1 hro1 hg1 hw1 htip1 hc
  · intro c hc hown
    refine hw2 c fun he => ?_
    have := hown b e k hb hk he.symm
    rw [hro] at this
    cases this
  · intro b1 e1 k1 _ hk1
    by_cases he : b1 = b
    · subst he
      rw [hk] at hk1; cases hk1
      exact ⟨{ k with cells, w := g.w + 1 }, by rw [t', if_pos rfl], rfl⟩
    · exact ⟨k1, by rw [t', if_neg he]; exact hk1, rfl⟩

theorem ext_view {H H' : AH} {b : Nat} {cells : List Value} (h : H.ext b cells = some H') : ∃ k g, H.view.t b = some k ∧ H.view.g k.grp = some g ∧ k.ro = false ∧ g.tip = b ∧ k.w = g.w ∧
    H'.view.n = H.view.n + 1 ∧ (∀ b', H'.view.t b' = if b' = H.view.n then some { k with cells } else H.view.t b') ∧ (∀ i, H'.view.g i = if i = k.grp then some { g with tip := H.n } else H.view.g i) := by
  obtain ⟨k, g, hk, hg, hro, htip, hkw, rfl⟩ := ext_some h
  exact ⟨k, g, hk, hg, hro, htip, hkw, rfl, fun b' => T.get_set _ _ _ _, fun i => T.get_set _ _ _ _⟩

/-- Something stands behind a block now, in a new one. -/
theorem rep_ext_new {μ : Mu} {H H' : AH} {w w' : World} {b : Nat} {e : Ent} {cells : List Value} {elem : TypeId} {arr : Array Value} {k0 : Blk}
    (hr : Rep P μ H.view w) (h : H.ext b cells = some H') (hb : μ b = some e) (hk0 : H.view.t b = some k0) (he : k0.elem = elem)
    (hcs : LR μ cells (arr.toList.take cells.length)) (hle : cells.length ≤ arr.size)
    (hw : w'.heap = w.heap.push (.cells arr elem (0, 0))) (ho : w'.os = w.os) (htp : w'.tape = w.tape) (hop : w'.output = w.output) :
    ∃ μ', Rep P μ' H'.view w' ∧ Step μ H.view w μ' H'.view w' ∧ μ' H.n = some ⟨w.heap.size, 0, cells.length, e.k, arr.size⟩ := by
  obtain ⟨k, g, hk, hg, hro, htip, hkw, hn, ht, hgv⟩ := ext_view h
  have hkk0 : k = k0 := Option.some.inj (hk.symm.trans hk0)
  subst hkk0
  clear hk0
  obtain ⟨k1, arr1, fz1, hk1, hbn, hgn, hh1, hs1, hl1, hfit, hkk, hff⟩ := hr.blk b e hb
  rw [hk] at hk1; cases hk1
  refine ⟨_, rep_new (V' := H'.view) (g := k.grp) (gw := g.w) (elem := elem) hr hcs hle (by rw [← he]; exact hkk) (fz := (0, 0)) (fun o _ => by simp [fzIn]) hw ho htp hop hn ?_ ?_ ?_ (by omega) (.inr ⟨g, hg, rfl⟩) ?_⟩
  · intro b'
    rw [ht b']
    split
    · obtain ⟨q1, q2, q3, q4, q5⟩ := k
      simp only at he hro hkw
      subst he; subst hro; subst hkw
      rfl
    · rfl
  · rw [hgv, if_pos rfl]; rfl
  · intro i hi; rw [hgv, if_neg hi]
  · intro b1 e1 kb hb1 hkb heq
    obtain ⟨k2, _, _, h1, _, h3, _⟩ := hr.blk b1 e1 hb1
    rw [hkb] at h1; cases h1; rw [heq] at h3; exact absurd h3 (Nat.lt_irrefl _)

/-- Something stands behind a block now, in it. -/
theorem rep_ext_in {μ : Mu} {H H' : AH} {w w' : World} {b o : Nat} {e : Ent} {new new' : List Value} {arr arr' : Array Value} {t : TypeId} {fz : Nat × Nat} {k0 : Blk}
    (hr : Rep P μ H.view w) (hk0 : H.view.t b = some k0) (h : H.ext b (k0.cells.drop o ++ new) = some H') (hb : μ b = some e) (hol : o ≤ k0.cells.length)
    (harr : w.heap[e.c]? = some (.cells arr t fz)) (hnew : LR μ new new') (hroom : e.s + e.ln + new.length ≤ e.cz)
    (harr' : arr'.toList = arr.toList.take (e.s + e.ln) ++ new' ++ arr.toList.drop (e.s + e.ln + new.length))
    (hw : w'.heap[e.c]? = some (.cells arr' t fz)) (hw2 : ∀ c, c ≠ e.c → w'.heap[c]? = w.heap[c]?) (hsize : w'.heap.size = w.heap.size)
    (ho : w'.os = w.os) (htp : w'.tape = w.tape) (hop : w'.output = w.output) :
    ∃ μ', Rep P μ' H'.view w' ∧ Step μ H.view w μ' H'.view w' ∧ μ' H.n = some ⟨e.c, e.s + o, k0.cells.length - o + new.length, e.k, e.cz⟩ := by
  obtain ⟨k, g, hk, hg, hro, htip, hkw, hn, ht, hgv⟩ := ext_view h
  have hkk0 : k = k0 := Option.some.inj (hk.symm.trans hk0)
  subst hkk0
  clear hk0
  obtain ⟨k1, arr1, fz1, hk1, hbn, hgn, hh1, hs1, hl1, hfit, hkk, hff⟩ := hr.blk b e hb
  rw [hk] at hk1; cases hk1
  rw [harr] at hh1
  injection hh1 with hh1
  injection hh1 with q1 q2 q3
  subst q1; subst q2; subst q3
  have hlen : arr'.size = arr.size := by
    have := congrArg List.length harr'
    have h2 := hnew.1
    simp at this
    omega
  have hnl := hnew.1
  -- what lay ahead of the new cells lies as it did
  have hfront : ∀ i, i < e.s + e.ln → arr'[i]? = arr[i]? := fun i hi => by
    rw [← Array.getElem?_toList, ← Array.getElem?_toList, harr', List.append_assoc, List.getElem?_append_left (by simp; omega), List.getElem?_take, if_pos hi]
  have hback : ∀ j v', new'[j]? = some v' → arr'[e.s + e.ln + j]? = some v' := fun j v' hv => by
    have hj : j < new'.length := (List.getElem?_eq_some_iff.1 hv).1
    have hl : (arr.toList.take (e.s + e.ln)).length = e.s + e.ln := by simp; omega
    rw [← Array.getElem?_toList, harr', List.append_assoc, List.getElem?_append_right (by omega), hl, List.getElem?_append_left (by omega), show e.s + e.ln + j - (e.s + e.ln) = j by omega]
    exact hv
  have hVn : H.view.n = H.n := rfl
  rw [hVn] at ht hn hbn hgn
  have hm := Mu.le_put (μ := μ) (n := H.n) ⟨e.c, e.s + o, k.cells.length - o + new.length, e.k, e.cz⟩ hr.none
  have split : ∀ b1 e1, μ.put H.n ⟨e.c, e.s + o, k.cells.length - o + new.length, e.k, e.cz⟩ b1 = some e1 → (b1 = H.n ∧ e1 = ⟨e.c, e.s + o, k.cells.length - o + new.length, e.k, e.cz⟩) ∨ (b1 ≠ H.n ∧ μ b1 = some e1) := by
    intro b1 e1 h1
    by_cases hb1 : b1 = H.n
    · subst hb1; rw [Mu.put_same] at h1; cases h1; exact .inl ⟨rfl, rfl⟩
    · rw [Mu.put_ne _ _ hb1] at h1; exact .inr ⟨hb1, h1⟩
  have tnew : H'.view.t H.n = some { k with cells := k.cells.drop o ++ new } := by rw [ht, if_pos rfl]
  have told : ∀ b1, b1 ≠ H.n → H'.view.t b1 = H.view.t b1 := fun b1 h1 => by rw [ht, if_neg h1]
  have gsame : ∀ (i : Nat) gb, H'.view.g i = some gb → ∃ g0, H.view.g i = some g0 ∧ g0.w = gb.w ∧ (i = k.grp ∧ gb.tip = H.n ∧ g0 = g ∨ i ≠ k.grp ∧ gb = g0) := by
    intro i gb hgb
    rw [hgv] at hgb
    by_cases hi : i = k.grp
    · rw [if_pos hi] at hgb; cases hgb; exact ⟨g, by rw [hi]; exact hg, rfl, .inl ⟨hi, rfl, rfl⟩⟩
    · rw [if_neg hi] at hgb; exact ⟨gb, hgb, rfl, .inr ⟨hi, rfl⟩⟩
  refine ⟨_, ⟨?_, ?_, ?_, ?_, ?_⟩, ⟨ho, htp, hop, by omega, ?_, hm, ?_, by omega, ?_⟩, Mu.put_same _ _ _⟩
  · intro b1 e1 hb1
    rcases split b1 e1 hb1 with ⟨rfl, rfl⟩ | ⟨hne, hb1⟩
    · exact ⟨_, arr', fz, tnew, by omega, by simp only; omega, hw, by simp only; omega, by simp, by simp only; omega, hkk, fun _ o ho => hff hro o ho⟩
    · obtain ⟨k1, ar, f, h1, h2, h3, h4, h5, h6⟩ := hr.blk b1 e1 hb1
      rw [hVn] at h2 h3
      refine ⟨k1, ?_⟩
      by_cases hc : e1.c = e.c
      · rw [hc, harr] at h4
        injection h4 with h4
        injection h4 with q1 q2 q3
        subst q1; subst q3
        exact ⟨arr', fz, by rw [told b1 hne]; exact h1, by omega, by omega, by rw [hc, hw, q2], by omega, h6⟩
      · exact ⟨ar, f, by rw [told b1 hne]; exact h1, by omega, by omega, by rw [hw2 _ hc]; exact h4, h5, h6⟩
  · intro b1 e1 k1 g1 hb1 hk1 hg1 hw1 j v hv
    obtain ⟨g0, hg0, hg0w, hcase⟩ := gsame _ _ hg1
    rcases split b1 e1 hb1 with ⟨rfl, rfl⟩ | ⟨hne, hb1⟩
    · rw [tnew] at hk1; cases hk1
      simp only at hv
      have hdl : (k.cells.drop o).length = k.cells.length - o := by simp
      by_cases hj : j < k.cells.length - o
      · rw [List.getElem?_append_left (by omega), List.getElem?_drop] at hv
        obtain ⟨v', hv', hvr⟩ := hr.cells b e k g hb hk hg hkw (o + j) v hv
        refine ⟨v', ?_, hvr.mono hm⟩
        rw [cell_of harr] at hv'
        rw [cell_of hw]
        simp only
        rw [hfront _ (by omega), show e.s + o + j = e.s + (o + j) by omega]
        exact hv'
      · rw [List.getElem?_append_right (by omega)] at hv
        obtain ⟨v', hv', hvr⟩ := hnew.get hv
        refine ⟨v', ?_, hvr.mono hm⟩
        rw [cell_of hw]
        simp only
        have := hback _ _ hv'
        rw [hdl] at this
        rw [show e.s + o + j = e.s + e.ln + (j - (k.cells.length - o)) by omega]
        exact this
    · rw [told b1 hne] at hk1
      obtain ⟨v', hv', hvr⟩ := hr.cells b1 e1 k1 g0 hb1 hk1 hg0 (by omega) j v hv
      refine ⟨v', ?_, hvr.mono hm⟩
      by_cases hc : e1.c = e.c
      · obtain ⟨r1, r2⟩ := hr.grp b1 b e1 e k1 k hb1 hb hk1 hk hc
        have hro1 : k1.ro = false := by rw [r1]; exact hro
        have hgk := r2 hro1
        rw [hgk, hg] at hg0; cases hg0
        have hend := hr.tip b1 e1 e k1 g hb1 hk1 hro1 (by rw [hgk]; exact hg) (by omega) (by rw [htip]; exact hb) hc
        obtain ⟨_, _, _, u1, _, _, _, _, u2, _⟩ := hr.blk b1 e1 hb1
        rw [hk1] at u1; cases u1
        have hj : j < k1.cells.length := (List.getElem?_eq_some_iff.1 hv).1
        rw [hc] at hv' ⊢
        rw [cell_of harr] at hv'
        rw [cell_of hw, hfront _ (by omega)]
        exact hv'
      · rw [cell_heap (hw2 _ hc)]; exact hv'
  · intro b1 e1 k1 g1 hb1 hk1 hg1
    obtain ⟨g0, hg0, hg0w, hcase⟩ := gsame _ _ hg1
    rcases split b1 e1 hb1 with ⟨rfl, rfl⟩ | ⟨hne, hb1⟩
    · rw [tnew] at hk1; cases hk1
      simp only at hg0 ⊢
      rw [hg] at hg0; cases hg0
      omega
    · rw [told b1 hne] at hk1
      have := hr.wle b1 e1 k1 g0 hb1 hk1 hg0
      omega
  · intro b1 b2 e1 e2 k1 k2 h1 h2 hk1 hk2 hc
    have q : ∀ b' e' k', μ.put H.n ⟨e.c, e.s + o, k.cells.length - o + new.length, e.k, e.cz⟩ b' = some e' → H'.view.t b' = some k' → ∃ b0 e0 k0, μ b0 = some e0 ∧ H.view.t b0 = some k0 ∧ e0.c = e'.c ∧ k0.ro = k'.ro ∧ k0.grp = k'.grp := by
      intro b' e' k' hb' hk'
      rcases split b' e' hb' with ⟨rfl, rfl⟩ | ⟨hne, hb'⟩
      · rw [tnew] at hk'; cases hk'; exact ⟨b, e, k, hb, hk, rfl, rfl, rfl⟩
      · rw [told _ hne] at hk'; exact ⟨b', e', k', hb', hk', rfl, rfl, rfl⟩
    obtain ⟨p1, f1, x1, a1, a2, a3, a4, a5⟩ := q b1 e1 k1 h1 hk1
    obtain ⟨p2, f2, x2, c1, c2, c3, c4, c5⟩ := q b2 e2 k2 h2 hk2
    have := hr.grp p1 p2 f1 f2 x1 x2 a1 c1 a2 c2 (by rw [a3, c3]; exact hc)
    rw [a4, c4, a5, c5] at this
    exact this
  · intro b1 e1 et k1 g1 hb1 hk1 hro1 hg1 hw1 htip1 hc
    obtain ⟨g0, hg0, hg0w, hcase⟩ := gsame _ _ hg1
    rcases split b1 e1 hb1 with ⟨rfl, rfl⟩ | ⟨hne, hb1⟩
    · rw [tnew] at hk1; cases hk1
      rcases hcase with ⟨_, ht2, _⟩ | ⟨hx, _⟩
      · rw [ht2, Mu.put_same] at htip1; cases htip1; exact Nat.le_refl _
      · exact absurd rfl hx
    · rw [told b1 hne] at hk1
      rcases hcase with ⟨hx, ht2, rfl⟩ | ⟨hx, rfl⟩
      · rw [ht2, Mu.put_same] at htip1
        cases htip1
        have hend := hr.tip b1 e1 e k1 g0 hb1 hk1 hro1 hg0 (by omega) (by rw [htip]; exact hb) hc
        simp only
        omega
      · rcases split _ et htip1 with ⟨q1, rfl⟩ | ⟨_, q2⟩
        · -- the tip of another group is no new block
          simp only at hc
          have := hr.grp b1 b e1 e k1 k hb1 hb hk1 hk hc
          exact absurd (this.2 hro1) hx
        · exact hr.tip b1 e1 et k1 g1 hb1 hk1 hro1 hg0 hw1 q2 hc
  · intro c hc hown
    refine hw2 c fun heq => ?_
    have := hown b e k hb hk heq.symm
    rw [hro] at this
    cases this
  · intro b1 e1 hb1 hnone
    rcases split b1 e1 hb1 with ⟨rfl, rfl⟩ | ⟨hne, hb1⟩
    · exact ⟨Nat.le_refl _, by omega, .inr ⟨b, e, k, hb, hk, hro, rfl⟩⟩
    · rw [hb1] at hnone; cases hnone
  · intro b1 e1 kb hmb hkb
    have hb1 := hr.lt hmb
    exact ⟨kb, by rw [told b1 (by rw [hVn] at hb1; omega)]; exact hkb, rfl⟩
end Go.Ae
