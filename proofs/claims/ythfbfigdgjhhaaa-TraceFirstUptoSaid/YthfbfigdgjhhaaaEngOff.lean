/- The engine over abstract states: slices that grow at their end and are cut at their head. -/
import Derived.Test.YthfbfigdgjhhaaaEngMap
set_option linter.all false
namespace Go.Eng
open Go Go.RowKit
/-- A slice that grows at its end and is cut at its head: nil, or the tail of a block that is nobody else's. -/
def GO (E : TypeId) (s : Nat) (v : Value) (n : Nat) (xs : List Value) (Lg : Lst) : Prop :=
  xs.length = n * s ∧ ((v = .slice none 0 0 ∧ n = 0 ∧ Lg = []) ∨
    ∃ b c q pre sp, v = .slice (some ⟨b, q, none⟩) n c ∧ n ≤ c ∧ c ≤ maxLen ∧ pre.length = q ∧ (c - n) * s ≤ sp.length ∧ Lg = [(b, .cells (pre ++ (xs ++ sp)).toArray E (0, 0))])
theorem GO.nil {E : TypeId} {s : Nat} : GO E s (.slice none 0 0) 0 [] [] := ⟨by simp, .inl ⟨rfl, rfl, rfl⟩⟩
theorem GO.slice {E : TypeId} {s n : Nat} {v : Value} {xs : List Value} {Lg : Lst} (h : GO E s v n xs Lg) : ∃ p c, v = .slice p n c := by
  obtain ⟨_, ⟨rfl, rfl, _⟩ | ⟨b, c, q, pre, sp, rfl, _⟩⟩ := h
  · exact ⟨none, 0, rfl⟩
  · exact ⟨_, _, rfl⟩
theorem GO.at {E : TypeId} {s n : Nat} {v : Value} {xs : List Value} {Lg L L' : Lst} {m : Mem} (h : GO E s v n xs Lg) (t : TakeL L Lg L') : SlAt m L v n s xs := by
  obtain ⟨hl, ⟨rfl, rfl, rfl⟩ | ⟨b, c, q, pre, sp, rfl, hnc, hcm, hq, hsp, rfl⟩⟩ := h
  · exact .inl ⟨rfl, List.eq_nil_of_length_eq_zero (by simpa using hl), none, 0, rfl⟩
  · refine .inr ⟨b, q, c, (pre ++ (xs ++ sp)).toArray, rfl, hl, fun L0 w hI => ⟨E, (0, 0), ?_⟩, fun j x hj => ?_⟩
    · exact ((t.inv hI).own (b, _) (by simp)).1
    · have : j < xs.length := (List.getElem?_eq_some_iff.1 hj).1
      simp only [List.getElem?_toArray]
      rw [List.getElem?_append_right (by omega), hq, Nat.add_sub_cancel_left, List.getElem?_append_left this]; exact hj
/-- Cut at its head. -/
theorem GO.tail {E : TypeId} {s n c : Nat} {a : Option Addr} {xs ys : List Value} {Lg : Lst} (h : GO E s (.slice a (n + 1) c) (n + 1) (xs ++ ys) Lg) (hx : xs.length = s) : 1 ≤ c ∧ GO E s (.slice (if c = 1 then a else a.map (·.add (1 * s))) n (c - 1)) n ys Lg := by
  obtain ⟨hl, ⟨_, h0, _⟩ | ⟨b', c', q', pre, sp, he, hnc, hcm, hq, hsp, rfl⟩⟩ := h
  · omega
  · injection he with e1 e2 e3
    subst e1 e3
    rw [List.length_append, hx, Nat.add_mul, Nat.one_mul] at hl
    refine ⟨by omega, ?_⟩
    by_cases h1 : c = 1
    · rw [if_pos h1]
      have hn : n = 0 := by omega
      subst hn
      have hy : ys = [] := List.eq_nil_of_length_eq_zero (by omega)
      subst hy
      exact ⟨by simp, .inr ⟨b', c - 1, q', pre, xs ++ sp, rfl, by omega, by omega, hq, by simp [h1], by simp⟩⟩
    · rw [if_neg h1]
      have h2 : c - 1 - n = c - (n + 1) := by omega
      exact ⟨by omega, .inr ⟨b', c - 1, q' + s, pre ++ xs, sp, by simp [Addr.add], by omega, by omega, by rw [List.length_append, hq, hx], by rw [h2]; exact hsp, by simp [List.append_assoc]⟩⟩
section
variable {P : Program} {C : KA} {m : Mem} {L : Lst} {ty : TypeId}
theorem run_append_room_off (w : World) (t ty e : TypeId) (i : TypeInfo) (ht : P.underlying t = some (.slice e)) (hi : P.info? e = some i)
    (g off sLen sCap : Nat) (cur : Array Value) (hg : w.heap[g]? = some (.cells cur e (0, 0)))
    (a : Addr) (m c : Nat) (news : List Value) (hl : news.length = m * i.size) (hnews : ∀ j u, news[j]? = some u → w.cell? (a.add j) = some u) (h1 : ∀ u ∈ news, u.oneCell' = true)
    (hroom : sLen + m ≤ sCap) (hfit : off + sLen * i.size + news.length ≤ cur.size) :
    (Builtin.append_ #[t, t] ty #[.slice (some ⟨g, off, none⟩) sLen sCap, .slice (some a) m c]).run P w =
      .ok (.slice (some ⟨g, off, none⟩) (sLen + m) sCap) (w.setRow g (cur.toList.take (off + sLen * i.size) ++ news ++ cur.toList.drop (off + sLen * i.size + news.length)).toArray) := by
  have hf := run_firstCells_some (P := P) w i.size m a m c news hl hnews
  have hst := run_storeCells_at P g (off + sLen * i.size) e news 0 cur w hg (by simpa using hfit) h1
  simp only [Nat.add_zero] at hst
  simp [Builtin.append_, run_underlying ht, sizeOf, typeInfo, hi, Builtin.lenOf, hroom, hf, Addr.add_lit, hst]
theorem run_append_go {T E : TypeId} {s by_ : Nat} {z : List Value} (h : slInfo P T = some (E, s, by_, z)) (hz : z.length = s) (hs0 : 0 < s) {v x : Value} {n k : Nat} {xs news : List Value} {Lg Lr : Lst} {w : World}
    (hg : GO E s v n xs Lg) (hI : Inv m (Lg ++ Lr) w) (hx : SlAt m (Lg ++ Lr) x k s news) (h1 : oneAll news = true) (hb : (n + k) * by_ ≤ 140737488355328) (hm : n + k ≤ maxLen) :
    ∃ v' w' Lg', (Builtin.append_ #[T, T] ty #[v, x]).run P w = .ok v' w' ∧ GO E s v' (n + k) (xs ++ news) Lg' ∧ Inv m (Lg' ++ Lr) w' := by
  obtain ⟨hu, i, zv, hi, hzv, rfl, rfl, rfl⟩ := slInfo_parts h
  have hzs : zv.cells.size = i.size := by simpa using hz
  have hsmall : n + k ≤ 9223372036854775807 := by simp only [maxLen] at hm; omega
  have hone : ∀ u ∈ news, u.oneCell' = true := fun u hu => List.all_eq_true.1 h1 u hu
  obtain ⟨hl, hcase⟩ := hg
  have hnews : news.length = k * i.size ∧ (k = 0 ∨ ∃ b o c cs T' f, x = .slice (some ⟨b, o, none⟩) k c ∧ w.heap[b]? = some (.cells cs T' f) ∧ ∀ j y, news[j]? = some y → cs[o + j]? = some y) := by
    rcases hx with ⟨rfl, rfl, _⟩ | ⟨b, o, c, cs, rfl, hln, hat, hc⟩
    · exact ⟨by simp, .inl rfl⟩
    · obtain ⟨T', f, hbk⟩ := hat [] w (by simpa using hI)
      exact ⟨hln, .inr ⟨b, o, c, cs, T', f, rfl, hbk, hc⟩⟩
  obtain ⟨hln, hsrc⟩ := hnews
  by_cases hk : k = 0
  · subst hk
    have hnil : news = [] := List.eq_nil_of_length_eq_zero (by simpa using hln)
    subst hnil
    have hxv : ∃ p c, x = .slice p 0 c := by
      rcases hx with ⟨_, _, h⟩ | ⟨b, o, c, cs, rfl, _⟩
      · exact h
      · exact ⟨_, _, rfl⟩
    obtain ⟨p, c, rfl⟩ := hxv
    refine ⟨v, w, Lg, ?_, by rw [Nat.add_zero, List.append_nil]; exact ⟨hl, hcase⟩, hI⟩
    have hf : (Builtin.firstCells i.size 0 (.slice p 0 c)).run P w = .ok #[] w := by
      cases p <;> simp [Builtin.firstCells, loadCells, loadCellsFrom]
    rcases hcase with ⟨rfl, rfl, rfl⟩ | ⟨b, c', q, pre, sp, rfl, hnc, _⟩
    · simp [Builtin.append_, run_underlying hu, sizeOf, typeInfo, hi, Builtin.lenOf, hf]
    · simp [Builtin.append_, run_underlying hu, sizeOf, typeInfo, hi, Builtin.lenOf, hf, hnc, storeCells]
  · rcases hsrc with h0 | ⟨b2, o2, c2, cs2, T2, f2, rfl, hb2, hc2⟩
    · exact absurd h0 hk
    have hcell : ∀ j y, news[j]? = some y → w.cell? ((⟨b2, o2, none⟩ : Addr).add j) = some y := by
      intro j y hj; rw [add_at, cell_at hb2]; exact hc2 j y hj
    rcases hcase with ⟨rfl, rfl, rfl⟩ | ⟨b, c, q, pre, sp, rfl, hnc, hcm, hq, hsp, rfl⟩
    · have hxs : xs = [] := List.eq_nil_of_length_eq_zero (by simpa using hl)
      subst hxs
      have hr := run_append_nil (P := P) w T ty E i zv hu hi hzv ⟨b2, o2, none⟩ k c2 news hln hcell (by omega) (by omega) (by simp only [Nat.zero_add] at hb; omega)
      refine ⟨_, _, [(w.heap.size, .cells (news ++ (Builtin.zeroCells zv.cells (grownCap w k 0 E - k)).toList).toArray E (0, 0))], hr, ?_, ?_⟩
      · have hge := grownCap_ge w k 0 E
        refine ⟨by simpa using hln, .inr ⟨w.heap.size, _, 0, [], (Builtin.zeroCells zv.cells (grownCap w k 0 E - k)).toList, by simp, by simpa using hge, grownCap_le_maxLen w k 0 E (by omega), rfl, ?_, by simp⟩⟩
        simp [size_zeroCells, hzs]
      · have := grown_inv (o := .cells (news ++ (Builtin.zeroCells zv.cells (grownCap w k 0 E - k)).toList).toArray E (0, 0)) hI
        have e : (news.toArray ++ Builtin.zeroCells zv.cells (grownCap w k 0 E - k)) = (news ++ (Builtin.zeroCells zv.cells (grownCap w k 0 E - k)).toList).toArray := by
          apply Array.ext'; simp
        rw [e]; exact this
    · have hb0 : w.heap[b]? = some (.cells (pre ++ (xs ++ sp)).toArray E (0, 0)) := (hI.own (b, _) (by simp)).1
      by_cases hroom : n + k ≤ c
      · have hks : k * i.size ≤ (c - n) * i.size := Nat.mul_le_mul_right _ (by omega)
        have hfit : q + n * i.size + news.length ≤ ((pre ++ (xs ++ sp)).toArray).size := by
          rw [List.size_toArray, List.length_append, List.length_append, hl, hln, hq]
          omega
        have hr := run_append_room_off (P := P) w T ty E i hu hi b q n c (pre ++ (xs ++ sp)).toArray hb0 ⟨b2, o2, none⟩ k c2 news hln hcell hone hroom hfit
        have etake : (pre ++ (xs ++ sp)).toArray.toList.take (q + n * i.size) = pre ++ xs := by simp only [List.toList_toArray]; rw [← hl, ← hq, ← List.length_append, ← List.append_assoc]; exact List.take_left
        have edrop : (pre ++ (xs ++ sp)).toArray.toList.drop (q + n * i.size + news.length) = sp.drop news.length := by simp only [List.toList_toArray]; rw [← hl, ← hq, ← List.length_append, ← List.append_assoc]; exact drop_app (pre ++ xs) sp _
        rw [etake, edrop] at hr
        refine ⟨_, _, [(b, .cells (pre ++ (xs ++ news ++ sp.drop news.length)).toArray E (0, 0))], hr, ?_, ?_⟩
        · refine ⟨by rw [List.length_append, hl, hln, Nat.add_mul], .inr ⟨b, c, q, pre, sp.drop news.length, rfl, hroom, hcm, hq, ?_, by simp⟩⟩
          rw [List.length_drop, hln, show c - (n + k) = c - n - k by omega, Nat.sub_mul]; omega
        · exact Inv.setObj hI (by have := setRow_heap w b (pre ++ (xs ++ sp)).toArray (pre ++ (xs ++ news ++ sp.drop news.length)).toArray E (0, 0) hb0; simpa using this)
            (fun q hq => setRow_other w b q _ hq) rfl rfl rfl
      · have hold : ∀ j u, xs[j]? = some u → w.cell? ((⟨b, q, none⟩ : Addr).add j) = some u := by
          intro j u hj
          have hlt : j < xs.length := (List.getElem?_eq_some_iff.1 hj).1
          rw [add_at, cell_at hb0]; simp only [List.getElem?_toArray]
          rw [List.getElem?_append_right (by omega), hq, Nat.add_sub_cancel_left, List.getElem?_append_left hlt]; exact hj
        have hr := run_append_grow (P := P) w T ty E i zv hu hi hzv ⟨b, q, none⟩ n c xs hl hold ⟨b2, o2, none⟩ k c2 news hln hcell (by omega) (by omega) (growslice_fits (by omega) hb)
        have hge := grownCap_ge w (n + k) c E
        refine ⟨_, _, [(w.heap.size, .cells (xs ++ news ++ (Builtin.zeroCells zv.cells (grownCap w (n + k) c E - (n + k))).toList).toArray E (0, 0))], hr, ?_, ?_⟩
        · refine ⟨by rw [List.length_append, hl, hln, Nat.add_mul], .inr ⟨w.heap.size, _, 0, [], _, rfl, hge, grownCap_le_maxLen w (n + k) c E hm, rfl, ?_, rfl⟩⟩
          simp [size_zeroCells, hzs]
        · have := grown_inv (o := .cells (xs ++ news ++ (Builtin.zeroCells zv.cells (grownCap w (n + k) c E - (n + k))).toList).toArray E (0, 0)) hI.drop
          have e : (xs.toArray ++ news.toArray ++ Builtin.zeroCells zv.cells (grownCap w (n + k) c E - (n + k))) = (xs ++ news ++ (Builtin.zeroCells zv.cells (grownCap w (n + k) c E - (n + k))).toList).toArray := by
            apply Array.ext'; simp
          rw [e]; exact this
/-- An append to a slice that grows. -/
theorem bi_append_o {T E : TypeId} {s by_ : Nat} {z : List Value} {v x : Value} {n k : Nat} {xs news : List Value} {Lg L' : Lst} {cs : Array Bool} (hg : GO E s v n xs Lg) (t : TakeL L Lg L') (hx : SlAt m L x k s news)
    (h : slInfo P T = some (E, s, by_, z)) (hz : z.length = s) (hs0 : 0 < s) (h1 : oneAll news = true) (hb : (n + k) * by_ ≤ 140737488355328) (hm : n + k ≤ maxLen)
    (hk : ∀ v' Lg', GO E s v' (n + k) (xs ++ news) Lg' → C.k v' m (Lg' ++ L')) : biA P .append #[T, T] ty cs [v, x] m L := by
  intro L0 w hI
  rw [bi_val rfl]
  have hI2 := t.inv hI
  have hx2 : SlAt m (Lg ++ (L' ++ L0)) x k s news := by
    rcases hx with h | ⟨b, o, c, cs, h1, h2, h3, h4⟩
    · exact .inl h
    · refine .inr ⟨b, o, c, cs, h1, h2, fun L1 w1 hI1 => h3 (L0 ++ L1) w1 ?_, h4⟩
      refine hI1.perm ?_
      have := (t.perm.append_right (L0 ++ L1)).symm
      simpa [List.append_assoc] using this
  obtain ⟨v', w', Lg', hr, hg', hI'⟩ := run_append_go (ty := ty) h hz hs0 hg hI2 hx2 h1 hb hm
  unfold runV
  rw [hr]
  exact ⟨m, Lg' ++ L', by rw [List.append_assoc]; exact hI', hk v' Lg' hg'⟩
end
end Go.Eng
