/- Layer 1: what Spans makes holds what is made of the numbers, and is wider of wider spans: plain laws. -/
import Derived.Test.YtnmpclmkjkfafaaPlain3
set_option linter.all false
namespace Go.Arith
open Go Go.Eng
def InS (s : Sp) (n : Int) : Prop := s.1 ≤ n ∧ n ≤ s.2
theorem has_iff (s : Sp) (n : Int) : hasS s n = true ↔ InS s n := by simp [hasS, InS]
theorem empty_iff (s : Sp) : emptyS s = true ↔ s.2 < s.1 := by simp [emptyS]
theorem mul_ends (x l h y : Int) (hl : l ≤ x) (hh : x ≤ h) : (x * y ≤ l * y ∨ x * y ≤ h * y) ∧ (l * y ≤ x * y ∨ h * y ≤ x * y) := by
  rcases Int.le_total 0 y with hy | hy
  · exact ⟨.inr (Int.mul_le_mul_of_nonneg_right hh hy), .inl (Int.mul_le_mul_of_nonneg_right hl hy)⟩
  · exact ⟨.inl (Int.mul_le_mul_of_nonpos_right hl hy), .inr (Int.mul_le_mul_of_nonpos_right hh hy)⟩
theorem exF_l (op x y : Int) (a : Sp) (h : InS a x) : (exF op x y ≤ exF op a.1 y ∨ exF op x y ≤ exF op a.2 y) ∧ (exF op a.1 y ≤ exF op x y ∨ exF op a.2 y ≤ exF op x y) := by
  obtain ⟨h1, h2⟩ := h
  unfold exF
  split
  · omega
  · split
    · omega
    · exact mul_ends x a.1 a.2 y h1 h2
theorem exF_r (op x y : Int) (b : Sp) (h : InS b y) : (exF op x y ≤ exF op x b.1 ∨ exF op x y ≤ exF op x b.2) ∧ (exF op x b.1 ≤ exF op x y ∨ exF op x b.2 ≤ exF op x y) := by
  obtain ⟨h1, h2⟩ := h
  unfold exF
  split
  · omega
  · split
    · omega
    · rw [Int.mul_comm x y, Int.mul_comm x b.1, Int.mul_comm x b.2]; exact mul_ends y b.1 b.2 x h1 h2
/-- A number between the least and the greatest of four. -/
def Btw (z e1 e2 e3 e4 : Int) : Prop := (z ≤ e1 ∨ z ≤ e2 ∨ z ≤ e3 ∨ z ≤ e4) ∧ (e1 ≤ z ∨ e2 ≤ z ∨ e3 ≤ z ∨ e4 ≤ z)
theorem btw (op x y : Int) (a b : Sp) (hx : InS a x) (hy : InS b y) : Btw (exF op x y) (exF op a.1 b.1) (exF op a.1 b.2) (exF op a.2 b.1) (exF op a.2 b.2) := by
  obtain ⟨u1, d1⟩ := exF_l op x y a hx
  obtain ⟨u2, d2⟩ := exF_r op a.1 y b hy
  obtain ⟨u3, d3⟩ := exF_r op a.2 y b hy
  unfold Btw
  generalize exF op x y = z at *
  generalize exF op a.1 y = z1 at *
  generalize exF op a.2 y = z2 at *
  generalize exF op a.1 b.1 = e1 at *
  generalize exF op a.1 b.2 = e2 at *
  generalize exF op a.2 b.1 = e3 at *
  generalize exF op a.2 b.2 = e4 at *
  omega
theorem join_none (c : Int) : joinS noneS (c, c) = (c, c) := by simp [joinS, noneS, emptyS]
theorem join_one (s : Sp) (c : Int) (h : s.1 ≤ s.2) : joinS s (c, c) = (mnI s.1 c, mxI s.2 c) ∧ (mnI s.1 c, mxI s.2 c).1 ≤ (mnI s.1 c, mxI s.2 c).2 := by
  have h1 : ¬ s.2 < s.1 := by omega
  refine ⟨by simp [joinS, emptyS, h1], ?_⟩
  simp only [mnI, mxI]; split <;> split <;> omega
/-- The corners: their least and greatest, or all numbers. -/
theorem corners_val (op : Int) (a b : Sp) (h : op = 1 ∨ op = 2 ∨ op = 3) (ha : R64 a.1 ∧ R64 a.2) (hb : R64 b.1 ∧ R64 b.2) :
    ((R64 (exF op a.1 b.1) ∧ R64 (exF op a.1 b.2) ∧ R64 (exF op a.2 b.1) ∧ R64 (exF op a.2 b.2)) ∧
      cornersF op a b = (mnI (mnI (mnI (exF op a.1 b.1) (exF op a.1 b.2)) (exF op a.2 b.1)) (exF op a.2 b.2), mxI (mxI (mxI (exF op a.1 b.1) (exF op a.1 b.2)) (exF op a.2 b.1)) (exF op a.2 b.2))) ∨
    (¬ (R64 (exF op a.1 b.1) ∧ R64 (exF op a.1 b.2) ∧ R64 (exF op a.2 b.1) ∧ R64 (exF op a.2 b.2)) ∧ cornersF op a b = wholeS) := by
  obtain ⟨v1, k1⟩ := corner_iff op a.1 b.1 h ha.1 hb.1
  obtain ⟨v2, k2⟩ := corner_iff op a.1 b.2 h ha.1 hb.2
  obtain ⟨v3, k3⟩ := corner_iff op a.2 b.1 h ha.2 hb.1
  obtain ⟨v4, k4⟩ := corner_iff op a.2 b.2 h ha.2 hb.2
  unfold cornersF stepC
  generalize cornerF op a.1 b.1 = c1 at *
  generalize cornerF op a.1 b.2 = c2 at *
  generalize cornerF op a.2 b.1 = c3 at *
  generalize cornerF op a.2 b.2 = c4 at *
  generalize exF op a.1 b.1 = e1 at *
  generalize exF op a.1 b.2 = e2 at *
  generalize exF op a.2 b.1 = e3 at *
  generalize exF op a.2 b.2 = e4 at *
  by_cases h1 : c1.2 = true
  · by_cases h2 : c2.2 = true
    · by_cases h3 : c3.2 = true
      · by_cases h4 : c4.2 = true
        · left
          have r1 := k1.1 h1
          have r2 := k2.1 h2
          have r3 := k3.1 h3
          have r4 := k4.1 h4
          refine ⟨⟨r1, r2, r3, r4⟩, ?_⟩
          simp only [if_pos h1, if_pos h2, if_pos h3, if_pos h4]
          rw [v1, v2, v3, v4, w64_of _ r1, w64_of _ r2, w64_of _ r3, w64_of _ r4, join_none]
          obtain ⟨q1, q2⟩ := join_one (e1, e1) e2 (Int.le_refl _)
          rw [q1]
          obtain ⟨q3, q4⟩ := join_one (mnI e1 e2, mxI e1 e2) e3 q2
          dsimp only at q3 ⊢
          rw [q3]
          obtain ⟨q5, q6⟩ := join_one (mnI (mnI e1 e2) e3, mxI (mxI e1 e2) e3) e4 q4
          exact q5
        · right; exact ⟨fun hc => h4 (k4.2 hc.2.2.2), by simp only [if_pos h1, if_pos h2, if_pos h3, if_neg h4]⟩
      · right; exact ⟨fun hc => h3 (k3.2 hc.2.2.1), by simp only [if_pos h1, if_pos h2, if_neg h3]⟩
    · right; exact ⟨fun hc => h2 (k2.2 hc.2.1), by simp only [if_pos h1, if_neg h2]⟩
  · right; exact ⟨fun hc => h1 (k1.2 hc.1), by simp only [if_neg h1]⟩
theorem whole_in {z : Int} (h : R64 z) : InS wholeS z := h
theorem btw_in {z e1 e2 e3 e4 : Int} (h : Btw z e1 e2 e3 e4) : InS (mnI (mnI (mnI e1 e2) e3) e4, mxI (mxI (mxI e1 e2) e3) e4) z := by
  obtain ⟨h1, h2⟩ := h
  have m1 : ∀ x y : Int, mnI x y ≤ x ∧ mnI x y ≤ y := fun x y => by unfold mnI; split <;> omega
  have m2 : ∀ x y : Int, x ≤ mxI x y ∧ y ≤ mxI x y := fun x y => by unfold mxI; split <;> omega
  have a1 := m1 e1 e2
  have a2 := m1 (mnI e1 e2) e3
  have a3 := m1 (mnI (mnI e1 e2) e3) e4
  have b1 := m2 e1 e2
  have b2 := m2 (mxI e1 e2) e3
  have b3 := m2 (mxI (mxI e1 e2) e3) e4
  constructor
  · show mnI _ _ ≤ z; omega
  · show z ≤ mxI _ _; omega
theorem btw_R {z e1 e2 e3 e4 : Int} (h : Btw z e1 e2 e3 e4) (r1 : R64 e1) (r2 : R64 e2) (r3 : R64 e3) (r4 : R64 e4) : R64 z := by
  unfold R64 Btw at *; omega
theorem do_exF (op x y : Int) (h : op = 1 ∨ op = 2 ∨ op = 3) : doF op x y = (w64 (exF op x y), 0) := by
  rcases h with rfl | rfl | rfl <;> rfl
/-- Sums, differences, products. -/
theorem held_ring (op x y : Int) (a b : Sp) (h : op = 1 ∨ op = 2 ∨ op = 3) (ha : R64 a.1 ∧ R64 a.2) (hb : R64 b.1 ∧ R64 b.2) (hx : InS a x) (hy : InS b y) : InS (cornersF op a b) (doF op x y).1 := by
  rw [do_exF op x y h]
  have hbt := btw op x y a b hx hy
  rcases corners_val op a b h ha hb with ⟨⟨r1, r2, r3, r4⟩, e⟩ | ⟨_, e⟩
  · rw [e, w64_of _ (btw_R hbt r1 r2 r3 r4)]; exact btw_in hbt
  · rw [e]; exact whole_in (w64_R _)
theorem wider_ring (op : Int) (a b p q : Sp) (h : op = 1 ∨ op = 2 ∨ op = 3) (ha : R64 a.1 ∧ R64 a.2) (hb : R64 b.1 ∧ R64 b.2) (hp : R64 p.1 ∧ R64 p.2) (hq : R64 q.1 ∧ R64 q.2)
    (a1 : InS p a.1) (a2 : InS p a.2) (b1 : InS q b.1) (b2 : InS q b.2) : InS (cornersF op p q) (cornersF op a b).1 ∧ InS (cornersF op p q) (cornersF op a b).2 := by
  have t1 := btw op a.1 b.1 p q a1 b1
  have t2 := btw op a.1 b.2 p q a1 b2
  have t3 := btw op a.2 b.1 p q a2 b1
  have t4 := btw op a.2 b.2 p q a2 b2
  rcases corners_val op p q h hp hq with ⟨⟨r1, r2, r3, r4⟩, e⟩ | ⟨_, e⟩
  · rcases corners_val op a b h ha hb with ⟨_, e'⟩ | ⟨hn, _⟩
    · have u1 := btw_in t1
      have u2 := btw_in t2
      have u3 := btw_in t3
      have u4 := btw_in t4
      rw [e, e']
      generalize (mnI (mnI (mnI (exF op p.1 q.1) (exF op p.1 q.2)) (exF op p.2 q.1)) (exF op p.2 q.2), mxI (mxI (mxI (exF op p.1 q.1) (exF op p.1 q.2)) (exF op p.2 q.1)) (exF op p.2 q.2)) = s at *
      have m1 : ∀ x y : Int, InS s x → InS s y → InS s (mnI x y) := fun x y h1 h2 => by unfold mnI; split <;> assumption
      have m2 : ∀ x y : Int, InS s x → InS s y → InS s (mxI x y) := fun x y h1 h2 => by unfold mxI; split <;> assumption
      exact ⟨m1 _ _ (m1 _ _ (m1 _ _ u1 u2) u3) u4, m2 _ _ (m2 _ _ (m2 _ _ u1 u2) u3) u4⟩
    · exact absurd ⟨btw_R t1 r1 r2 r3 r4, btw_R t2 r1 r2 r3 r4, btw_R t3 r1 r2 r3 r4, btw_R t4 r1 r2 r3 r4⟩ hn
  · rw [e]
    rcases corners_val op a b h ha hb with ⟨⟨r1, r2, r3, r4⟩, e'⟩ | ⟨_, e'⟩
    · have m1 : ∀ x y : Int, R64 x → R64 y → R64 (mnI x y) := fun x y h1 h2 => by unfold mnI; split <;> assumption
      have m2 : ∀ x y : Int, R64 x → R64 y → R64 (mxI x y) := fun x y h1 h2 => by unfold mxI; split <;> assumption
      rw [e']
      exact ⟨m1 _ _ (m1 _ _ (m1 _ _ r1 r2) r3) r4, m2 _ _ (m2 _ _ (m2 _ _ r1 r2) r3) r4⟩
    · rw [e']; exact ⟨whole_in ⟨by decide, by decide⟩, whole_in ⟨by decide, by decide⟩⟩
theorem bits_and_le (x y : Int) (hx : 0 ≤ x) (hx2 : R64 x) (hy : 0 ≤ y) (hy2 : R64 y) : 0 ≤ bitsK .and .i64 x y ∧ bitsK .and .i64 x y ≤ x ∧ bitsK .and .i64 x y ≤ y := by
  obtain ⟨n, k, _, h1, h2, h3, _⟩ := bits_of x y
  have l1 : n &&& k ≤ n := Nat.and_le_left
  have l2 : n &&& k ≤ k := Nat.and_le_right
  rw [h3]
  unfold R64 at *
  unfold w64
  omega
theorem tmod_in (x d : Int) (hd : 0 < d) : 1 - d ≤ x.tmod d ∧ x.tmod d ≤ d - 1 ∧ (0 ≤ x → 0 ≤ x.tmod d) := by
  have h1 := Int.tmod_lt_of_pos x hd
  refine ⟨?_, by omega, fun h => Int.tmod_nonneg _ h⟩
  have h2 := Int.tmod_lt_of_pos (-x) hd
  rw [Int.neg_tmod] at h2
  omega
theorem name_ok (op : Int) (h : nameF op ≠ ⟨#[]⟩) : 1 ≤ op ∧ op ≤ 15 := by
  unfold nameF at h
  by_cases h1 : op < 0 ∨ 16 ≤ op
  · rw [if_pos h1] at h; exact absurd rfl h
  · rw [if_neg h1] at h
    have : op ≠ 0 := by rintro rfl; exact h rfl
    omega
theorem name_none (op : Int) (h : ¬ (1 ≤ op ∧ op ≤ 15)) : nameF op = ⟨#[]⟩ := by
  unfold nameF
  by_cases h1 : op < 0 ∨ 16 ≤ op
  · rw [if_pos h1]
  · rw [if_neg h1]
    have : op = 0 := by omega
    subst this; rfl
/-- What an operation that takes one number makes does not hang on the other. -/
theorem do_un (op x y z : Int) (h : unF op = true) : doF op x y = doF op x z := by
  simp only [unF, decide_eq_true_eq] at h
  unfold doF
  rcases h with rfl | rfl | rfl <;> simp
def RS (s : Sp) : Prop := R64 s.1 ∧ R64 s.2
/-- Spans, case by case, where nothing is empty and not both are single. -/
def tailF (op : Int) (a b : Sp) : Sp :=
  if op ≤ 3 then cornersF op a b
  else if op = 11 ∨ op = 12 then comparedS op a b
  else if op = 13 ∧ a.1 ≠ -9223372036854775808 then (w64 (-a.2), w64 (-a.1))
  else if op = 14 ∧ hasS a 0 then (0, 1)
  else if op = 14 then (0, 0)
  else if op = 8 ∧ 0 ≤ a.1 ∧ 0 ≤ b.1 then (0, mnI a.2 b.2)
  else if op = 5 ∧ isOne b ∧ 0 < b.1 then restS a b
  else wholeS
theorem tail_held (op x y : Int) (a b : Sp) (ho : 1 ≤ op ∧ op ≤ 15) (ha : RS a) (hb : RS b) (hx : InS a x) (hy : InS b y) (ht : (doF op x y).2 = 0) : InS (tailF op a b) (doF op x y).1 := by
  have rx : R64 x := by unfold RS R64 InS at *; omega
  have ry : R64 y := by unfold RS R64 InS at *; omega
  have hw := whole_in (doF_R op x y rx ry)
  unfold tailF
  by_cases h1 : op ≤ 3
  · rw [if_pos h1]
    exact held_ring op x y a b (by omega) ha hb hx hy
  · rw [if_neg h1]
    by_cases h2 : op = 11 ∨ op = 12
    · rw [if_pos h2]
      unfold comparedS
      obtain ⟨x1, x2⟩ := hx
      obtain ⟨y1, y2⟩ := hy
      rcases h2 with rfl | rfl
      · show tr _ ≤ tr _ ∧ tr _ ≤ tr _
        unfold tr
        simp only [decide_eq_true_eq]
        constructor <;> split <;> split <;> omega
      · show tr _ ≤ tr _ ∧ tr _ ≤ tr _
        unfold tr
        simp only [decide_eq_true_eq]
        constructor <;> split <;> split <;> omega
    · rw [if_neg h2]
      by_cases h3 : op = 13 ∧ a.1 ≠ -9223372036854775808
      · rw [if_pos h3]
        obtain ⟨rfl, h3⟩ := h3
        show w64 (-a.2) ≤ w64 (-x) ∧ w64 (-x) ≤ w64 (-a.1)
        unfold RS R64 InS at *
        unfold w64
        omega
      · rw [if_neg h3]
        by_cases h4 : op = 14 ∧ hasS a 0
        · rw [if_pos h4]
          obtain ⟨rfl, _⟩ := h4
          show 0 ≤ tr _ ∧ tr _ ≤ 1
          unfold tr; split <;> omega
        · rw [if_neg h4]
          by_cases h5 : op = 14
          · rw [if_pos h5]
            subst h5
            have : ¬ InS a 0 := fun hc => h4 ⟨rfl, (has_iff a 0).2 hc⟩
            have hx0 : x ≠ 0 := by rintro rfl; exact this hx
            show 0 ≤ tr _ ∧ tr _ ≤ 0
            unfold tr; simp [hx0]
          · rw [if_neg h5]
            by_cases h6 : op = 8 ∧ 0 ≤ a.1 ∧ 0 ≤ b.1
            · rw [if_pos h6]
              obtain ⟨rfl, h6, h7⟩ := h6
              obtain ⟨x1, x2⟩ := hx
              obtain ⟨y1, y2⟩ := hy
              obtain ⟨q1, q2, q3⟩ := bits_and_le x y (by omega) rx (by omega) ry
              show 0 ≤ bitsK .and .i64 x y ∧ bitsK .and .i64 x y ≤ mnI a.2 b.2
              unfold mnI; split <;> omega
            · rw [if_neg h6]
              by_cases h7 : op = 5 ∧ isOne b ∧ 0 < b.1
              · rw [if_pos h7]
                obtain ⟨rfl, h7, h8⟩ := h7
                simp only [isOne, decide_eq_true_eq, true_and] at h7
                obtain ⟨y1, y2⟩ := hy
                have hyb : y = b.1 := by omega
                subst hyb
                have hne : b.1 ≠ 0 := by omega
                have hn1 : b.1 ≠ -1 := by omega
                have hd : (doF 5 x b.1).1 = x.tmod b.1 := by
                  show (divF 5 x b.1).1 = _
                  unfold divF
                  rw [if_neg hne, if_neg (by omega), if_neg hn1, if_neg (by decide)]
                rw [hd]
                obtain ⟨q1, q2, q3⟩ := tmod_in x b.1 h8
                unfold restS
                unfold RS R64 at *
                have w1 : w64 (1 - b.1) = 1 - b.1 := by unfold w64; omega
                have w2 : w64 (b.1 - 1) = b.1 - 1 := by unfold w64; omega
                rw [w1, w2]
                obtain ⟨x1, x2⟩ := hx
                constructor
                · dsimp only; split
                  · exact q3 (by omega)
                  · exact q1
                · exact q2
              · rw [if_neg h7]; exact hw
def coreF (op : Int) (a b : Sp) : Sp := if isOne a && isOne b && decide ((doF op a.1 b.1).2 = 0) then ((doF op a.1 b.1).1, (doF op a.1 b.1).1) else tailF op a b
theorem core_held (op x y : Int) (a b : Sp) (ho : 1 ≤ op ∧ op ≤ 15) (ha : RS a) (hb : RS b) (hx : InS a x) (hy : InS b y) (ht : (doF op x y).2 = 0) : InS (coreF op a b) (doF op x y).1 := by
  unfold coreF
  by_cases h1 : (isOne a && isOne b && decide ((doF op a.1 b.1).2 = 0)) = true
  · rw [if_pos h1]
    simp only [isOne, Bool.and_eq_true, decide_eq_true_eq, true_and] at h1
    obtain ⟨⟨h1, h2⟩, _⟩ := h1
    unfold InS at hx hy
    have ex : x = a.1 := by omega
    have ey : y = b.1 := by omega
    subst ex ey
    exact ⟨Int.le_refl _, Int.le_refl _⟩
  · rw [if_neg h1]
    exact tail_held op x y a b ho ha hb hx hy ht
theorem name_some (op : Int) (h : 1 ≤ op ∧ op ≤ 15) : nameF op ≠ ⟨#[]⟩ := by
  intro hc
  have hv : op = 1 ∨ op = 2 ∨ op = 3 ∨ op = 4 ∨ op = 5 ∨ op = 6 ∨ op = 7 ∨ op = 8 ∨ op = 9 ∨ op = 10 ∨ op = 11 ∨ op = 12 ∨ op = 13 ∨ op = 14 ∨ op = 15 := by omega
  rcases hv with rfl | rfl | rfl | rfl | rfl | rfl | rfl | rfl | rfl | rfl | rfl | rfl | rfl | rfl | rfl <;> exact absurd (congrArg ByteArray.size hc) (by decide)
def flatB (op : Int) (b : Sp) : Sp := if unF op then (0, 0) else b
theorem spansF_eq (op : Int) (a b : Sp) : spansF op a b = if 1 ≤ op ∧ op ≤ 15 ∧ emptyS a = false ∧ emptyS (flatB op b) = false then coreF op a (flatB op b) else noneS := by
  have e : spansF op a b = if (decide (nameF op = ⟨#[]⟩) || emptyS a || emptyS (flatB op b)) = true then noneS else coreF op a (flatB op b) := rfl
  rw [e]
  by_cases ho : 1 ≤ op ∧ op ≤ 15
  · have hn := name_some op ho
    cases h1 : emptyS a with
    | true => simp
    | false =>
      cases h2 : emptyS (flatB op b) with
      | true => simp
      | false => simp [hn, ho.1, ho.2]
  · have hn := name_none op ho
    rw [if_pos (by simp [hn]), if_neg (fun hc => ho ⟨hc.1, hc.2.1⟩)]
theorem tail_ring (op : Int) (a b : Sp) (h : op ≤ 3) : tailF op a b = cornersF op a b := by unfold tailF; rw [if_pos h]
theorem tail_cmp (op : Int) (a b : Sp) (h : op = 11 ∨ op = 12) : tailF op a b = comparedS op a b := by unfold tailF; rw [if_neg (by omega), if_pos h]
theorem tail_13 (a b : Sp) : tailF 13 a b = if a.1 ≠ -9223372036854775808 then (w64 (-a.2), w64 (-a.1)) else wholeS := by simp [tailF]
theorem tail_14 (a b : Sp) : tailF 14 a b = if hasS a 0 = true then (0, 1) else (0, 0) := by simp [tailF]
theorem tail_8 (a b : Sp) : tailF 8 a b = if 0 ≤ a.1 ∧ 0 ≤ b.1 then (0, mnI a.2 b.2) else wholeS := by simp [tailF]
theorem tail_5 (a b : Sp) : tailF 5 a b = if isOne b = true ∧ 0 < b.1 then restS a b else wholeS := by simp [tailF]
theorem tail_else (op : Int) (a b : Sp) (h : 3 < op) (h2 : ¬ (op = 11 ∨ op = 12)) (h3 : op ≠ 13) (h4 : op ≠ 14) (h5 : op ≠ 8) (h6 : op ≠ 5) : tailF op a b = wholeS := by
  unfold tailF
  rw [if_neg (by omega), if_neg h2, if_neg (fun hc => h3 hc.1), if_neg (fun hc => h4 hc.1), if_neg h4, if_neg (fun hc => h5 hc.1), if_neg (fun hc => h6 hc.1)]
/-- Of numbers that are in two spans an operation makes a number that is in what Spans says. -/
theorem spans_held (op x y : Int) (a b : Sp) (ha : RS a) (hb : RS b) (hx : InS a x) (hy : unF op = true ∨ InS b y) (ht : (doF op x y).2 = 0) : InS (spansF op a b) (doF op x y).1 := by
  have hn : 1 ≤ op ∧ op ≤ 15 := by
    refine Classical.byContradiction fun hc => ?_
    have : (doF op x y).2 = 6 := by
      unfold doF
      repeat' (first | rw [if_neg (by omega)])
    omega
  have e1 : emptyS a = false := by simp [emptyS]; unfold InS at hx; omega
  rw [spansF_eq]
  cases hu : unF op with
  | true =>
    have hf : flatB op b = (0, 0) := by unfold flatB; rw [if_pos hu]
    rw [hf, if_pos ⟨hn.1, hn.2, e1, rfl⟩, do_un op x y 0 hu]
    rw [do_un op x y 0 hu] at ht
    exact core_held op x 0 a (0, 0) hn ha ⟨zero_R, zero_R⟩ hx ⟨Int.le_refl _, Int.le_refl _⟩ ht
  | false =>
    have hy : InS b y := by
      rcases hy with h | h
      · rw [hu] at h; cases h
      · exact h
    have hf : flatB op b = b := by unfold flatB; rw [if_neg (by simp [hu])]
    have e2 : emptyS b = false := by simp [emptyS]; unfold InS at hy; omega
    rw [hf, if_pos ⟨hn.1, hn.2, e1, e2⟩]
    exact core_held op x y a b hn ha hb hx hy ht
theorem mn_R {x y : Int} (h1 : R64 x) (h2 : R64 y) : R64 (mnI x y) := by unfold mnI; split <;> assumption
theorem mx_R {x y : Int} (h1 : R64 x) (h2 : R64 y) : R64 (mxI x y) := by unfold mxI; split <;> assumption
theorem whole_RS : RS wholeS := ⟨⟨by decide, by decide⟩, ⟨by decide, by decide⟩⟩
theorem tail_RS (op : Int) (a b : Sp) (ho : 1 ≤ op) (ha : RS a) (hb : RS b) : RS (tailF op a b) := by
  unfold tailF
  split
  · rename_i h1
    rcases corners_val op a b (by omega) ha hb with ⟨⟨r1, r2, r3, r4⟩, e⟩ | ⟨_, e⟩
    · rw [e]; exact ⟨mn_R (mn_R (mn_R r1 r2) r3) r4, mx_R (mx_R (mx_R r1 r2) r3) r4⟩
    · rw [e]; exact whole_RS
  · split
    · rename_i h2
      unfold comparedS
      rcases h2 with rfl | rfl <;> exact ⟨tr_R _, tr_R _⟩
    · split
      · exact ⟨w64_R _, w64_R _⟩
      · split
        · exact ⟨⟨by decide, by decide⟩, ⟨by decide, by decide⟩⟩
        · split
          · exact ⟨zero_R, zero_R⟩
          · split
            · exact ⟨zero_R, mn_R ha.2 hb.2⟩
            · split
              · unfold restS; exact ⟨by dsimp only; split <;> first | exact zero_R | exact w64_R _, w64_R _⟩
              · exact whole_RS
theorem in_whole {s : Sp} (h : RS s) : InS wholeS s.1 ∧ InS wholeS s.2 := h
theorem tail_wider (op : Int) (a b p q : Sp) (ho : 1 ≤ op) (ha : RS a) (hb : RS b) (hp : RS p) (hq : RS q) (na : a.1 ≤ a.2) (nb : b.1 ≤ b.2) (a1 : InS p a.1) (a2 : InS p a.2) (b1 : InS q b.1) (b2 : InS q b.2) :
    InS (tailF op p q) (tailF op a b).1 ∧ InS (tailF op p q) (tailF op a b).2 := by
  have hr := tail_RS op a b ho ha hb
  by_cases h1 : op ≤ 3
  · rw [tail_ring op _ _ h1, tail_ring op _ _ h1]
    exact wider_ring op a b p q (by omega) ha hb hp hq a1 a2 b1 b2
  by_cases h2 : op = 11 ∨ op = 12
  · rw [tail_cmp op _ _ h2, tail_cmp op _ _ h2]
    unfold InS at a1 a2 b1 b2
    unfold comparedS
    rcases h2 with rfl | rfl
    · show (tr _ ≤ tr _ ∧ tr _ ≤ tr _) ∧ (tr _ ≤ tr _ ∧ tr _ ≤ tr _)
      unfold tr
      simp only [decide_eq_true_eq]
      refine ⟨⟨?_, ?_⟩, ?_, ?_⟩ <;> split <;> split <;> omega
    · show (tr _ ≤ tr _ ∧ tr _ ≤ tr _) ∧ (tr _ ≤ tr _ ∧ tr _ ≤ tr _)
      unfold tr
      simp only [decide_eq_true_eq]
      refine ⟨⟨?_, ?_⟩, ?_, ?_⟩ <;> split <;> split <;> omega
  by_cases h3 : op = 13
  · subst h3
    rw [tail_13 a b] at hr ⊢
    rw [tail_13]
    unfold InS at a1 a2 b1 b2
    by_cases h4 : p.1 ≠ -9223372036854775808
    · have h5 : a.1 ≠ -9223372036854775808 := by unfold RS R64 at *; omega
      rw [if_pos h4, if_pos h5]
      unfold RS R64 at *
      show (w64 _ ≤ w64 _ ∧ w64 _ ≤ w64 _) ∧ (w64 _ ≤ w64 _ ∧ w64 _ ≤ w64 _)
      unfold w64
      clear hr
      omega
    · rw [if_neg h4]; exact in_whole hr
  by_cases h4 : op = 14
  · subst h4
    rw [tail_14, tail_14]
    have hmono : hasS a 0 = true → hasS p 0 = true := by simp only [has_iff, InS] at *; omega
    by_cases h5 : hasS a 0 = true
    · rw [if_pos h5, if_pos (hmono h5)]; unfold InS; decide
    · rw [if_neg h5]
      split <;> (unfold InS; decide)
  by_cases h5 : op = 8
  · subst h5
    rw [tail_8 a b] at hr ⊢
    rw [tail_8]
    unfold InS at a1 a2 b1 b2
    by_cases h6 : 0 ≤ p.1 ∧ 0 ≤ q.1
    · have h7 : 0 ≤ a.1 ∧ 0 ≤ b.1 := by omega
      rw [if_pos h6, if_pos h7]
      unfold InS mnI
      dsimp only
      clear hr
      refine ⟨⟨by omega, ?_⟩, ?_, ?_⟩ <;> (repeat' split) <;> omega
    · rw [if_neg h6]; exact in_whole hr
  by_cases h6 : op = 5
  · subst h6
    rw [tail_5 a b] at hr ⊢
    rw [tail_5]
    unfold InS at a1 a2 b1 b2
    by_cases h7 : isOne q = true ∧ 0 < q.1
    · have h8 := h7
      simp only [isOne, decide_eq_true_eq, true_and] at h8
      have e1 : b.1 = q.1 := by omega
      have e2 : b.2 = q.1 := by omega
      have h9 : isOne b = true ∧ 0 < b.1 := by simp only [isOne, decide_eq_true_eq, true_and]; omega
      rw [if_pos h7, if_pos h9]
      clear hr h7 h9
      unfold restS InS
      unfold RS R64 at *
      rw [e1]
      have w1 : w64 (1 - q.1) = 1 - q.1 := by unfold w64; omega
      have w2 : w64 (q.1 - 1) = q.1 - 1 := by unfold w64; omega
      rw [w1, w2]
      dsimp only
      refine ⟨⟨?_, ?_⟩, ?_, ?_⟩ <;> (repeat' split) <;> omega
    · rw [if_neg h7]; exact in_whole hr
  rw [tail_else op p q (by omega) h2 h3 h4 h5 h6]
  exact in_whole hr
theorem core_wider (op : Int) (a b p q : Sp) (ho : 1 ≤ op ∧ op ≤ 15) (ha : RS a) (hb : RS b) (hp : RS p) (hq : RS q) (na : a.1 ≤ a.2) (nb : b.1 ≤ b.2) (a1 : InS p a.1) (a2 : InS p a.2) (b1 : InS q b.1) (b2 : InS q b.2) :
    InS (coreF op p q) (coreF op a b).1 ∧ InS (coreF op p q) (coreF op a b).2 := by
  by_cases h1 : (isOne a && isOne b && decide ((doF op a.1 b.1).2 = 0)) = true
  · have e : coreF op a b = ((doF op a.1 b.1).1, (doF op a.1 b.1).1) := by unfold coreF; rw [if_pos h1]
    have ht : (doF op a.1 b.1).2 = 0 := by simp only [Bool.and_eq_true, decide_eq_true_eq] at h1; exact h1.2
    have := core_held op a.1 b.1 p q ho hp hq a1 b1 ht
    rw [e]; exact ⟨this, this⟩
  · have e : coreF op a b = tailF op a b := by unfold coreF; rw [if_neg h1]
    have h2 : ¬ (isOne p && isOne q && decide ((doF op p.1 q.1).2 = 0)) = true := by
      intro hc
      apply h1
      simp only [isOne, Bool.and_eq_true, decide_eq_true_eq, true_and] at hc ⊢
      obtain ⟨⟨c1, c2⟩, c3⟩ := hc
      unfold InS at a1 a2 b1 b2
      have x1 : a.1 = p.1 := by omega
      have x2 : b.1 = q.1 := by omega
      exact ⟨⟨by omega, by omega⟩, by rw [x1, x2]; exact c3⟩
    have e2 : coreF op p q = tailF op p q := by unfold coreF; rw [if_neg h2]
    rw [e, e2]
    exact tail_wider op a b p q ho.1 ha hb hp hq na nb a1 a2 b1 b2
theorem join_in (a c : Sp) (h : emptyS a = false) : InS (joinS a c) a.1 ∧ InS (joinS a c) a.2 ∧ emptyS (joinS a c) = false := by
  have ha : a.1 ≤ a.2 := by simp [emptyS] at h; exact h
  unfold joinS
  cases hc : emptyS c with
  | true => simp [h, InS]; omega
  | false =>
    simp only [h, Bool.false_and, Bool.false_eq_true, if_false]
    have hcc : c.1 ≤ c.2 := by simp [emptyS] at hc; exact hc
    simp only [InS, emptyS, decide_eq_false_iff_not]
    unfold mnI mxI
    refine ⟨⟨?_, ?_⟩, ⟨?_, ?_⟩, ?_⟩ <;> (repeat' split) <;> omega
theorem join_RS (a c : Sp) (ha : RS a) (hc : RS c) : RS (joinS a c) := by
  unfold joinS
  split
  · exact ⟨zero_R, ⟨by decide, by decide⟩⟩
  · split
    · exact hc
    · split
      · exact ha
      · exact ⟨mn_R ha.1 hc.1, mx_R ha.2 hc.2⟩
/-- Of wider spans an operation makes a span that has all of what it made of the narrower ones. -/
theorem spans_wider (op : Int) (a b c d : Sp) (ha : RS a) (hb : RS b) (hc : RS c) (hd : RS d) :
    emptyS (spansF op a b) = true ∨ (hasS (spansF op (joinS a c) (joinS b d)) (spansF op a b).1 = true ∧ hasS (spansF op (joinS a c) (joinS b d)) (spansF op a b).2 = true) := by
  rw [spansF_eq op a b]
  by_cases h : 1 ≤ op ∧ op ≤ 15 ∧ emptyS a = false ∧ emptyS (flatB op b) = false
  · right
    rw [if_pos h]
    obtain ⟨o1, o2, e1, e2⟩ := h
    obtain ⟨j1, j2, j3⟩ := join_in a c e1
    have na : a.1 ≤ a.2 := by simp [emptyS] at e1; exact e1
    have hflat : InS (flatB op (joinS b d)) (flatB op b).1 ∧ InS (flatB op (joinS b d)) (flatB op b).2 ∧ emptyS (flatB op (joinS b d)) = false ∧ RS (flatB op b) ∧ RS (flatB op (joinS b d)) := by
      unfold flatB at *
      cases hu : unF op with
      | true => simp only [if_true]; exact ⟨⟨Int.le_refl _, Int.le_refl _⟩, ⟨Int.le_refl _, Int.le_refl _⟩, rfl, ⟨zero_R, zero_R⟩, ⟨zero_R, zero_R⟩⟩
      | false =>
        simp only [hu, Bool.false_eq_true, if_false] at e2 ⊢
        obtain ⟨k1, k2, k3⟩ := join_in b d e2
        exact ⟨k1, k2, k3, hb, join_RS b d hb hd⟩
    obtain ⟨f1, f2, f3, f4, f5⟩ := hflat
    have nb : (flatB op b).1 ≤ (flatB op b).2 := by simp [emptyS] at e2; exact e2
    rw [spansF_eq op (joinS a c) (joinS b d), if_pos ⟨o1, o2, j3, f3⟩, has_iff, has_iff]
    exact core_wider op a _ (joinS a c) _ ⟨o1, o2⟩ ha f4 (join_RS a c ha hc) f5 na nb j1 j2 f1 f2
  · left; rw [if_neg h]; rfl
/-- Of two spans: what is in both, what has both. -/
theorem meets (a b : Sp) (n : Int) : hasS (meetS a b) n = (hasS a n && hasS b n) ∧ (hasS (joinS a b) n || (!hasS a n && !hasS b n)) = true := by
  unfold meetS joinS hasS emptyS noneS mnI mxI
  constructor
  · split <;> (rw [Bool.eq_iff_iff]) <;> simp only [Bool.and_eq_true, decide_eq_true_eq] at * <;> (repeat' split at *) <;> (repeat' split) <;> omega
  · simp only [Bool.or_eq_true, Bool.and_eq_true, Bool.not_eq_true', Bool.and_eq_false_iff, decide_eq_true_eq, decide_eq_false_iff_not]
    (repeat' split) <;> omega
end Go.Arith
