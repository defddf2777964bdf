/- Layer 3: values shown, as the program does it, plainly. -/
import Derived.Test.YtkcacgjbofabfaaDoorJReach
import Derived.Test.YtkcacgjbofabfaaDoorIBld
import Derived.Lib.ItoaNum
import Derived.Lib.ItoaLen
set_option linter.unusedSimpArgs false
set_option linter.unusedVariables false
set_option linter.all false
namespace Go.Heap
open Go Go.Eng Go.Proofs.YtkcacgjbofabfaaDoor
def itoaB (n : Int) : ByteArray := ⟨(Go.Lib.itoa n).toArray⟩
theorem itoaB_size (n : Int) (h0 : -9223372036854775808 ≤ n) (h1 : n ≤ 9223372036854775807) : (itoaB n).size ≤ 21 := by
  have := Go.Lib.itoa_length_le n h0 h1
  simpa [itoaB, ByteArray.size] using this
abbrev Ys := List (Int × (Int × List V))
def lkY (ys : Ys) (n : Int) : Option (Int × List V) := (ys.find? fun y => y.1 == n).map (·.2)
def ixY (ys : Ys) (n : Int) : Nat := ys.findIdx fun y => y.1 == n
/-- A thing that is being shown: what is still to come, what ends it, what stands ahead of the next. -/
structure Lv where
  rest : List V
  cl : ByteArray
  sp : ByteArray
def bLb : ByteArray := "[".toUTF8
def bRb : ByteArray := "]".toUTF8
def bLc : ByteArray := "{".toUTF8
def bRc : ByteArray := "}".toUTF8
def bSp : ByteArray := " ".toUTF8
def bAt : ByteArray := "@".toUTF8
def bNull : ByteArray := "null".toUTF8
def bQ : ByteArray := "?".toUTF8
/-- What one value gives: its text, and the thing that is opened. -/
inductive Shv where
  | txt (t : ByteArray)
  | seen (t : ByteArray)
  | opn (t u : ByteArray) (n : Int) (l : Lv)
def shV (ys : Ys) (sn : List Int) (v : V) : Shv :=
  if v.1 = 0 then .txt (itoaB v.2)
  else if v.1 = 1 ∧ v.2 = 0 then .txt bNull
  else if v.1 ≠ 2 then .txt bQ
  else match lkY ys v.2 with
    | none => .txt bQ
    | some o => if v.2 ∈ sn then .seen (bAt ++ itoaB (ixY ys v.2))
      else if o.1 < 0 then .opn (bAt ++ itoaB (ixY ys v.2)) bLb v.2 ⟨o.2, bRb, .empty⟩
      else .opn (bAt ++ itoaB (ixY ys v.2)) (bLc ++ itoaB o.1) v.2 ⟨o.2, bRc, bSp⟩
def shM (ys : Ys) : Nat → List Lv → List Int → ByteArray → ByteArray
  | 0, _, _, out => out
  | _ + 1, [], _, out => out
  | f + 1, ⟨[], cl, _⟩ :: st, sn, out => shM ys f st sn (out ++ cl)
  | f + 1, ⟨v :: r, cl, sp⟩ :: st, sn, out => match shV ys sn v with
    | .txt t => shM ys f (⟨r, cl, bSp⟩ :: st) sn (out ++ sp ++ t)
    | .seen t => shM ys f (⟨r, cl, bSp⟩ :: st) sn (out ++ sp ++ t)
    | .opn t u n l => shM ys f (l :: ⟨r, cl, bSp⟩ :: st) (sn ++ [n]) (out ++ sp ++ t ++ u)
/-- What is still to be done. -/
def muY (ys : Ys) (sn : List Int) : Nat := (ys.map fun y => if y.1 ∈ sn then 0 else y.2.2.length + 2).sum
def muS (st : List Lv) : Nat := (st.map fun l => l.rest.length + 1).sum
theorem lkY_mem {ys : Ys} {n : Int} {o : Int × List V} (h : lkY ys n = some o) : (n, o) ∈ ys := by
  unfold lkY at h
  obtain ⟨y, hy, rfl⟩ := Option.map_eq_some_iff.1 h
  have h1 := List.find?_some hy
  have h2 := List.mem_of_find?_eq_some hy
  rw [beq_iff_eq] at h1
  obtain ⟨a, b⟩ := y
  subst h1
  exact h2
theorem muY_opn {ys : Ys} {sn : List Int} {n : Int} {o : Int × List V} (h : lkY ys n = some o) (hn : n ∉ sn) : muY ys (sn ++ [n]) + (o.2.length + 2) ≤ muY ys sn := by
  unfold muY
  refine sum_lt_of (f := fun y : Int × (Int × List V) => if y.1 ∈ sn ++ [n] then 0 else y.2.2.length + 2) (g := fun y => if y.1 ∈ sn then 0 else y.2.2.length + 2) (fun y _ => ?_) (lkY_mem h) ?_
  · by_cases h1 : y.1 ∈ sn
    · rw [if_pos (by simp [h1]), if_pos h1]; exact Nat.le_refl _
    · rw [if_neg h1]; split <;> omega
  · rw [if_pos (by simp), if_neg hn]; show 0 + (o.2.length + 2) ≤ o.2.length + 2; omega
/-- What is shown of values. -/
def showF (ys : Ys) (l : List V) : ByteArray := shM ys (l.length + 1 + muY ys []) [⟨l, .empty, .empty⟩] [] .empty
end Go.Heap
namespace Go.Heap
open Go Go.Eng Go.Proofs.YtkcacgjbofabfaaDoor
/-- Numbers of things, by what was met. -/
def numM (ys : Ys) (k : Nat) : List (Int × Value) := (ys.take k).zipIdx.map fun p => (p.1.1, .int .i64 p.2)
theorem numM_len {ys : Ys} {k : Nat} (h : k ≤ ys.length) : (numM ys k).length = k := by unfold numM; simp [Nat.min_eq_left h]
theorem kput_new {l : List (Int × Value)} {n : Int} {v : Value} (h : n ∉ l.map (·.1)) : kput l n v = l ++ [(n, v)] := by
  induction l with
  | nil => rfl
  | cons a l ih =>
    rw [List.map_cons, List.mem_cons] at h
    unfold kput
    rw [if_neg (fun e => h (.inl e.symm)), ih (fun e => h (.inr e))]; rfl
theorem numM_keys (ys : Ys) (k : Nat) : (numM ys k).map (·.1) = (ys.take k).map (·.1) := by
  unfold numM; rw [List.map_map]
  conv => rhs; rw [← List.zipIdx_map_fst 0 (ys.take k)]
  rw [List.map_map]; rfl
theorem numM_succ {ys : Ys} {k : Nat} {y : Int × (Int × List V)} (h : ys[k]? = some y) : numM ys (k + 1) = numM ys k ++ [(y.1, .int .i64 k)] := by
  unfold numM
  have hk : k < ys.length := (List.getElem?_eq_some_iff.1 h).1
  rw [List.take_succ, h, Option.toList_some, List.zipIdx_append, List.map_append]
  simp [Nat.min_eq_left (Nat.le_of_lt hk)]
/-- What is kept of the things. -/
def OR (m : Mem) : List (Int × Value) → Ys → Prop
  | [], [] => True
  | e :: l, y :: ys => (e.1 = y.1 ∧ ∃ p c, e.2 = .agg #[.int .i64 y.2.1, .slice p y.2.2.length c] ∧ y.2.2.length ≤ c ∧ SlAt m [] (.slice p y.2.2.length c) y.2.2.length 2 (encs y.2.2)) ∧ OR m l ys
  | _, _ => False
theorem OR.le {m m' : Mem} (h : m.Le m') : ∀ {l : List (Int × Value)} {ys : Ys}, OR m l ys → OR m' l ys
  | [], [], _ => trivial
  | e :: l, y :: ys, ⟨⟨h1, p, c, h2, hc, h3⟩, h4⟩ => ⟨⟨h1, p, c, h2, hc, h3.le h⟩, h4.le h⟩
  | [], _ :: _, h => h.elim
  | _ :: _, [], h => h.elim
theorem OR.keys {m : Mem} : ∀ {l : List (Int × Value)} {ys : Ys}, OR m l ys → l.map (·.1) = ys.map (·.1)
  | [], [], _ => rfl
  | e :: l, y :: ys, ⟨⟨h1, _⟩, h4⟩ => by rw [List.map_cons, List.map_cons, h1, h4.keys]
  | [], _ :: _, h => h.elim
  | _ :: _, [], h => h.elim
theorem OR.snoc {m : Mem} {e : Int × Value} {y : Int × (Int × List V)} (h : e.1 = y.1 ∧ ∃ p c, e.2 = .agg #[.int .i64 y.2.1, .slice p y.2.2.length c] ∧ y.2.2.length ≤ c ∧ SlAt m [] (.slice p y.2.2.length c) y.2.2.length 2 (encs y.2.2)) :
    ∀ {l : List (Int × Value)} {ys : Ys}, OR m l ys → OR m (l ++ [e]) (ys ++ [y])
  | [], [], _ => ⟨h, trivial⟩
  | e :: l, y :: ys, ⟨h1, h4⟩ => ⟨h1, h4.snoc h⟩
  | [], _ :: _, h => h.elim
  | _ :: _, [], h => h.elim
theorem OR.get {m : Mem} (n : Int) : ∀ {l : List (Int × Value)} {ys : Ys}, OR m l ys → (lkY ys n = none ∧ kget l n = none) ∨ ∃ o p c, lkY ys n = some o ∧ kget l n = some (.agg #[.int .i64 o.1, .slice p o.2.length c]) ∧ o.2.length ≤ c ∧ SlAt m [] (.slice p o.2.length c) o.2.length 2 (encs o.2)
  | [], [], _ => .inl ⟨rfl, rfl⟩
  | e :: l, y :: ys, ⟨⟨h1, p, c, h2, hc, h3⟩, h4⟩ => by
    by_cases hn : y.1 = n
    · exact .inr ⟨y.2, p, c, by unfold lkY; rw [List.find?_cons_of_pos (by simp [hn])]; rfl, by unfold kget; rw [if_pos (h1.trans hn), h2], hc, h3⟩
    · have := h4.get n
      unfold lkY at this ⊢
      unfold kget
      rw [List.find?_cons_of_neg (by simp [hn]), if_neg (fun e => hn (h1.symm.trans e))]
      exact this
  | [], _ :: _, h => h.elim
  | _ :: _, [], h => h.elim
theorem dfsN_nodup (s : HS) : ∀ f sn t, ((dfsN s f sn t).map (·.1)).Nodup ∧ ∀ n ∈ sn, n ∉ (dfsN s f sn t).map (·.1) := by
  intro f
  induction f with
  | zero => intro sn t; simp [dfsN]
  | succ f ih =>
    intro sn t
    cases t with
    | nil => simp [dfsN]
    | cons v t =>
      unfold dfsN
      cases ho : objO s v with
      | none => exact ih sn t
      | some o =>
        dsimp only
        split
        · exact ih sn t
        · rename_i hv
          obtain ⟨h1, h2⟩ := ih (sn ++ [v.2]) (o.2 ++ t)
          rw [List.map_cons, List.nodup_cons]
          refine ⟨⟨h2 _ (by simp), h1⟩, fun n hn hc => ?_⟩
          rcases List.mem_cons.1 hc with rfl | hc
          · exact hv hn
          · exact h2 n (by simp [hn]) hc
theorem dfs_nodup (s : HS) (t : List V) : ((dfs s [] t).map (·.1)).Nodup := (dfsN_nodup s _ [] t).1
theorem nodup_take {ys : Ys} (h : (ys.map (·.1)).Nodup) {k : Nat} {y : Int × (Int × List V)} (hk : ys[k]? = some y) : y.1 ∉ (ys.take k).map (·.1) := by
  intro hc
  have h1 : (ys.take (k + 1)).map (·.1) = (ys.take k).map (·.1) ++ [y.1] := by rw [List.take_succ, hk]; simp
  have h2 : ((ys.take (k + 1)).map (·.1)).Nodup := by
    have : (ys.map (·.1)).take (k + 1) = (ys.take (k + 1)).map (·.1) := by rw [List.map_take]
    rw [← this]; exact h.sublist (List.take_sublist _ _)
  rw [h1, List.nodup_append] at h2
  exact h2.2.2 _ hc _ (by simp) rfl
theorem ixY_spec {ys : Ys} {n : Int} {o : Int × List V} (h : lkY ys n = some o) : kget (numM ys ys.length) n = some (.int .i64 (ixY ys n)) ∧ ixY ys n < ys.length := by
  have key : ∀ (ys : Ys) (i : Nat), lkY ys n = some o → kget (ys.zipIdx i |>.map fun p => (p.1.1, (Value.int .i64 p.2))) n = some (.int .i64 ((ixY ys n + i : Nat) : Int)) ∧ ixY ys n < ys.length := by
    intro ys
    induction ys with
    | nil => intro i h; cases h
    | cons y ys ih =>
      intro i h
      unfold lkY at h
      rw [List.zipIdx_cons, List.map_cons]
      unfold kget ixY
      by_cases hn : y.1 = n
      · rw [if_pos hn, List.findIdx_cons]; simp [hn]
      · rw [List.find?_cons_of_neg (by simp [hn])] at h
        obtain ⟨h1, h2⟩ := ih (i + 1) h
        rw [if_neg hn, List.findIdx_cons]
        have hb : (y.1 == n) = false := by simp [hn]
        rw [hb]
        unfold ixY at h1 h2
        refine ⟨?_, by simpa using h2⟩
        rw [h1]; simp only [cond_false]; congr 2; omega
  have := key ys 0 h
  unfold numM
  rw [List.take_of_length_le (Nat.le_refl _)]
  simpa using this
end Go.Heap
namespace Go.Eng
open Go Go.RowKit
theorem SlAt.tail {m : Mem} {L : Lst} {s n c : Nat} {p : Option Addr} {xs ys : List Value} (h : SlAt m L (.slice p (n + 1) c) (n + 1) s (xs ++ ys)) (hx : xs.length = s) (hc : n + 1 ≤ c) :
    n ≤ c - 1 ∧ SlAt m L (.slice (if c = 1 then p else p.map (·.add (1 * s))) n (c - 1)) n s ys := by
  refine ⟨by omega, ?_⟩
  rcases h with ⟨h0, _⟩ | ⟨b, o, c', cs, he, hl, hat, hcs⟩
  · omega
  · injection he with e1 e2 e3
    subst e1 e3
    rw [List.length_append, hx, Nat.add_mul, Nat.one_mul] at hl
    by_cases h1 : c = 1
    · rw [if_pos h1]
      have hn : n = 0 := by omega
      subst hn
      have hy : ys = [] := List.eq_nil_of_length_eq_zero (by omega)
      subst hy
      exact .inr ⟨b, o, c - 1, cs, rfl, by simp, hat, fun j x hj => by simp at hj⟩
    · rw [if_neg h1]
      refine .inr ⟨b, o + s, c - 1, cs, by simp [Addr.add], by omega, hat, fun j x hj => ?_⟩
      have := hcs (s + j) x (by rw [List.getElem?_append_right (by omega), hx, Nat.add_sub_cancel_left]; exact hj)
      rw [Nat.add_assoc]; exact this
end Go.Eng
namespace Go.Heap
open Go Go.Eng Go.Proofs.YtkcacgjbofabfaaDoor
structure SLv where
  p : Option Addr
  c : Nat
  v : Lv
abbrev encF (p : Option Addr) (n c : Nat) (cl sp : ByteArray) : List Value := [.slice p n c, .string cl, .string sp]
def encL : List SLv → List Value
  | [] => []
  | t :: st => encL st ++ encF t.p t.v.rest.length t.c t.v.cl t.v.sp
theorem encL_length (st : List SLv) : (encL st).length = st.length * 3 := by
  induction st with
  | nil => rfl
  | cons t st ih => unfold encL; rw [List.length_append, ih, show (t :: st).length = st.length + 1 from rfl, Nat.add_mul]; rfl
structure SG where
  st : List SLv
  sn : List Int
  out : ByteArray
  f : Nat
  p : Option Addr
  c : Nat
  Lg : Lst
  Lb : Lst
abbrev NkV (N : Int → Prop) (l : List V) : Prop := ∀ v ∈ l, v.1 = 0 → N v.2
/-- A level is known. -/
def LvOk (N : Int → Prop) (Lz : Lst) (m : Mem) (t : SLv) : Prop := t.v.rest.length ≤ t.c ∧ SlAt m Lz (.slice t.p t.v.rest.length t.c) t.v.rest.length 2 (encs t.v.rest) ∧ t.v.cl.size ≤ 1 ∧ t.v.sp.size ≤ 1 ∧ NkV N t.v.rest
def SJ (ys : Ys) (N : Int → Prop) (R : ByteArray) (x9 : Nat) (Lz : Lst) (m0 m : Mem) (g : SG) : Prop :=
  m0.Le m ∧ BldR x9 g.out g.Lb ∧ GS 79 3 (.slice g.p g.st.length g.c) g.st.length (encL g.st) g.Lg ∧ (∀ t ∈ g.st, LvOk N Lz m t) ∧ shM ys g.f (g.st.map (·.v)) g.sn g.out = R ∧ muS (g.st.map (·.v)) + muY ys g.sn ≤ g.f ∧ g.out.size + 64 * g.f ≤ 1000000000 ∧ g.st.length + g.f ≤ 20000000
theorem shM_nil (ys : Ys) (f : Nat) (sn : List Int) (out : ByteArray) : shM ys f [] sn out = out := by cases f <;> rfl
theorem sizeA (s t : ByteArray) : (s ++ t).size = s.size + t.size := by simp
theorem SJ.pop {ys : Ys} {N : Int → Prop} {R : ByteArray} {x9 : Nat} {Lz : Lst} {m0 m : Mem} {p0 p' : Option Addr} {c0 c' : Nat} {cl sp : ByteArray} {st : List SLv} {sn : List Int} {out : ByteArray} {f : Nat} {p : Option Addr} {c : Nat} {Lg Lb : Lst} {Lg' Lb' : Lst}
    (h : SJ ys N R x9 Lz m0 m ⟨⟨p0, c0, ⟨[], cl, sp⟩⟩ :: st, sn, out, f + 1, p, c, Lg, Lb⟩) (hB : BldR x9 (out ++ cl) Lb') (hg : GS 79 3 (.slice p' st.length c') st.length (encL st) Lg') : SJ ys N R x9 Lz m0 m ⟨st, sn, out ++ cl, f, p', c', Lg', Lb'⟩ := by
  obtain ⟨h1, _, _, h4, h5, h6, h7, h8⟩ := h
  dsimp only at h4 h5 h6 h7 h8
  obtain ⟨_, _, k3, _⟩ := h4 _ List.mem_cons_self
  dsimp only at k3
  refine ⟨h1, hB, hg, fun t ht => h4 t (by simp [ht]), h5, ?_, ?_, ?_⟩
  · unfold muS at h6 ⊢; rw [List.map_cons, List.map_cons, List.sum_cons] at h6; dsimp only at h6 ⊢; omega
  · dsimp only; rw [sizeA]; omega
  · dsimp only; rw [List.length_cons] at h8; omega
theorem SJ.one {ys : Ys} {N : Int → Prop} {R : ByteArray} {x9 : Nat} {Lz : Lst} {m0 m : Mem} {p0 p1 p' : Option Addr} {c0 c1 c' : Nat} {cl sp : ByteArray} {v : V} {r : List V} {st : List SLv} {sn : List Int} {out : ByteArray} {f : Nat} {p : Option Addr} {c : Nat} {Lg Lb : Lst} {Lg' Lb' : Lst} {t : ByteArray}
    (h : SJ ys N R x9 Lz m0 m ⟨⟨p0, c0, ⟨v :: r, cl, sp⟩⟩ :: st, sn, out, f + 1, p, c, Lg, Lb⟩) (hs : shV ys sn v = .txt t ∨ shV ys sn v = .seen t) (ht : t.size ≤ 60) (hB : BldR x9 (out ++ sp ++ t) Lb')
    (hg : GS 79 3 (.slice p' (st.length + 1) c') (st.length + 1) (encL st ++ encF p1 r.length c1 cl bSp) Lg') (hl : r.length ≤ c1 ∧ SlAt m Lz (.slice p1 r.length c1) r.length 2 (encs r)) : SJ ys N R x9 Lz m0 m ⟨⟨p1, c1, ⟨r, cl, bSp⟩⟩ :: st, sn, out ++ sp ++ t, f, p', c', Lg', Lb'⟩ := by
  obtain ⟨h1, _, _, h4, h5, h6, h7, h8⟩ := h
  dsimp only at h4 h5 h6 h7 h8
  obtain ⟨_, _, k3, k4, k5⟩ := h4 _ List.mem_cons_self
  dsimp only at k3 k4 k5
  refine ⟨h1, hB, hg, fun t ht => ?_, ?_, ?_, ?_, ?_⟩
  · rcases List.mem_cons.1 ht with rfl | ht
    · exact ⟨hl.1, hl.2, k3, by show bSp.size ≤ 1; decide, fun v hv => k5 v (by simp [hv])⟩
    · exact h4 t (by simp [ht])
  · dsimp only
    rw [← h5]
    rcases hs with hs | hs
    · show _ = (match shV ys sn v with | .txt t => _ | .seen t => _ | .opn t u n l => _)
      rw [hs]; rfl
    · show _ = (match shV ys sn v with | .txt t => _ | .seen t => _ | .opn t u n l => _)
      rw [hs]; rfl
  · unfold muS at h6 ⊢; rw [List.map_cons, List.map_cons, List.sum_cons] at h6 ⊢; dsimp only at h6 ⊢; rw [List.length_cons] at h6; omega
  · dsimp only; rw [sizeA, sizeA]; omega
  · dsimp only; rw [List.length_cons] at h8 ⊢; omega
theorem SJ.opn {ys : Ys} {N : Int → Prop} {R : ByteArray} {x9 : Nat} {Lz : Lst} {m0 m : Mem} {p0 p1 p2 p' : Option Addr} {c0 c1 c2 c' : Nat} {cl sp cl2 sp2 : ByteArray} {v : V} {r : List V} {o : Int × List V} {st : List SLv} {sn : List Int} {out : ByteArray} {f : Nat} {p : Option Addr} {c : Nat} {Lg Lb : Lst} {Lg' Lb' : Lst} {t u : ByteArray}
    (h : SJ ys N R x9 Lz m0 m ⟨⟨p0, c0, ⟨v :: r, cl, sp⟩⟩ :: st, sn, out, f + 1, p, c, Lg, Lb⟩) (ho : lkY ys v.2 = some o) (hn : v.2 ∉ sn) (hs : shV ys sn v = .opn t u v.2 ⟨o.2, cl2, sp2⟩) (ht : t.size ≤ 30) (hu : u.size ≤ 30) (hc2 : cl2.size ≤ 1) (hs2 : sp2.size ≤ 1) (hB : BldR x9 (out ++ sp ++ t ++ u) Lb')
    (hg : GS 79 3 (.slice p' (st.length + 2) c') (st.length + 2) (encL st ++ encF p1 r.length c1 cl bSp ++ encF p2 o.2.length c2 cl2 sp2) Lg') (hl : r.length ≤ c1 ∧ SlAt m Lz (.slice p1 r.length c1) r.length 2 (encs r)) (hl2 : o.2.length ≤ c2 ∧ SlAt m Lz (.slice p2 o.2.length c2) o.2.length 2 (encs o.2)) (hN : NkV N o.2) :
    SJ ys N R x9 Lz m0 m ⟨⟨p2, c2, ⟨o.2, cl2, sp2⟩⟩ :: ⟨p1, c1, ⟨r, cl, bSp⟩⟩ :: st, sn ++ [v.2], out ++ sp ++ t ++ u, f, p', c', Lg', Lb'⟩ := by
  obtain ⟨h1, _, _, h4, h5, h6, h7, h8⟩ := h
  dsimp only at h4 h5 h6 h7 h8
  obtain ⟨_, _, k3, k4, k5⟩ := h4 _ List.mem_cons_self
  dsimp only at k3 k4 k5
  have hmu := muY_opn ho hn
  refine ⟨h1, hB, hg, fun t ht => ?_, ?_, ?_, ?_, ?_⟩
  · rcases List.mem_cons.1 ht with rfl | ht
    · exact ⟨hl2.1, hl2.2, hc2, hs2, hN⟩
    rcases List.mem_cons.1 ht with rfl | ht
    · exact ⟨hl.1, hl.2, k3, by show bSp.size ≤ 1; decide, fun v hv => k5 v (by simp [hv])⟩
    · exact h4 t (by simp [ht])
  · dsimp only
    rw [← h5]
    show _ = (match shV ys sn v with | .txt t => _ | .seen t => _ | .opn t u n l => _)
    rw [hs]; rfl
  · unfold muS at h6 ⊢; rw [List.map_cons, List.map_cons, List.sum_cons] at h6; rw [List.map_cons, List.map_cons, List.map_cons, List.map_cons, List.sum_cons, List.sum_cons]; dsimp only at h6 ⊢; rw [List.length_cons] at h6; omega
  · dsimp only; rw [sizeA, sizeA, sizeA]; omega
  · dsimp only; rw [List.length_cons] at h8 ⊢; rw [List.length_cons]; omega
theorem SJ.init {ys : Ys} {N : Int → Prop} {x9 : Nat} {Lz : Lst} {m : Mem} {l : List V} {p : Option Addr} {c bs : Nat} {Lb : Lst} (hM : l.length + 1 + muY ys [] ≤ 10000000) (hN : NkV N l) (hx : SlAt m Lz (.slice p l.length c) l.length 2 (encs l)) (hc : l.length ≤ c) (hB : BldR x9 .empty Lb) :
    SJ ys N (showF ys l) x9 Lz m m ⟨[⟨p, c, ⟨l, .empty, .empty⟩⟩], [], .empty, l.length + 1 + muY ys [], some ⟨bs, 0, none⟩, 1, [(bs, .cells #[.slice p l.length c, .string .empty, .string .empty] 79 (0, 0))], Lb⟩ := by
  refine ⟨.refl _, hB, ⟨rfl, .inr ⟨bs, 1, [], rfl, Nat.le_refl _, by simp [maxLen], rfl, rfl⟩⟩, fun t ht => ?_, rfl, ?_, ?_, ?_⟩
  · rw [List.mem_singleton] at ht; subst ht
    exact ⟨hc, hx, by show ByteArray.empty.size ≤ 1; decide, by show ByteArray.empty.size ≤ 1; decide, hN⟩
  · show l.length + 1 + 0 + muY ys [] ≤ l.length + 1 + muY ys []; omega
  · show 0 + 64 * (l.length + 1 + muY ys []) ≤ 1000000000
    omega
  · show 1 + (l.length + 1 + muY ys []) ≤ 20000000; omega
theorem set_mid {A s : List Value} {k n n2 c c2 : Nat} {p p2 : Option Addr} {cl sp : ByteArray} (h : A.length = k) : (A ++ (encF p n c cl sp ++ s)).set k (.slice p2 n2 c2) = A ++ (encF p2 n2 c2 cl sp ++ s) := by
  subst h
  rw [List.set_append_right _ _ (Nat.le_refl _), Nat.sub_self]; rfl
theorem set_mid2 {A s : List Value} {k n c : Nat} {p : Option Addr} {cl sp x : ByteArray} (h : A.length = k) : (A ++ (encF p n c cl sp ++ s)).set (k + 2) (.string x) = A ++ (encF p n c cl x ++ s) := by
  subst h
  rw [List.set_append_right _ _ (by omega), Nat.add_sub_cancel_left]; rfl
theorem get_mid {A s : List Value} {k n c : Nat} {p : Option Addr} {cl sp : ByteArray} (h : A.length = k) : (A ++ (encF p n c cl sp ++ s)).toArray[k]? = some (.slice p n c) ∧ (A ++ (encF p n c cl sp ++ s)).toArray[k + 1]? = some (.string cl) ∧ (A ++ (encF p n c cl sp ++ s)).toArray[k + 2]? = some (.string sp) := by
  subst h
  simp only [List.getElem?_toArray]
  refine ⟨?_, ?_, ?_⟩
  · rw [List.getElem?_append_right (Nat.le_refl _), Nat.sub_self]; rfl
  · rw [List.getElem?_append_right (by omega), Nat.add_sub_cancel_left]; rfl
  · rw [List.getElem?_append_right (by omega), Nat.add_sub_cancel_left]; rfl
theorem len_mid {A s : List Value} {k n c : Nat} {p : Option Addr} {cl sp : ByteArray} (h : A.length = k) : (A ++ (encF p n c cl sp ++ s)).length = k + 3 + s.length := by
  rw [List.length_append, List.length_append, h]; show k + (3 + s.length) = _; omega
end Go.Heap
