/- The engine over abstract states: slices that are made and grow, interface values, maps. -/
import Derived.Test.YthfbfigdgjhhaaaEngAOps
import Derived.Laws.MakeOwn
set_option linter.all false
set_option linter.unusedSimpArgs false
set_option linter.unusedVariables false
namespace Go.Eng
open Go Go.RowKit
theorem TakeL.inv {m : Mem} {L X L' L0 : Lst} {w : World} (h : TakeL L X L') (hI : Inv m (L ++ L0) w) : Inv m (X ++ (L' ++ L0)) w := by
  rw [← List.append_assoc]; exact hI.perm (h.perm.append_right L0)
/-! ### slices' elements -/
/-- A slice type's elements: their type, cells, bytes, and what they hold at first. -/
def slInfo (P : Program) (T : TypeId) : Option (TypeId × Nat × Nat × List Value) := match P.underlying T with
  | some (.slice E) => (P.info? E).bind fun i => i.zero.map fun z => (E, i.size, i.bytes, z.cells.toList)
  | _ => none
theorem slInfo_parts {P : Program} {T E : TypeId} {s by_ : Nat} {z : List Value} (h : slInfo P T = some (E, s, by_, z)) :
    P.underlying T = some (.slice E) ∧ ∃ i v, P.info? E = some i ∧ i.zero = some v ∧ i.size = s ∧ i.bytes = by_ ∧ v.cells.toList = z := by
  unfold slInfo at h
  split at h
  · rename_i E' hu
    cases hi : P.info? E' with
    | none => simp [hi] at h
    | some i =>
      cases hz : i.zero with
      | none => simp [hi, hz] at h
      | some v =>
        simp only [hi, hz, Option.bind_some, Option.map_some, Option.some.injEq, Prod.mk.injEq] at h
        obtain ⟨rfl, rfl, rfl, rfl⟩ := h
        exact ⟨hu, i, v, hi, hz, rfl, rfl, rfl⟩
  · simp at h
def rep (n : Nat) (z : List Value) : List Value := (List.replicate n z).flatten
theorem rep_length {n : Nat} {z : List Value} : (rep n z).length = n * z.length := by simp [rep, List.length_flatten]
theorem rep_one {n : Nat} {v : Value} : rep n [v] = List.replicate n v := by
  induction n with
  | zero => rfl
  | succ n ih => simp only [rep, List.replicate_succ, List.flatten_cons] at *; simp [ih]
theorem rep_succ {n : Nat} {z : List Value} : rep (n + 1) z = z ++ rep n z := by simp [rep, List.replicate_succ]
theorem rep_succ' {n : Nat} {z : List Value} : rep (n + 1) z = rep n z ++ z := by
  induction n with
  | zero => simp [rep]
  | succ n ih => rw [rep_succ, ih, ← List.append_assoc, ← rep_succ, ih]
theorem made_rep (z : Array Value) (n : Nat) : madeCells z (n * z.size) = (rep n z.toList).toArray := by
  apply Array.ext'
  induction n with
  | zero => simp [madeCells, rep]
  | succ n ih =>
    rw [rep_succ']
    have h : (Array.range ((n + 1) * z.size)) = Array.range (n * z.size) ++ (Array.range z.size).map (n * z.size + ·) := by
      rw [Nat.add_mul, Nat.one_mul, Array.range_add]
    simp only [madeCells] at ih ⊢
    rw [h, Array.map_append, Array.toList_append, ih]
    congr 1
    apply List.ext_getElem
    · simp
    · intro i h1 h2
      have hi : i < z.size := by simpa using h2
      simp [Nat.mul_add_mod', Nat.mod_eq_of_lt hi, hi]
section
variable {P : Program} {ro : Option Nat} {e : En} {C : KA} {m : Mem} {L : Lst}
variable {d : Option Nat} {ty : TypeId} {ps : String} {af : Array Edge} {g : Option (Nat × Bool)}
def makeA (P : Program) (T : TypeId) (l c : Value) [C : KA] (m : Mem) (L : Lst) : Prop := ∀ L0 w, Inv m (L ++ L0) w → runV P w (Instr.makeSlice T l c) (ck C L0).k (ck C L0).x
theorem p_make {T : TypeId} {x y : Operand} : topC P ro ⟨d, .makeSlice T x y, ty, ps, af, g⟩ e m L = makeA P T (ev e x) (ev e y) m L := by
  show (∀ L0 w, Inv m (L ++ L0) w → @sopC P ro _ e (ck C L0) w) = _
  unfold makeA
  refine forall_congr fun L0 => forall_congr fun w => forall_congr fun _ => ?_
  rw [sop_exec (by intro c; simp)]; exact upE_val _
theorem make_of {T E : TypeId} {s by_ : Nat} {z : List Value} (h : slInfo P T = some (E, s, by_, z)) (hz : z.length = s) {kl kc : IntKind} {n : Int} (h0 : 0 ≤ n) (hb : (by_ : Int) * n ≤ 281474976710656) (h63 : n ≤ 9223372036854775807)
    (hk : ∀ b, C.k (.slice (some ⟨b, 0, none⟩) n.toNat n.toNat) m ((b, .cells (rep n.toNat z).toArray E (0, 0)) :: L)) : makeA P T (.int kl n) (.int kc n) m L := by
  obtain ⟨hu, i, v, hi, hv, rfl, rfl, rfl⟩ := slInfo_parts h
  intro L0 w hI
  unfold runV
  rw [run_make w T E i v hu hi hv kl kc n n h0 (Int.le_refl _) hb h63]
  have hs : i.size = v.cells.size := by rw [← hz]; simp
  rw [hs, made_rep]
  exact ⟨m, _, hI.alloc _, hk w.heap.size⟩
/-- A slice that grows: nil, or the head of a block that is nobody else's. -/
def GS (E : TypeId) (s : Nat) (v : Value) (n : Nat) (xs : List Value) (Lg : Lst) : Prop :=
  xs.length = n * s ∧ ((v = .slice none 0 0 ∧ n = 0 ∧ Lg = []) ∨
    ∃ b c sp, v = .slice (some ⟨b, 0, none⟩) n c ∧ n ≤ c ∧ c ≤ maxLen ∧ sp.length = (c - n) * s ∧ Lg = [(b, .cells (xs ++ sp).toArray E (0, 0))])
theorem GS.nil {E : TypeId} {s : Nat} : GS E s (.slice none 0 0) 0 [] [] := ⟨by simp, .inl ⟨rfl, rfl, rfl⟩⟩
/-- Where a slice's cells are known. -/
def SlAt (m : Mem) (L : Lst) (v : Value) (n s : Nat) (news : List Value) : Prop :=
  (n = 0 ∧ news = [] ∧ ∃ p c, v = .slice p 0 c) ∨ ∃ b o c cs, v = .slice (some ⟨b, o, none⟩) n c ∧ news.length = n * s ∧ At m L b cs ∧ ∀ j x, news[j]? = some x → cs[o + j]? = some x
theorem SlAt.block {p : Option Addr} {n c s : Nat} {news : List Value} (h : SlAt m L (.slice p n c) n s news) (hn : 0 < n) : ∃ b o cs, p = some ⟨b, o, none⟩ ∧ news.length = n * s ∧ At m L b cs ∧ ∀ j x, news[j]? = some x → cs[o + j]? = some x := by
  rcases h with ⟨h, _⟩ | ⟨b, o, c', cs, h1, h2, h3, h4⟩
  · omega
  · injection h1 with h1 _ _; exact ⟨b, o, cs, h1, h2, h3, h4⟩
theorem SlAt.nil {s : Nat} : SlAt m L (.slice none 0 0) 0 s [] := .inl ⟨rfl, rfl, none, 0, rfl⟩
theorem SlAt.of_at {b o n c s : Nat} {cs : Array Value} {news : List Value} (h : At m L b cs) (hl : news.length = n * s) (hc : ∀ j x, news[j]? = some x → cs[o + j]? = some x) : SlAt m L (.slice (some ⟨b, o, none⟩) n c) n s news :=
  .inr ⟨b, o, c, cs, rfl, hl, h, hc⟩
theorem GS.at {E : TypeId} {s n : Nat} {v : Value} {xs : List Value} {Lg L' : Lst} (h : GS E s v n xs Lg) (t : TakeL L Lg L') : SlAt m L v n s xs := by
  obtain ⟨hl, ⟨rfl, rfl, rfl⟩ | ⟨b, c, sp, rfl, hnc, hcm, hsp, rfl⟩⟩ := h
  · exact .inl ⟨rfl, List.eq_nil_of_length_eq_zero (by simpa using hl), none, 0, rfl⟩
  · refine .inr ⟨b, 0, c, (xs ++ sp).toArray, rfl, hl, fun L0 w hI => ⟨E, (0, 0), ?_⟩, fun j x hj => ?_⟩
    · exact ((t.inv hI).own (b, _) (by simp)).1
    · have : j < xs.length := (List.getElem?_eq_some_iff.1 hj).1
      simp only [Nat.zero_add, List.getElem?_toArray]
      rw [List.getElem?_append_left this]; exact hj
theorem drop_app (a b : List Value) (k : Nat) : (a ++ b).drop (a.length + k) = b.drop k := by
  induction a with
  | nil => simp
  | cons x a ih => rw [List.length_cons, show a.length + 1 + k = (a.length + k) + 1 by omega]; exact ih
theorem grown_inv {m : Mem} {Lr : Lst} {w : World} {o : Obj} (hI : Inv m Lr w) : Inv m ((w.heap.size, o) :: Lr) (w.drew.alloc o) := by
  have : Inv m Lr w.drew := hI.dr
  exact this.alloc o
theorem run_append_gs {T E : TypeId} {s by_ : Nat} {z : List Value} (h : slInfo P T = some (E, s, by_, z)) (hz : z.length = s) (hs0 : 0 < s) {v x : Value} {n k : Nat} {xs news : List Value} {Lg Lr : Lst} {w : World}
    (hg : GS E s v n xs Lg) (hI : Inv m (Lg ++ Lr) w) (hx : SlAt m (Lg ++ Lr) x k s news) (h1 : oneAll news = true) (hb : (n + k) * by_ ≤ 140737488355328) (hm : n + k ≤ maxLen) :
    ∃ v' w' Lg', (Builtin.append_ #[T, T] ty #[v, x]).run P w = .ok v' w' ∧ GS E s v' (n + k) (xs ++ news) Lg' ∧ Inv m (Lg' ++ Lr) w' := by
  obtain ⟨hu, i, zv, hi, hzv, rfl, rfl, rfl⟩ := slInfo_parts h
  have hzs : zv.cells.size = i.size := by simpa using hz
  have hsmall : n + k ≤ 9223372036854775807 := by simp only [maxLen] at hm; omega
  have hone : ∀ u ∈ news, u.oneCell' = true := fun u hu => List.all_eq_true.1 h1 u hu
  obtain ⟨hl, hcase⟩ := hg
  have hnews : news.length = k * i.size ∧ (k = 0 ∨ ∃ b o c cs T' f, x = .slice (some ⟨b, o, none⟩) k c ∧ w.heap[b]? = some (.cells cs T' f) ∧ ∀ j y, news[j]? = some y → cs[o + j]? = some y) := by
    rcases hx with ⟨rfl, rfl, _⟩ | ⟨b, o, c, cs, rfl, hln, hat, hc⟩
    · exact ⟨by simp, .inl rfl⟩
    · obtain ⟨T', f, hbk⟩ := hat [] w (by simpa using hI)
      exact ⟨hln, .inr ⟨b, o, c, cs, T', f, rfl, hbk, hc⟩⟩
  obtain ⟨hln, hsrc⟩ := hnews
  by_cases hk : k = 0
  · subst hk
    have hnil : news = [] := List.eq_nil_of_length_eq_zero (by simpa using hln)
    subst hnil
    have hxv : ∃ p c, x = .slice p 0 c := by
      rcases hx with ⟨_, _, h⟩ | ⟨b, o, c, cs, rfl, _⟩
      · exact h
      · exact ⟨_, _, rfl⟩
    obtain ⟨p, c, rfl⟩ := hxv
    refine ⟨v, w, Lg, ?_, by rw [Nat.add_zero, List.append_nil]; exact ⟨hl, hcase⟩, hI⟩
    have hf : (Builtin.firstCells i.size 0 (.slice p 0 c)).run P w = .ok #[] w := by
      cases p <;> simp [Builtin.firstCells, loadCells, loadCellsFrom]
    rcases hcase with ⟨rfl, rfl, rfl⟩ | ⟨b, c', sp, rfl, hnc, _⟩
    · simp [Builtin.append_, run_underlying hu, sizeOf, typeInfo, hi, Builtin.lenOf, hf]
    · simp [Builtin.append_, run_underlying hu, sizeOf, typeInfo, hi, Builtin.lenOf, hf, hnc, storeCells]
  · rcases hsrc with h0 | ⟨b2, o2, c2, cs2, T2, f2, rfl, hb2, hc2⟩
    · exact absurd h0 hk
    have hcell : ∀ j y, news[j]? = some y → w.cell? ((⟨b2, o2, none⟩ : Addr).add j) = some y := by
      intro j y hj; rw [add_at, cell_at hb2]; exact hc2 j y hj
    rcases hcase with ⟨rfl, rfl, rfl⟩ | ⟨b, c, sp, rfl, hnc, hcm, hsp, rfl⟩
    · have hxs : xs = [] := List.eq_nil_of_length_eq_zero (by simpa using hl)
      subst hxs
      have hr := run_append_nil (P := P) w T ty E i zv hu hi hzv ⟨b2, o2, none⟩ k c2 news hln hcell (by omega) (by omega) (by simp only [Nat.zero_add] at hb; omega)
      refine ⟨_, _, [(w.heap.size, .cells (news ++ (Builtin.zeroCells zv.cells (grownCap w k 0 E - k)).toList).toArray E (0, 0))], hr, ?_, ?_⟩
      · have hge := grownCap_ge w k 0 E
        refine ⟨by simpa using hln, .inr ⟨w.heap.size, _, (Builtin.zeroCells zv.cells (grownCap w k 0 E - k)).toList, by simp, by simpa using hge, grownCap_le_maxLen w k 0 E (by omega), ?_, by simp⟩⟩
        simp [size_zeroCells, hzs]
      · have := grown_inv (o := .cells (news ++ (Builtin.zeroCells zv.cells (grownCap w k 0 E - k)).toList).toArray E (0, 0)) hI
        have e : (news.toArray ++ Builtin.zeroCells zv.cells (grownCap w k 0 E - k)) = (news ++ (Builtin.zeroCells zv.cells (grownCap w k 0 E - k)).toList).toArray := by
          apply Array.ext'; simp
        rw [e]; exact this
    · have hb0 : w.heap[b]? = some (.cells (xs ++ sp).toArray E (0, 0)) := (hI.own (b, _) (by simp)).1
      by_cases hroom : n + k ≤ c
      · have hlen : (xs ++ sp).length = c * i.size := by
          rw [List.length_append, hl, hsp, ← Nat.add_mul]; congr 1; omega
        have hfit : n * i.size + news.length ≤ ((xs ++ sp).toArray).size := by
          rw [List.size_toArray, hlen, hln, ← Nat.add_mul]; exact Nat.mul_le_mul_right _ hroom
        have hr := run_append_room (P := P) w T ty E i hu hi b n c (xs ++ sp).toArray hb0 ⟨b2, o2, none⟩ k c2 news hln hcell hone hroom hfit
        have etake : (xs ++ sp).toArray.toList.take (n * i.size) = xs := by simp only [List.toList_toArray]; rw [← hl]; exact List.take_left
        have edrop : (xs ++ sp).toArray.toList.drop (n * i.size + news.length) = sp.drop news.length := by
          simp only [List.toList_toArray]; rw [← hl]; exact drop_app xs sp _
        rw [etake, edrop] at hr
        refine ⟨_, _, [(b, .cells (xs ++ news ++ sp.drop news.length).toArray E (0, 0))], hr, ?_, ?_⟩
        · refine ⟨by rw [List.length_append, hl, hln, Nat.add_mul], .inr ⟨b, c, sp.drop news.length, rfl, hroom, hcm, ?_, by simp⟩⟩
          rw [List.length_drop, hsp, hln, ← Nat.sub_mul]; congr 1; omega
        · exact Inv.setObj hI (by have := setRow_heap w b (xs ++ sp).toArray (xs ++ news ++ sp.drop news.length).toArray E (0, 0) hb0; simpa using this)
            (fun q hq => setRow_other w b q _ hq) rfl rfl rfl
      · have hold : ∀ j u, xs[j]? = some u → w.cell? ((⟨b, 0, none⟩ : Addr).add j) = some u := by
          intro j u hj
          have hlt : j < xs.length := (List.getElem?_eq_some_iff.1 hj).1
          rw [add_at, cell_at hb0]; simp only [Nat.zero_add, List.getElem?_toArray]
          rw [List.getElem?_append_left hlt]; exact hj
        have hr := run_append_grow (P := P) w T ty E i zv hu hi hzv ⟨b, 0, none⟩ n c xs hl hold ⟨b2, o2, none⟩ k c2 news hln hcell (by omega) (by omega) (growslice_fits (by omega) hb)
        have hge := grownCap_ge w (n + k) c E
        refine ⟨_, _, [(w.heap.size, .cells (xs ++ news ++ (Builtin.zeroCells zv.cells (grownCap w (n + k) c E - (n + k))).toList).toArray E (0, 0))], hr, ?_, ?_⟩
        · refine ⟨by rw [List.length_append, hl, hln, Nat.add_mul], .inr ⟨w.heap.size, _, _, rfl, hge, grownCap_le_maxLen w (n + k) c E hm, ?_, rfl⟩⟩
          simp [size_zeroCells, hzs]
        · have := grown_inv (o := .cells (xs ++ news ++ (Builtin.zeroCells zv.cells (grownCap w (n + k) c E - (n + k))).toList).toArray E (0, 0)) hI.drop
          have e : (xs.toArray ++ news.toArray ++ Builtin.zeroCells zv.cells (grownCap w (n + k) c E - (n + k))) = (xs ++ news ++ (Builtin.zeroCells zv.cells (grownCap w (n + k) c E - (n + k))).toList).toArray := by
            apply Array.ext'; simp
          rw [e]; exact this
/-- An append to a slice that grows. -/
theorem bi_append {T E : TypeId} {s by_ : Nat} {z : List Value} {v x : Value} {n k : Nat} {xs news : List Value} {Lg L' : Lst} {cs : Array Bool} (hg : GS E s v n xs Lg) (t : TakeL L Lg L') (hx : SlAt m L x k s news)
    (h : slInfo P T = some (E, s, by_, z)) (hz : z.length = s) (hs0 : 0 < s) (h1 : oneAll news = true) (hb : (n + k) * by_ ≤ 140737488355328) (hm : n + k ≤ maxLen)
    (hk : ∀ v' Lg', GS E s v' (n + k) (xs ++ news) Lg' → C.k v' m (Lg' ++ L')) : biA P .append #[T, T] ty cs [v, x] m L := by
  intro L0 w hI
  rw [bi_val rfl]
  have hI2 := t.inv hI
  have hx2 : SlAt m (Lg ++ (L' ++ L0)) x k s news := by
    rcases hx with h | ⟨b, o, c, cs, h1, h2, h3, h4⟩
    · exact .inl h
    · refine .inr ⟨b, o, c, cs, h1, h2, fun L1 w1 hI1 => h3 (L0 ++ L1) w1 ?_, h4⟩
      refine hI1.perm ?_
      have := (t.perm.append_right (L0 ++ L1)).symm
      simpa [List.append_assoc] using this
  obtain ⟨v', w', Lg', hr, hg', hI'⟩ := run_append_gs (ty := ty) h hz hs0 hg hI2 hx2 h1 hb hm
  unfold runV
  rw [hr]
  exact ⟨m, Lg' ++ L', by rw [List.append_assoc]; exact hI', hk v' Lg' hg'⟩
/-! ### pointers, interface values -/
def nilckA (a : Value) [C : KA] (m : Mem) (L : Lst) : Prop := match a with
  | .pointer (some p) => C.k (.pointer (some p)) m L
  | .func (.func f) x y => C.k (.func (.func f) x y) m L
  | .iface t v => C.k (.iface t v) m L
  | _ => False
theorem nilckA_ptr {p : Addr} : nilckA (.pointer (some p)) m L = C.k (.pointer (some p)) m L := Eq.trans rfl rfl
theorem nilckA_func {f : FuncId} {x y : Array Value} : nilckA (.func (.func f) x y) m L = C.k (.func (.func f) x y) m L := Eq.trans rfl rfl
theorem nilckA_iface {t : TypeId} {v : Value} : nilckA (.iface t v) m L = C.k (.iface t v) m L := Eq.trans rfl rfl
theorem p_nilck {x : Operand} (h : nilckA (ev e x) m L) : topC P ro ⟨d, .nilCheck x, ty, ps, af, g⟩ e m L := by
  show (∀ w, @sopC P ro _ e (pk C m L w) w)
  intro w
  rw [sop_exec (by intro c; simp)]
  unfold nilckA at h
  simp only [execOp]
  split at h
  · rename_i hv; rw [hv]; exact ⟨rfl, h⟩
  · rename_i hv; rw [hv]; exact ⟨rfl, h⟩
  · rename_i hv; rw [hv]; exact ⟨rfl, h⟩
  · exact h.elim
def isPtr (P : Program) (T : TypeId) : Bool := match P.underlying T with | some (.pointer _) => true | _ => false
def isIface (P : Program) (T : TypeId) : Bool := match P.underlying T with | some (.interface _) => true | _ => false
theorem eq_ptr_nil {T : TypeId} {x y : Operand} {p : Option Addr} (h : isPtr P T = true) (hk : C.k (.bool p.isNone) m L) : eqA true P .eql T x y (.pointer p) (.pointer none) m L := by
  unfold isPtr at h
  split at h
  · rename_i E hu
    have hu' : P.underlying T = some (.pointer (P.pointee T)) := by simp [Program.pointee, hu]
    intro L0 w hI
    simp only [binP, runV, eqGuard_at_pointer, Sem.run_bind, Sem.run_pure, Result.andThen_ok, run_eql_pointer_nil w T p hu']
    exact ⟨m, L, hI, hk⟩
  · simp at h
theorem neq_ptr_nil {T : TypeId} {x y : Operand} {p : Option Addr} (h : isPtr P T = true) (hk : C.k (.bool (!p.isNone)) m L) : eqA true P .neq T x y (.pointer p) (.pointer none) m L := by
  unfold isPtr at h
  split at h
  · rename_i E hu
    have hu' : P.underlying T = some (.pointer (P.pointee T)) := by simp [Program.pointee, hu]
    intro L0 w hI
    simp only [binP, runV, eqGuard_at_pointer, Sem.run_bind, Sem.run_pure, Result.andThen_ok, run_neq_pointer_nil w T p hu']
    exact ⟨m, L, hI, hk⟩
  · simp at h
/-- An interface value held against nil. -/
def nilIf : Value → Option Bool
  | .nilIface => some true
  | .iface _ _ => some false
  | _ => none
theorem run_equalIn_iface {T : TypeId} {a : Value} {b : Bool} {w : World} {dp : Nat} (h : isIface P T = true) (ha : nilIf a = some b) : (Op.equalIn (dp + 1) T a .nilIface).run P w = .ok b w := by
  unfold isIface at h
  split at h
  · rename_i ms hu
    cases a <;> simp [nilIf] at ha <;> subst ha <;> simp [Op.equalIn, run_underlying hu]
  · simp at h
theorem run_eq_iface {T : TypeId} {x : Operand} {a : Value} {b : Bool} {w : World} (h : isIface P T = true) (ha : nilIf a = some b) :
    ((do eqGuard .eql T x (.const .nilIface) a .nilIface; binOp .eql T a .nilIface : Sem Value)).run P w = .ok (.bool b) w ∧
    ((do eqGuard .neq T x (.const .nilIface) a .nilIface; binOp .neq T a .nilIface : Sem Value)).run P w = .ok (.bool !b) w := by
  have hk : ∀ w : World, (Op.equal T a .nilIface).run P w = .ok b w := fun w => run_equalIn_iface (dp := 9999) h ha
  cases a <;> simp [nilIf] at ha <;> subst ha
  · constructor
    · have e : eqGuard .eql T x (.const .nilIface) (.iface ‹_› ‹_›) .nilIface = pure () := rfl
      rw [e]; simp only [binOp, Sem.run_bind, Sem.run_pure, Result.andThen_ok, hk]
    · have e : eqGuard .neq T x (.const .nilIface) (.iface ‹_› ‹_›) .nilIface = pure () := rfl
      rw [e]; simp only [binOp, Sem.run_bind, Sem.run_pure, Result.andThen_ok, hk]
  · have hg : ∀ op, (eqGuard op T x (.const .nilIface) .nilIface .nilIface).run P w = .ok () w := by
      intro op
      unfold eqGuard
      cases op <;> simp
    constructor <;> simp only [binOp, Sem.run_bind, Sem.run_pure, Result.andThen_ok, hk, hg]
theorem eq_iface_nil {T : TypeId} {x : Operand} {a : Value} {b : Bool} (h : isIface P T = true) (ha : nilIf a = some b) (hk : C.k (.bool b) m L) : eqA true P .eql T x (.const .nilIface) a .nilIface m L := by
  intro L0 w hI
  simp only [binP, runV]
  rw [(run_eq_iface h ha).1]
  exact ⟨m, L, hI, hk⟩
theorem neq_iface_nil {T : TypeId} {x : Operand} {a : Value} {b : Bool} (h : isIface P T = true) (ha : nilIf a = some b) (hk : C.k (.bool !b) m L) : eqA true P .neq T x (.const .nilIface) a .nilIface m L := by
  intro L0 w hI
  simp only [binP, runV]
  rw [(run_eq_iface h ha).2]
  exact ⟨m, L, hI, hk⟩
def mkifA (ok : Bool) (T : TypeId) (a : Value) [C : KA] (m : Mem) (L : Lst) : Prop := bif ok then C.k (.iface T a) m L else False
theorem mkifA_true {T : TypeId} {a : Value} : mkifA true T a m L = C.k (.iface T a) m L := Eq.trans rfl rfl
def notIface (P : Program) (T : TypeId) : Bool := match P.underlying T with | some (.interface _) => false | some _ => true | none => false
theorem p_mkif {T : TypeId} {x : Operand} (h : mkifA (notIface P T) T (ev e x) m L) : topC P ro ⟨d, .makeInterface T x, ty, ps, af, g⟩ e m L := by
  show (∀ w, @sopC P ro _ e (pk C m L w) w)
  intro w
  rw [sop_exec (by intro c; simp)]
  show upE P _ _ _ ((do pure (Next.value (← Instr.makeInterface T (ev e x))) : Sem Next).run P w)
  rw [upE_val]
  unfold mkifA notIface at h
  unfold runV Instr.makeInterface
  cases hu : P.underlying T with
  | none => rw [hu] at h; exact h.elim
  | some k =>
    rw [hu] at h
    rw [Sem.run_bind, run_underlying hu]
    cases k <;> first | exact h.elim | exact ⟨rfl, h⟩
/-- Whether an interface value is of a type, and its value. -/
def tasZ (z : Option (List Value)) [C : KA] (m : Mem) (L : Lst) : Prop := match z with | some [z] => C.k (.tuple #[z, .bool false]) m L | _ => False
def tasB (z : Option (List Value)) (T : TypeId) (a : Value) (comma : Bool) [C : KA] (m : Mem) (L : Lst) : Prop :=
  match a, comma with
    | .iface t v, true => (t = T → C.k (.tuple #[v, .bool true]) m L) ∧ (t ≠ T → tasZ z m L)
    | .nilIface, true => tasZ z m L
    | .iface t v, false => t = T ∧ C.k v m L
    | _, _ => False
def tasA (ok : Bool) (z : Option (List Value)) (T : TypeId) (a : Value) (comma : Bool) [C : KA] (m : Mem) (L : Lst) : Prop := bif ok then tasB z T a comma m L else False
theorem tasA_yes {z : Option (List Value)} {T : TypeId} {v : Value} : tasA true z T (.iface T v) true m L = C.k (.tuple #[v, .bool true]) m L := by simp [tasA, tasB, tasZ]
theorem tasA_if {z : Value} {T t : Nat} {v : Value} : tasA true (some [z]) T (.iface t v) true m L = @ifC (t == T) ⟨C.k (.tuple #[v, .bool true]) m L, C.k (.tuple #[z, .bool false]) m L⟩ := by
  by_cases h : t = T
  · subst h; simp [tasA_yes, ifC]
  · have hb : (t == T) = false := by simpa using h
    rw [hb]; simp only [ifC_false]; simp [tasA, tasB, tasZ, h]
theorem tasA_sure {z : Option (List Value)} {T : TypeId} {v : Value} : tasA true z T (.iface T v) false m L = C.k v m L := by simp [tasA, tasB, tasZ]
theorem tasA_no {z : Value} {T t : TypeId} {v : Value} (h : t ≠ T) : tasA true (some [z]) T (.iface t v) true m L = C.k (.tuple #[z, .bool false]) m L := by simp [tasA, tasB, tasZ, h]
theorem tasA_nil {z : Value} {T : TypeId} : tasA true (some [z]) T .nilIface true m L = C.k (.tuple #[z, .bool false]) m L := by simp [tasA, tasB, tasZ]
/-- One cell that is no aggregate. -/
def zero1 (P : Program) (T : TypeId) : Option (List Value) := match (P.info? T).bind (·.zero) with | some (.agg _) => none | some z => some [z] | none => none
theorem p_tas {X T : TypeId} {x : Operand} {comma : Bool} (h : tasA (notIface P T) (zero1 P T) T (ev e x) comma m L) : topC P ro ⟨d, .typeAssert x X T comma, ty, ps, af, g⟩ e m L := by
  show (∀ w, @sopC P ro _ e (pk C m L w) w)
  intro w
  rw [sop_exec (by intro c; simp)]
  show upE P _ _ _ ((do pure (Next.value (← Instr.typeAssert (ev e x) X T comma)) : Sem Next).run P w)
  rw [upE_val]
  unfold tasA notIface at h
  cases hu : P.underlying T with
  | none => rw [hu] at h; exact h.elim
  | some k =>
    rw [hu] at h
    have hni : ∀ ms, k ≠ .interface ms := by rintro ms rfl; exact h
    have h2 : tasB (zero1 P T) T (ev e x) comma m L := by
      cases k <;> first | exact h.elim | exact h
    have hZ : tasZ (zero1 P T) m L → ∃ z, zero1 P T = some [z] ∧ C.k (.tuple #[z, .bool false]) m L := by
      unfold tasZ
      split
      · rename_i z hz; exact fun h => ⟨z, hz, h⟩
      · exact fun h => h.elim
    unfold tasB at h2
    have hzero : ∀ z, zero1 P T = some [z] → (zeroValue T).run P w = .ok z w := by
      intro z hz
      unfold zero1 at hz
      cases hi : P.info? T with
      | none => simp [hi] at hz
      | some i =>
        cases hzz : i.zero with
        | none => simp [hi, hzz] at hz
        | some zz =>
          simp only [hi, hzz, Option.bind_some] at hz
          have : zz = z := by cases zz <;> simp_all
          simp [zeroValue, typeInfo, hi, hzz, this]
    unfold runV Instr.typeAssert
    simp only [Sem.run_bind, run_underlying hu, Result.andThen_ok]
    split at h2
    · rename_i t v he
      rw [he]
      by_cases ht : t = T
      · cases k <;> first | exact absurd rfl (hni _) | (simp only [ht, if_true]; exact ⟨rfl, h2.1 ht⟩)
      · obtain ⟨z, hz, h3⟩ := hZ (h2.2 ht)
        cases k <;> first | exact absurd rfl (hni _) | (simp only [ht, if_false, if_true, Sem.run_bind, hzero z hz, Result.andThen_ok, Sem.run_pure]; exact ⟨rfl, h3⟩)
    · rename_i he
      rw [he]
      obtain ⟨z, hz, h3⟩ := hZ h2
      cases k <;> first | exact absurd rfl (hni _) | (simp only [if_true, Sem.run_bind, hzero z hz, Result.andThen_ok, Sem.run_pure]; exact ⟨rfl, h3⟩)
    · rename_i t v he
      rw [he]
      obtain ⟨rfl, h3⟩ := h2
      cases k <;> first | exact absurd rfl (hni _) | (simp only [if_true]; exact ⟨rfl, h3⟩)
    · exact h2.elim
/-- A method that is called by an interface value. -/
theorem inv_of {recv : Operand} {name : String} {l : List Operand} {ts : Array TypeId} {t : TypeId} {v r : Value} {f : FuncId} {Lp Lf : Lst} {R : Value → Mem → Lst → Prop} (he : ev e recv = .iface t v)
    (hm : ∀ w, (method (P.types.size + Made.depth) t v name).run P w = .ok (f, r) w) (h : Cta P f (r :: evs e l) m Lp R) (hp : Takes L Lp Lf) (hk : ∀ v m' L', R v m' L' → C.k v m' (L' ++ Lf)) :
    topC P ro ⟨d, .call ⟨.invoke recv name, l.toArray, ts⟩, ty, ps, af, g⟩ e m L := by
  show (∀ L0 w, Inv m (L ++ L0) w → @sopC P ro _ e (ck C L0) w)
  intro L0 w hI
  rw [sop_exec (by intro c; simp)]
  have hI2 : Inv m (Lp ++ (Lf ++ L0)) w := by rw [← List.append_assoc]; exact hI.perm (hp.perm.append_right L0)
  have hc := h.run (Lf ++ L0) w hI2
  have hargs : (l.toArray.map (ev e)) = (evs e l).toArray := by rw [evs_eq]; simp
  simp only [execOp, resolve, invoke, callMethod, he, hargs, Sem.run_bind, Sem.run_pure, Result.andThen_ok, run_program]
  have e1 : (#[Value.iface t v] ++ (evs e l).toArray)[0]? = some (.iface t v) := by simp
  have e2 : (#[Value.iface t v] ++ (evs e l).toArray).extract 1 (#[Value.iface t v] ++ (evs e l).toArray).size = (evs e l).toArray := by
    apply Array.ext'; simp
  simp only [e1, e2, Sem.run_bind, run_program, Result.andThen_ok, hm]
  have e3 : #[r] ++ (evs e l).toArray = (r :: evs e l).toArray := by simp
  rw [e3, callFunc_go hc.1]
  refine hc.2.mono fun en w' q => ?_
  cases en with
  | returned v =>
    obtain ⟨m', L', h1, h2⟩ := q
    exact ⟨m', L' ++ Lf, by rw [List.append_assoc]; exact h1, hk _ _ _ h2⟩
  | panicked c => exact q.elim
  | outgrown => exact q.elim
end
end Go.Eng
namespace Go.Eng
open Go Go.RowKit
section
variable {P : Program} {ro : Option Nat} {e : En} {C : KA} {m : Mem} {L : Lst}
variable {d : Option Nat} {ty : TypeId} {ps : String} {af : Array Edge} {g : Option (Nat × Bool)}
def bslA (r : Option (TypeId × Array Value)) (n : Nat) [C : KA] (m : Mem) (L : Lst) : Prop := match r with
  | some (E, cs) => newA (fun b => .slice (some ⟨b, 0, none⟩) n n) (.cells cs E (0, 0)) m L
  | none => False
theorem bslA_some {E : TypeId} {cs : Array Value} {n : Nat} : bslA (some (E, cs)) n m L = newA (fun b => .slice (some ⟨b, 0, none⟩) n n) (.cells cs E (0, 0)) m L := Eq.trans rfl rfl
theorem p_bsl {T : TypeId} {n : Nat} {l : List (Nat × Operand)} (h : bslA (builtS P T n (evParts e l)) n m L) : topC P ro ⟨d, .buildSlice T n l.toArray, ty, ps, af, g⟩ e m L := by
  show (∀ L0 w, Inv m (L ++ L0) w → @sopC P ro _ e (ck C L0) w)
  intro L0 w hI
  rw [o_bsl]
  unfold bslA at h
  split at h
  · rename_i E cs hb
    rw [d_bsl hb]
    exact ⟨m, _, hI.alloc _, h w.heap.size⟩
  · exact h.elim
theorem p_mkfunc {fn : Fn} {l : List Operand} : topC P ro ⟨d, .makeFunc fn #[] l.toArray, ty, ps, af, g⟩ e m L = valA (.func fn #[] (evs e l).toArray) m L := by
  show (∀ w, @sopC P ro _ e (pk C m L w) w) = _
  have : ∀ w, @sopC P ro ⟨d, .makeFunc fn #[] l.toArray, ty, ps, af, g⟩ e (pk C m L w) w = (w = w ∧ C.k (.func fn #[] (evs e l).toArray) m L) := by
    intro w
    rw [sop_exec (by intro c; simp)]
    show upE P _ _ _ ((do pure (Next.value (← Instr.makeFunc fn (#[].map (ev e)) (l.toArray.map (ev e)))) : Sem Next).run P w) = _
    rw [upE_val, evs_eq]
    have e1 : (#[] : Array Operand).map (ev e) = #[] := by simp
    have e2 : l.toArray.map (ev e) = (l.map (ev e)).toArray := by simp
    rw [e1, e2]; rfl
  simp only [this, true_and, forall_const]; rfl
end
end Go.Eng
namespace Go.Eng
open Go Go.RowKit
section
variable {P : Program} {ro : Option Nat} {e : En} {C : KA} {m : Mem} {L : Lst}
variable {d : Option Nat} {ty : TypeId} {ps : String} {af : Array Edge} {g : Option (Nat × Bool)}
/-! ### slice expressions -/
def sliceA (P : Program) (T : TypeId) (a : Value) (lo hi mx : Option Value) [C : KA] (m : Mem) (L : Lst) : Prop := ∀ w, runV P w (Instr.sliceAt T a lo hi mx) (pk C m L w).k (pk C m L w).x
theorem p_slice {T : TypeId} {x : Operand} {lo hi mx : Option Operand} : topC P ro ⟨d, .slice T x lo hi mx, ty, ps, af, g⟩ e m L = sliceA P T (ev e x) (lo.map (ev e)) (hi.map (ev e)) (mx.map (ev e)) m L := by
  show (∀ w, @sopC P ro _ e (pk C m L w) w) = _
  unfold sliceA
  refine forall_congr fun w => ?_
  rw [sop_exec (by intro c; simp)]; exact upE_val _
theorem bound_ok {w : World} {k : IntKind} {i : Int} {y : Nat} {code : BoundsCode} (h : 0 ≤ i ∧ i ≤ y) : (Instr.sliceBound (.int k i) y code).run P w = .ok i.toNat w := by
  simp [Instr.sliceBound, asIntOf, h]
theorem sliceAt_slice {T E : TypeId} {i : TypeInfo} (hu : P.underlying T = some (.slice E)) (hi : P.info? E = some i) {w : World} {a : Option Addr} {n c : Nat} {lo hi_ mx : Option Value} {l h mm : Nat}
    (hb : (Instr.sliceBounds true n c lo hi_ mx).run P w = .ok (l, h, mm) w) :
    (Instr.sliceAt T (.slice a n c) lo hi_ mx).run P w = .ok (.slice (if mm = l then a else a.map (·.add (l * i.size))) (h - l) (mm - l)) w := by
  have e1 : (Instr.sliceAt T (.slice a n c) lo hi_ mx).run P w = (Instr.slice T (.slice a n c) lo hi_ mx).run P w := by
    unfold Instr.sliceAt; rw [Sem.run_bind, run_underlying hu]; rfl
  rw [e1]
  unfold Instr.slice
  rw [Sem.run_bind, run_underlying hu]
  simp only [Result.andThen_ok, Sem.run_bind, hb, sizeOf, typeInfo, run_program, hi, Sem.run_map, Sem.run_pure]
theorem sl_hm {T : TypeId} {s : Nat} (hT : isSlice P T = true) (hs : elemSize P T = some s) {a : Option Addr} {n c : Nat} {k k' : IntKind} {h mm : Int} (h0 : 0 ≤ h ∧ h ≤ mm) (h1 : mm ≤ c) (hk : C.k (.slice a h.toNat mm.toNat) m L) :
    sliceA P T (.slice a n c) none (some (.int k h)) (some (.int k' mm)) m L := by
  unfold isSlice at hT
  split at hT
  · rename_i E hu
    simp only [elemSize, hu, Option.map_eq_some_iff] at hs
    obtain ⟨i, hi, rfl⟩ := hs
    intro w
    have hb : (Instr.sliceBounds true n c none (some (.int k h)) (some (.int k' mm))).run P w = .ok (0, h.toNat, mm.toNat) w := by
      have b1 := fun code => bound_ok (P := P) (w := w) (k := k') (i := mm) (y := c) (code := code) ⟨by omega, h1⟩
      have b2 := fun code => bound_ok (P := P) (w := w) (k := k) (i := h) (y := mm.toNat) (code := code) ⟨h0.1, by omega⟩
      simp [Instr.sliceBounds, b1, b2]
    unfold runV
    rw [sliceAt_slice hu hi hb]
    have e2 : (if mm.toNat = 0 then a else a.map (·.add (0 * i.size))) = a := by
      split
      · rfl
      · cases a <;> simp [Addr.add]
    rw [e2]
    exact ⟨rfl, hk⟩
  · simp at hT
theorem sl_h {T : TypeId} {s : Nat} (hT : isSlice P T = true) (hs : elemSize P T = some s) {a : Option Addr} {n c : Nat} {k : IntKind} {h : Int} (h0 : 0 ≤ h ∧ h ≤ c) (hk : C.k (.slice a h.toNat c) m L) :
    sliceA P T (.slice a n c) none (some (.int k h)) none m L := by
  unfold isSlice at hT
  split at hT
  · rename_i E hu
    simp only [elemSize, hu, Option.map_eq_some_iff] at hs
    obtain ⟨i, hi, rfl⟩ := hs
    intro w
    have hb : (Instr.sliceBounds true n c none (some (.int k h)) none).run P w = .ok (0, h.toNat, c) w := by
      have b2 := fun code => bound_ok (P := P) (w := w) (k := k) (i := h) (y := c) (code := code) ⟨h0.1, by omega⟩
      simp [Instr.sliceBounds, b2]
    unfold runV
    rw [sliceAt_slice hu hi hb]
    have e2 : (if c = 0 then a else a.map (·.add (0 * i.size))) = a := by
      split
      · rfl
      · cases a <;> simp [Addr.add]
    rw [e2]
    exact ⟨rfl, hk⟩
  · simp at hT
theorem sl_l {T : TypeId} {s : Nat} (hT : isSlice P T = true) (hs : elemSize P T = some s) {a : Option Addr} {n c : Nat} {k : IntKind} {l : Int} (h0 : 0 ≤ l ∧ l ≤ n) (hk : C.k (.slice (if c = l.toNat then a else a.map (·.add (l.toNat * s))) (n - l.toNat) (c - l.toNat)) m L) :
    sliceA P T (.slice a n c) (some (.int k l)) none none m L := by
  unfold isSlice at hT
  split at hT
  · rename_i E hu
    simp only [elemSize, hu, Option.map_eq_some_iff] at hs
    obtain ⟨i, hi, rfl⟩ := hs
    intro w
    have hb : (Instr.sliceBounds true n c (some (.int k l)) none none).run P w = .ok (l.toNat, n, c) w := by
      have b2 := fun code => bound_ok (P := P) (w := w) (k := k) (i := l) (y := n) (code := code) ⟨h0.1, by omega⟩
      simp [Instr.sliceBounds, b2]
    unfold runV
    rw [sliceAt_slice hu hi hb]
    exact ⟨rfl, hk⟩
  · simp at hT
theorem sl_lh {T : TypeId} {s : Nat} (hT : isSlice P T = true) (hs : elemSize P T = some s) {a : Option Addr} {n c : Nat} {k k' : IntKind} {l h : Int} (h0 : 0 ≤ l ∧ l ≤ h) (h1 : h ≤ c) (hk : C.k (.slice (if c = l.toNat then a else a.map (·.add (l.toNat * s))) (h.toNat - l.toNat) (c - l.toNat)) m L) :
    sliceA P T (.slice a n c) (some (.int k l)) (some (.int k' h)) none m L := by
  unfold isSlice at hT
  split at hT
  · rename_i E hu
    simp only [elemSize, hu, Option.map_eq_some_iff] at hs
    obtain ⟨i, hi, rfl⟩ := hs
    intro w
    have hb : (Instr.sliceBounds true n c (some (.int k l)) (some (.int k' h)) none).run P w = .ok (l.toNat, h.toNat, c) w := by
      have b1 := fun code => bound_ok (P := P) (w := w) (k := k') (i := h) (y := c) (code := code) ⟨by omega, h1⟩
      have b2 := fun code => bound_ok (P := P) (w := w) (k := k) (i := l) (y := h.toNat) (code := code) ⟨h0.1, by omega⟩
      simp [Instr.sliceBounds, b1, b2]
    unfold runV
    rw [sliceAt_slice hu hi hb]
    exact ⟨rfl, hk⟩
  · simp at hT
theorem sliceAt_str {T : TypeId} (hu : P.underlying T = some .string) {w : World} {s : ByteArray} {lo hi_ : Option Value} {l h mm : Nat} (hb : (Instr.sliceBounds false s.size s.size lo hi_ none).run P w = .ok (l, h, mm) w) :
    (Instr.sliceAt T (.string s) lo hi_ none).run P w = .ok (.string (s.extract l h)) w := by
  have e1 : (Instr.sliceAt T (.string s) lo hi_ none).run P w = (Instr.slice T (.string s) lo hi_ none).run P w := by
    unfold Instr.sliceAt; rw [Sem.run_bind, run_underlying hu]; rfl
  rw [e1]
  unfold Instr.slice
  rw [Sem.run_bind, run_underlying hu]
  simp [hb]
theorem ss_lh {T : TypeId} (hT : isStr P T = true) {s : ByteArray} {k k' : IntKind} {l h : Int} (h0 : 0 ≤ l ∧ l ≤ h) (h1 : h ≤ s.size) (hk : C.k (.string (s.extract l.toNat h.toNat)) m L) : sliceA P T (.string s) (some (.int k l)) (some (.int k' h)) none m L := by
  unfold isStr at hT
  split at hT
  · rename_i hu
    intro w
    have hb : (Instr.sliceBounds false s.size s.size (some (.int k l)) (some (.int k' h)) none).run P w = .ok (l.toNat, h.toNat, s.size) w := by
      have b1 := fun code => bound_ok (P := P) (w := w) (k := k') (i := h) (y := s.size) (code := code) ⟨by omega, h1⟩
      have b2 := fun code => bound_ok (P := P) (w := w) (k := k) (i := l) (y := h.toNat) (code := code) ⟨h0.1, by omega⟩
      simp [Instr.sliceBounds, b1, b2]
    unfold runV
    rw [sliceAt_str hu hb]
    exact ⟨rfl, hk⟩
  · simp at hT
theorem ss_l {T : TypeId} (hT : isStr P T = true) {s : ByteArray} {k : IntKind} {l : Int} (h0 : 0 ≤ l ∧ l ≤ s.size) (hk : C.k (.string (s.extract l.toNat s.size)) m L) : sliceA P T (.string s) (some (.int k l)) none none m L := by
  unfold isStr at hT
  split at hT
  · rename_i hu
    intro w
    have hb : (Instr.sliceBounds false s.size s.size (some (.int k l)) none none).run P w = .ok (l.toNat, s.size, s.size) w := by
      have b2 := fun code => bound_ok (P := P) (w := w) (k := k) (i := l) (y := s.size) (code := code) ⟨h0.1, by omega⟩
      simp [Instr.sliceBounds, b2]
    unfold runV
    rw [sliceAt_str hu hb]
    exact ⟨rfl, hk⟩
  · simp at hT
theorem ss_h {T : TypeId} (hT : isStr P T = true) {s : ByteArray} {k : IntKind} {h : Int} (h0 : 0 ≤ h ∧ h ≤ s.size) (hk : C.k (.string (s.extract 0 h.toNat)) m L) : sliceA P T (.string s) none (some (.int k h)) none m L := by
  unfold isStr at hT
  split at hT
  · rename_i hu
    intro w
    have hb : (Instr.sliceBounds false s.size s.size none (some (.int k h)) none).run P w = .ok (0, h.toNat, s.size) w := by
      have b2 := fun code => bound_ok (P := P) (w := w) (k := k) (i := h) (y := s.size) (code := code) ⟨h0.1, by omega⟩
      simp [Instr.sliceBounds, b2]
    unfold runV
    rw [sliceAt_str hu hb]
    exact ⟨rfl, hk⟩
  · simp at hT
end
end Go.Eng
namespace Go.Eng
open Go Go.RowKit
section
variable {P : Program} {e : En} {C : KA} {m : Mem} {L : Lst} {ty : TypeId}
theorem At.sub {Lx L' : Lst} {b : Nat} {cs : Array Value} (h : At m Lx b cs) (t : TakeL L Lx L') : At m L b cs := fun L0 w hI => h (L' ++ L0) w (t.inv hI)
theorem SlAt.sub {Lx L' : Lst} {v : Value} {n s : Nat} {news : List Value} (h : SlAt m Lx v n s news) (t : TakeL L Lx L') : SlAt m L v n s news := by
  rcases h with h | ⟨b, o, c, cs, h1, h2, h3, h4⟩
  · exact .inl h
  · exact .inr ⟨b, o, c, cs, h1, h2, h3.sub t, h4⟩
theorem SlAt.ext {Lx Ly : Lst} {v : Value} {n s : Nat} {news : List Value} (h : SlAt m Lx v n s news) : SlAt m (Lx ++ Ly) v n s news := h.sub TakeL.here
theorem SlAt.up {v : Value} {n s : Nat} {news : List Value} (h : SlAt m [] v n s news) : SlAt m L v n s news := by
  rcases h with h | ⟨b, o, c, cs, h1, h2, h3, h4⟩
  · exact .inl h
  · exact .inr ⟨b, o, c, cs, h1, h2, h3.up, h4⟩
theorem SlAt.le {m' : Mem} {v : Value} {n s : Nat} {news : List Value} (h : SlAt m L v n s news) (hm : m.Le m') : SlAt m' L v n s news := by
  rcases h with h | ⟨b, o, c, cs, h1, h2, h3, h4⟩
  · exact .inl h
  · exact .inr ⟨b, o, c, cs, h1, h2, h3.le hm, h4⟩
theorem SlAt.cons {p : Nat × Obj} {v : Value} {n s : Nat} {news : List Value} (h : SlAt m L v n s news) : SlAt m (p :: L) v n s news := h.sub (L' := [p]) (TakeL.cons .all)
theorem SlAt.app {Ly : Lst} {v : Value} {n s : Nat} {news : List Value} (h : SlAt m L v n s news) : SlAt m (Ly ++ L) v n s news := h.sub (L' := Ly ++ []) (TakeL.app .all)
theorem SlAt.whole {b n c s : Nat} {l : List Value} (h : At m L b l.toArray) (hl : l.length = n * s) : SlAt m L (.slice (some ⟨b, 0, none⟩) n c) n s l :=
  .inr ⟨b, 0, c, l.toArray, rfl, hl, h, fun j x hj => by simpa using hj⟩
theorem SlAt.slice {v : Value} {n s : Nat} {news : List Value} (h : SlAt m L v n s news) : ∃ p c, v = .slice p n c := by
  rcases h with ⟨rfl, _, p, c, h⟩ | ⟨b, o, c, cs, h, _⟩
  · exact ⟨p, c, h⟩
  · exact ⟨_, _, h⟩
theorem GS.slice {E : TypeId} {s n : Nat} {v : Value} {xs : List Value} {Lg : Lst} (h : GS E s v n xs Lg) : ∃ p c, v = .slice p n c := by
  obtain ⟨_, ⟨rfl, rfl, _⟩ | ⟨b, c, sp, rfl, _⟩⟩ := h
  · exact ⟨none, 0, rfl⟩
  · exact ⟨_, _, rfl⟩
/-- An append to the nil slice. -/
theorem bi_append_nil {T E : TypeId} {s by_ : Nat} {z : List Value} {x : Value} {k : Nat} {news : List Value} {cs : Array Bool} (hx : SlAt m L x k s news)
    (h : slInfo P T = some (E, s, by_, z)) (hz : z.length = s) (hs0 : 0 < s) (h1 : oneAll news = true) (hb : k * by_ ≤ 140737488355328) (hm : k ≤ maxLen)
    (hk : ∀ v' Lg', GS E s v' k news Lg' → C.k v' m (Lg' ++ L)) : biA P .append #[T, T] ty cs [.slice none 0 0, x] m L := by
  have := bi_append (P := P) (ty := ty) (cs := cs) (C := C) (m := m) (L := [] ++ L) (GS.nil (E := E) (s := s)) TakeL.here hx h hz hs0 h1 (by simpa using hb) (by simpa using hm) (by simpa using hk)
  exact this
theorem oneAll_append {a b : List Value} : oneAll (a ++ b) = (oneAll a && oneAll b) := by simp [oneAll]
theorem oneAll_flat {α : Type} {f : α → List Value} (h : ∀ a, oneAll (f a) = true) (l : List α) : oneAll (l.flatMap f) = true := by
  induction l with
  | nil => rfl
  | cons a l ih => rw [List.flatMap_cons, oneAll_append, h, ih]; rfl
theorem oneAll_rep {v : Value} (h : v.oneCell' = true) (n : Nat) : oneAll (List.replicate n v) = true := by
  unfold oneAll
  rw [List.all_eq_true]
  intro x hx
  rw [(List.mem_replicate.1 hx).2]; exact h
end
end Go.Eng
namespace Go.Eng
theorem end_takeR {R : Mem → Lst → Prop} {m : Mem} {L Lp Lf : Lst} (h : R m Lp) (p : Takes L Lp Lf) : endA R m L := end_take p (end_here h)
end Go.Eng
