/- Layer 3: two values held against each other, in all cases: the program's. -/
import Derived.Test.YtkcacgjbofabfaaDoorKAlike
import Derived.Test.YtkcacgjbofabfaaDoorKAlike2
import Derived.Test.YtkcacgjbofabfaaDoorKMain
set_option linter.unusedSimpArgs false
set_option linter.unusedVariables false
set_option linter.all false
namespace Go.Proofs.YtkcacgjbofabfaaDoor
open Go Go.Eng Go.Heap
theorem alike_all (N : AN) (ha hb : Nat) (a b : HS) (Lz : Lst) (oa : ObjK ha a Lz) (ob : ObjK hb b Lz) : AlkK N ha hb a b Lz := by
  intro P i p c Lt v w m hm hg hi hP
  have same : ∀ r, alk a b P v w = (r, P) → Cta Tryd.prog 24 ([vv v, vv w] ++ [ptr N.ba, ptr N.bb, ptr N.bk, ptr N.bt, ptr N.bc, ptr N.btd]) m (aS N ha hb Lz P p (P.length - i) c Lt) (AlkR N ha hb a b Lz P i v w m) :=
    fun r hr => alike_same N ha hb a b Lz P i p c Lt v w m oa ob hm hg r hr
  by_cases h1 : v.1 ≠ w.1 ∨ (objO a v).isSome ≠ (objO b w).isSome
  · exact same _ (by unfold alk; rw [if_pos h1])
  · by_cases h2 : (objO a v).isSome = false
    · exact same _ (by unfold alk; rw [if_neg h1, if_pos h2])
    · by_cases h3 : (v.2, w.2) ∈ P
      · exact same _ (by unfold alk; rw [if_neg h1, if_neg h2, if_pos h3])
      · by_cases h4 : v.2 ∈ P.map (·.1) ∨ w.2 ∈ P.map (·.2)
        · exact same _ (by unfold alk; rw [if_neg h1, if_neg h2, if_neg h3, if_pos h4])
        · have h5 : (objO a v).isSome = true := Bool.of_not_eq_false h2
          have h6 : (objO b w).isSome = true := by
            rw [← h5]; exact (Classical.byContradiction fun h => h1 (.inr fun e => h e.symm))
          obtain ⟨o, ho⟩ := Option.isSome_iff_exists.1 h5
          obtain ⟨q, hq⟩ := Option.isSome_iff_exists.1 h6
          exact alike_new N ha hb a b Lz P i p c Lt v w m oa ob hm hg hi hP o q ho hq h3 h4
/-- Two heaps held against each other as seen from values. -/
theorem same_ct (ha hb : Nat) (a b : HS) (Lz : Lst) (oa : ObjK ha a Lz) (ob : ObjK hb b Lz) (x y : List V) (px py : Option Addr) (cx cy : Nat) (m : Mem) (hx : SlAt m Lz (.slice px x.length cx) x.length 2 (encs x)) (hy : SlAt m Lz (.slice py y.length cy) y.length 2 (encs y))
    (hxl : x.length ≤ 100000) (hal : a.objs.length ≤ 100000) (hac : ∀ o ∈ a.objs, o.2.length ≤ 100000) :
    Cta Tryd.prog 12 [ptr ha, .slice px x.length cx, ptr hb, .slice py y.length cy] m Lz (fun v m' L' => m.Le m' ∧ v = .bool (sameF a x b y) ∧ L' = Lz) :=
  same_main ha hb a b Lz (fun N => alike_all N ha hb a b Lz oa ob) oa ob x y px py cx cy m hx hy hxl hal hac
end Go.Proofs.YtkcacgjbofabfaaDoor
