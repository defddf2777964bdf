/- The engine over abstract states: maps. -/
import Derived.Test.YthfbfigdgjhhaaaEngStr
import Derived.MapKept
import Derived.WideKeyRuns
set_option linter.all false
namespace Go.Eng
open Go Go.RowKit
section
variable {κ : Type} [DecidableEq κ]
/-- A map's entries, in the order in which they came. -/
def ent (enc : κ → Value) : Nat → List (κ × Value) → List MapEntry
  | _, [] => []
  | i, p :: l => ⟨enc p.1, p.2, i⟩ :: ent enc (i + 1) l
/-- A map, in memory. -/
def mapK (enc : κ → Value) (l : List (κ × Value)) : Obj := .map (ent enc 0 l).toArray l.length
def kget : List (κ × Value) → κ → Option Value
  | [], _ => none
  | p :: l, n => if p.1 = n then some p.2 else kget l n
def kput : List (κ × Value) → κ → Value → List (κ × Value)
  | [], n, v => [(n, v)]
  | p :: l, n, v => if p.1 = n then (n, v) :: l else p :: kput l n v
theorem kget_kput (l : List (κ × Value)) (n k : κ) (v : Value) : kget (kput l n v) k = if n = k then some v else kget l k := by
  induction l with
  | nil => simp only [kput, kget]
  | cons p l ih =>
    unfold kput
    by_cases h : p.1 = n
    · rw [if_pos h]; unfold kget; dsimp only
      by_cases hk : n = k
      · rw [if_pos hk, if_pos hk]
      · rw [if_neg hk, if_neg hk, if_neg (by rw [h]; exact hk)]
    · rw [if_neg h]; unfold kget
      by_cases hk : p.1 = k
      · rw [if_pos hk, if_neg (by rw [← hk]; exact fun e => h e.symm), if_pos hk]
      · rw [if_neg hk, if_neg hk]; exact ih
theorem kput_len (l : List (κ × Value)) (n : κ) (v : Value) : (kput l n v).length = if (kget l n).isSome then l.length else l.length + 1 := by
  induction l with
  | nil => rfl
  | cons p l ih =>
    unfold kput kget
    by_cases h : p.1 = n
    · rw [if_pos h, if_pos h]; rfl
    · rw [if_neg h, if_neg h, List.length_cons, ih, List.length_cons]; split <;> rfl
/-- Where a key is found, or that it isn't. -/
def kat : Nat → List (κ × Value) → κ → Option (Nat × Value)
  | _, [], _ => none
  | j, p :: l, n => if p.1 = n then some (j, p.2) else kat (j + 1) l n
theorem kat_spec (enc : κ → Value) (l : List (κ × Value)) (n : κ) : ∀ i j, (kget l n = none ∧ kat j l n = none ∧ ∀ v, ent enc i (kput l n v) = ent enc i l ++ [⟨enc n, v, i + l.length⟩]) ∨
    ∃ q x e, kget l n = some x ∧ kat j l n = some (j + q, x) ∧ (ent enc i l)[q]? = some e ∧ e.key = enc n ∧ ∀ v, ent enc i (kput l n v) = (ent enc i l).modify q fun e => { e with key := enc n, val := v } := by
  induction l with
  | nil => intro i j; exact .inl ⟨rfl, rfl, fun v => rfl⟩
  | cons p l ih =>
    intro i j
    by_cases h : p.1 = n
    · right
      refine ⟨0, p.2, _, by unfold kget; rw [if_pos h], by unfold kat; rw [if_pos h]; rfl, rfl, by rw [← h], fun v => ?_⟩
      unfold kput; rw [if_pos h]; simp only [ent, List.modify_cons, if_pos]
    · have hn : kat j (p :: l) n = kat (j + 1) l n := by conv => lhs; unfold kat; rw [if_neg h]
      rcases ih (i + 1) (j + 1) with ⟨h1, h2, h3⟩ | ⟨q, x, e, h1, h2, h3, h4, h5⟩
      · left
        refine ⟨by unfold kget; rw [if_neg h]; exact h1, by rw [hn, h2], fun v => ?_⟩
        unfold kput; rw [if_neg h]
        simp only [ent, h3, List.cons_append, List.length_cons]
        rw [show i + 1 + l.length = i + (l.length + 1) by omega]
      · right
        refine ⟨q + 1, x, e, by unfold kget; rw [if_neg h]; exact h1, by rw [hn, h2]; congr 2; omega, by simpa [ent] using h3, h4, fun v => ?_⟩
        unfold kput; rw [if_neg h]
        simp only [ent, h5, List.modify_succ_cons]
/-- Keys that are compared, in a program, as they are in Lean. -/
structure KeyOk (P : Program) (K : TypeId) (enc : κ → Value) : Prop where
  chk : ∀ em k w, (Instr.checkKey em 10000 K (enc k)).run P w = .ok () w
  find : ∀ k l w, (Instr.findKey K (enc k) (ent enc 0 l)).run P w = .ok (kat 0 l k) w
  stay : ∀ k w, (Instr.keyThatStays (enc k) (enc k)).run P w = .ok (enc k) w
end
abbrev encI : Int → Value := fun n => .int .i64 n
abbrev encP : Int × Int → Value := fun p => .agg #[.int .i64 p.1, .int .i64 p.2]
def isInt (P : Program) (K : TypeId) : Bool := match P.underlying K with | some (.int .i64) => true | _ => false
theorem keyI {P : Program} {K : TypeId} (h : isInt P K = true) : KeyOk P K encI := by
  have hK : P.underlying K = some (.int .i64) := by
    unfold isInt at h; split at h
    · assumption
    · cases h
  refine ⟨fun em k w => MapKept.run_checkKey (n := 9999) hK (show MapKept.IsKey (.int .i64) (.int .i64 k) from rfl) em, fun k l w => ?_, fun k w => by simp [Instr.keyThatStays, Instr.sameBits]⟩
  refine MapKept.run_findKey hK ?_
  have : ∀ i j, Instr.findNow (.int .i64) (encI k) (ent encI i l) j = some (kat j l k) := by
    induction l with
    | nil => intro i j; rfl
    | cons p l ih =>
      intro i j
      unfold ent Instr.findNow kat
      by_cases h : p.1 = k
      · simp only [encI, Instr.sameNow, if_true, h, beq_self_eq_true]
      · have : (k == p.1) = false := by rw [beq_eq_false_iff_ne]; exact fun e => h e.symm
        simp only [encI, Instr.sameNow, if_true, this, if_neg h]
        exact ih (i + 1) (j + 1)
  exact this 0 0
theorem keyP {P : Program} {K : TypeId} (hw : (match P.underlying K with | some (.array _ _) | some (.struct _) => true | _ => false) = true)
    (heq : ∀ a b c d w, (Op.equalIn 10000 K (.agg #[.int .i64 a, .int .i64 b]) (.agg #[.int .i64 c, .int .i64 d])).run P w = .ok (decide (a = c ∧ b = d)) w)
    (hchk : ∀ em a b w, (Instr.checkKey em 10000 K (.agg #[.int .i64 a, .int .i64 b])).run P w = .ok () w) : KeyOk P K encP := by
  refine ⟨fun em k w => hchk em k.1 k.2 w, fun k l w => ?_, fun k w => by simp [Instr.keyThatStays, Instr.sameBits]⟩
  rw [run_findKey_eq w hw]
  have : ∀ i j, (Instr.findAsking K (encP k) (ent encP i l) j).run P w = .ok (kat j l k) w := by
    induction l with
    | nil => intro i j; simp [ent, Instr.findAsking, kat]
    | cons p l ih =>
      intro i j
      have hq : (Op.equal K (encP k) (encP p.1)).run P w = .ok (decide (k.1 = p.1.1 ∧ k.2 = p.1.2)) w := heq _ _ _ _ w
      unfold ent Instr.findAsking kat
      by_cases h : p.1 = k
      · rw [if_pos h]
        rw [h] at hq
        simp [hq, h]
      · rw [if_neg h]
        have : ¬ (k.1 = p.1.1 ∧ k.2 = p.1.2) := fun ⟨h1, h2⟩ => h (Prod.ext h1.symm h2.symm)
        simp [hq, this, ih (i + 1) (j + 1)]
  exact this 0 0
/-- A map's type: its keys' type, what is read where nothing is. -/
def mapInfo (P : Program) (T : TypeId) : Option (TypeId × Value) := match P.underlying T with
  | some (.map K E) => ((P.info? E).bind (·.zero)).map fun z => (K, z)
  | _ => none
theorem mapInfo_parts {P : Program} {T K : TypeId} {z : Value} (h : mapInfo P T = some (K, z)) : ∃ E, P.underlying T = some (.map K E) ∧ ∀ w, (zeroValue E).run P w = .ok z w := by
  unfold mapInfo at h
  split at h
  · rename_i K' E hu
    cases hi : P.info? E with
    | none => rw [hi] at h; cases h
    | some i =>
      rw [hi] at h
      cases hz : i.zero with
      | none => rw [Option.bind_some, hz] at h; cases h
      | some z' =>
        rw [Option.bind_some, hz] at h
        obtain ⟨rfl, rfl⟩ := Prod.mk.inj (Option.some.inj h)
        exact ⟨E, hu, fun w => by simp [zeroValue, typeInfo, hi, hz]⟩
  · cases h
section
variable {P : Program} {ro : Option Nat} {e : En} {C : KA} {m : Mem} {L L' : Lst} {d : Option Nat} {ty : TypeId} {ps : String} {af : Array Edge} {g : Option (Nat × Bool)}
variable {κ : Type} [DecidableEq κ]
theorem p_mkmap {T : TypeId} (enc : κ → Value) (h : ∀ b, C.k (.map (some b)) m ((b, mapK enc []) :: L)) : topC P ro ⟨d, .makeMap T none, ty, ps, af, g⟩ e m L := by
  show ∀ L0 w, Inv m (L ++ L0) w → @sopC P ro _ e (ck C L0) w
  intro L0 w hI
  rw [sop_exec (by intro c; simp)]
  have : (execOp (ev e) ⟨d, .makeMap T none, ty, ps, af, g⟩).run P w = .ok (.value (.map (some w.heap.size))) (w.alloc (.map #[] 0)) := by
    simp [execOp, Instr.makeMap]
  rw [this]
  exact ⟨m, _, hI.alloc _, h w.heap.size⟩
def lookA (P : Program) (T : TypeId) (v k : Value) (ok : Bool) [C : KA] (m : Mem) (L : Lst) : Prop := ∀ L0 w, Inv m (L ++ L0) w → runV P w (Instr.lookup T v k ok) (ck C L0).k (ck C L0).x
theorem p_lookup {T : TypeId} {x y : Operand} {ok : Bool} : topC P ro ⟨d, .lookup T x y ok, ty, ps, af, g⟩ e m L = lookA P T (ev e x) (ev e y) ok m L := by
  show (∀ L0 w, Inv m (L ++ L0) w → @sopC P ro _ e (ck C L0) w) = _
  unfold lookA
  refine forall_congr fun L0 => forall_congr fun w => forall_congr fun _ => ?_
  rw [sop_exec (by intro c; simp)]; exact upE_val _
def lookV (ok : Bool) (z : Value) : Option Value → Value
  | some v => bif ok then .tuple #[v, .bool true] else v
  | none => bif ok then .tuple #[z, .bool false] else z
theorem lookV_st {z v : Value} : lookV true z (some v) = .tuple #[v, .bool true] := Eq.trans rfl rfl
theorem lookV_sf {z v : Value} : lookV false z (some v) = v := Eq.trans rfl rfl
theorem lookV_nt {z : Value} : lookV true z none = .tuple #[z, .bool false] := Eq.trans rfl rfl
theorem lookV_nf {z : Value} : lookV false z none = z := Eq.trans rfl rfl
theorem look_of {T K : TypeId} {z : Value} {enc : κ → Value} (ko : KeyOk P K enc) (h : mapInfo P T = some (K, z)) {b : Nat} {l : List (κ × Value)} {n : κ} {ok : Bool} (t : Take L b (mapK enc l) L') (hk : C.k (lookV ok z (kget l n)) m L) : lookA P T (.map (some b)) (enc n) ok m L := by
  intro L0 w hI
  obtain ⟨E, hu, hz⟩ := mapInfo_parts h
  have hb := hI.heap t
  have : (Instr.lookup T (.map (some b)) (enc n) ok).run P w = .ok (lookV ok z (kget l n)) w := by
    have hc := fun em => ko.chk em n w
    have hf := ko.find n l w
    rcases kat_spec enc l n 0 0 with ⟨h1, h2, _⟩ | ⟨q, x, ee, h1, h2, _⟩
    · rw [h2] at hf
      rw [h1]
      cases ok <;> simp [Instr.lookup, run_underlying hu, MapKept.run_getObj_map hb, hc, hf, hz, lookV]
    · rw [h2] at hf
      rw [h1]
      cases ok <;> simp [Instr.lookup, run_underlying hu, MapKept.run_getObj_map hb, hc, hf, lookV]
  unfold runV
  rw [this]
  exact ⟨m, L, hI, hk⟩
theorem look_P {T K : TypeId} {z : Value} (ko : KeyOk P K encP) (h : mapInfo P T = some (K, z)) {b : Nat} {l : List ((Int × Int) × Value)} {x y : Int} {ok : Bool} (t : Take L b (mapK encP l) L') (hk : C.k (lookV ok z (kget l (x, y))) m L) : lookA P T (.map (some b)) (.agg #[.int .i64 x, .int .i64 y]) ok m L :=
  look_of (n := (x, y)) ko h t hk
def mupdA (P : Program) (T : TypeId) (v k x : Value) [C : KA] (m : Mem) (L : Lst) : Prop := ∀ L0 w, Inv m (L ++ L0) w → ∃ w', (Instr.mapUpdate T v k x).run P w = .ok () w' ∧ (ck C L0).k undef w'
theorem p_mupd {T : TypeId} {x y z : Operand} (h : mupdA P T (ev e x) (ev e y) (ev e z) m L) : topC P ro ⟨d, .mapUpdate T x y z, ty, ps, af, g⟩ e m L := by
  show ∀ L0 w, Inv m (L ++ L0) w → @sopC P ro _ e (ck C L0) w
  intro L0 w hI
  obtain ⟨w', h1, h2⟩ := h L0 w hI
  rw [sop_exec (by intro c; simp)]
  have : (execOp (ev e) ⟨d, .mapUpdate T x y z, ty, ps, af, g⟩).run P w = .ok .skip w' := by
    simp [execOp, h1]
  rw [this]; exact h2
theorem mupd_of {T K : TypeId} {z : Value} {enc : κ → Value} (ko : KeyOk P K enc) (h : mapInfo P T = some (K, z)) {b : Nat} {l : List (κ × Value)} {n : κ} {x : Value} (t : Put L b (mapK enc l) (mapK enc (kput l n x)) L') (hk : C.k undef m L') : mupdA P T (.map (some b)) (enc n) x m L := by
  intro L0 w hI
  obtain ⟨E, hu, hz⟩ := mapInfo_parts h
  obtain ⟨R, q1, q2⟩ := t.perm
  have hb : w.heap[b]? = some (mapK enc l) := (hI.own (b, mapK enc l) (List.mem_append_left _ (q1.mem_iff.2 (by simp)))).1
  have hc := fun em => ko.chk em n w
  have hf := ko.find n l w
  have hst := ko.stay n w
  have hs : ∀ o, (setObj b o).run P w = .ok () { w with heap := w.heap.setIfInBounds b o } := fun o => MapKept.run_setObj_map o hb
  have main : (Instr.mapUpdate T (.map (some b)) (enc n) x).run P w = .ok () { w with heap := w.heap.setIfInBounds b (mapK enc (kput l n x)) } := by
    rcases kat_spec enc l n 0 0 with ⟨h1, h2, h3⟩ | ⟨q, y, ee, h1, h2, h3, h4, h5⟩
    · rw [h2] at hf
      have e1 : mapK enc (kput l n x) = .map ((ent enc 0 l).toArray.push ⟨enc n, x, l.length⟩) (l.length + 1) := by
        unfold mapK
        rw [h3, kput_len, h1, Nat.zero_add]
        simp
      rw [e1]
      simp [Instr.mapUpdate, run_underlying hu, MapKept.run_getObj_map hb, hc, hf, hs]
    · rw [h2] at hf
      have e1 : mapK enc (kput l n x) = .map ((ent enc 0 l).toArray.modify q fun e => { e with key := enc n, val := x }) l.length := by
        unfold mapK
        rw [h5, kput_len, h1]
        simp
      rw [e1]
      simp [Instr.mapUpdate, run_underlying hu, MapKept.run_getObj_map hb, hc, hf, hs, h3, h4, hst]
  refine ⟨_, main, m, L', ?_, hk⟩
  have hlt := (Array.getElem?_eq_some_iff.1 hb).1
  exact hI.put t (by simp [hlt]) (fun q hq => by simp [Ne.symm hq]) rfl rfl rfl
theorem mupd_P {T K : TypeId} {z : Value} (ko : KeyOk P K encP) (h : mapInfo P T = some (K, z)) {b : Nat} {l : List ((Int × Int) × Value)} {x y : Int} {v : Value} (t : Put L b (mapK encP l) (mapK encP (kput l (x, y) v)) L') (hk : C.k undef m L') : mupdA P T (.map (some b)) (.agg #[.int .i64 x, .int .i64 y]) v m L :=
  mupd_of (n := (x, y)) ko h t hk
end
end Go.Eng
