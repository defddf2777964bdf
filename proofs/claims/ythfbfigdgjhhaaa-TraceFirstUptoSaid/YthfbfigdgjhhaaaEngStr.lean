/- The engine: strings and slices of bytes. -/
import Derived.Test.YthfbfigdgjhhaaaEngScope
import Derived.Laws.BytesString
import Derived.Lib.SlBytesConst
set_option linter.all false
namespace Go.Eng
open Go Go.RowKit
section
variable {P : Program} {C : KA} {m : Mem} {L : Lst} {e : En} {ro : Option Nat} {d : Option Nat} {ty : TypeId} {ps : String} {af : Array Edge} {g : Option (Nat × Bool)}
theorem p_cv1 {s t : TypeId} {x : Operand} (hc : intConv P s t = none) (h : convA none P s t (ev e x) m L) : topC P ro ⟨d, .convert s t x, ty, ps, af, g⟩ e m L := by
  rw [p_conv_none hc]; exact h
theorem p_convN {s t : TypeId} {x : Operand} (hc : intConv P s t = none) : topC P ro ⟨d, .convert s t x, ty, ps, af, g⟩ e m L = convA none P s t (ev e x) m L := p_conv_none hc
/-- Bytes, or bytes and a string. -/
def isBy (P : Program) (T : TypeId) : Bool := match P.underlying T with | some (.slice E) => (match P.underlying E with | some (.int .u8) => true | _ => false) | _ => false
theorem isBy_parts {T : TypeId} (h : isBy P T = true) : ∃ E, P.underlying T = some (.slice E) ∧ P.underlying E = some (.int .u8) := by
  unfold isBy at h
  split at h
  · rename_i E hE; refine ⟨E, hE, ?_⟩
    split at h
    · rename_i h2; exact h2
    · cases h
  · cases h
theorem isStr_parts {T : TypeId} (h : isStr P T = true) : P.underlying T = some .string := by
  unfold isStr at h
  split at h
  · rename_i h2; exact h2
  · cases h
/-- A literal of bytes is marked. -/
theorem cv_mark {T E : TypeId} {b n c o : Nat} {l : List Value} {L' : Lst} (hT : isBy P T = true) (hp : Put L b (.cells l.toArray E (0, 0)) (.cells l.toArray E (l.length, l.length + 1)) L') (hk : C.k (.slice (some ⟨b, o, none⟩) n c) m L') :
    convA none P T T (.slice (some ⟨b, o, none⟩) n c) m L := by
  intro L0 w hI
  obtain ⟨E', ht, he⟩ := isBy_parts hT
  obtain ⟨R, q1, q2⟩ := hp.perm
  have hb : w.heap[b]? = some (.cells l.toArray E (0, 0)) := (hI.own (b, _) (List.mem_append_left _ (q1.mem_iff.2 (by simp)))).1
  have hsh : w.shape? b = some (E, l.length) := by unfold World.shape?; rw [hb]; simp
  have hr : (convert T T (.slice (some ⟨b, o, none⟩) n c)).run P w = .ok (.slice (some ⟨b, o, none⟩) n c) (w.freeze ⟨b, l.length, none⟩ 1) := by
    simp [convert, run_underlying ht, run_underlying he, markStringish, hsh]
  unfold convP runV
  rw [hr]
  refine ⟨m, L', hI.put hp ?_ ?_ rfl rfl rfl, hk⟩
  · simp [World.freeze, Array.getElem?_modify, hb]
  · intro q hq; simp [World.freeze, Array.getElem?_modify, Ne.symm hq]
def asInt : Value → Int
  | .int _ n => n
  | _ => 0
def allU8 (l : List Value) : Bool := l.all fun v => match v with | .int .u8 _ => true | _ => false
def bytesOf (l : List Int) : ByteArray := l.foldl (fun r n => r.push (UInt8.ofNat n.toNat)) ByteArray.empty
theorem allU8_map : ∀ {l : List Value}, allU8 l = true → l = (l.map asInt).map (Value.int .u8) := by
  intro l
  induction l with
  | nil => intro _; rfl
  | cons v l ih =>
    intro h
    unfold allU8 at h ih
    rw [List.all_cons, Bool.and_eq_true] at h
    have h1 : v = .int .u8 (asInt v) := by
      have := h.1
      split at this
      · rfl
      · cases this
    rw [List.map_cons, List.map_cons, ← ih h.2, ← h1]
/-- Bytes become a string. -/
theorem cv_str {S T : TypeId} {k : Nat} {x : Value} {news : List Value} (hS : isBy P S = true) (hT : isStr P T = true) (hx : SlAt m L x k 1 news) (hu : allU8 news = true) (hk : C.k (.string (bytesOf (news.map asInt))) m L) :
    convA none P S T x m L := by
  intro L0 w hI
  obtain ⟨E, hs, he⟩ := isBy_parts hS
  have hd := isStr_parts hT
  rcases hx with ⟨rfl, rfl, p, c, rfl⟩ | ⟨b, o, c, cs, rfl, hl, hat, hc⟩
  · have : (convert S T (.slice p 0 c)).run P w = .ok (.string (bytesOf [])) w := by
      rw [run_convert_bytes_string w S T E p 0 c hs he hd]
      cases p with
      | none => rfl
      | some a => exact run_bytesToString w a 0 c [] rfl
    unfold convP runV; rw [this]; exact ⟨m, L, hI, hk⟩
  · obtain ⟨T', f, hb⟩ := hat L0 w hI
    have hm := allU8_map hu
    have hlen : news.length = k := by simpa using hl
    have hload : (loadCells ⟨b, o, none⟩ k).run P w = .ok ((news.map asInt).map (Value.int .u8)).toArray w := by
      rw [← hm, ← hlen]
      exact run_loadCells_list (w := w) ⟨b, o, none⟩ news fun j v hj => by rw [add_at, cell_at hb]; exact hc j v hj
    unfold convP runV
    rw [run_convert_bytes_string w S T E _ k c hs he hd, run_bytesToString w _ k c (news.map asInt) hload]
    exact ⟨m, L, hI, hk⟩
theorem b_add_str {T : TypeId} {x y : Operand} {s t : ByteArray} {C : KX} {w : World} (h : (s.size : Int) + t.size ≤ 9223372036854775807) : binP P .add T x y (.string s) (.string t) w = C.k (.string (s ++ t)) w := by
  simp [binP, runV, binOp, Op.stringOp, eqGuard]
  rw [if_neg (by omega)]
theorem ab_add_str {T : TypeId} {x y : Operand} {s t : ByteArray} (h : (s.size : Int) + t.size ≤ 9223372036854775807) : binA P .add T x y (.string s) (.string t) m L = C.k (.string (s ++ t)) m L := by
  unfold binA; simp only [b_add_str h]
  exact propext ⟨fun q => (q default).2, fun q w => ⟨rfl, q⟩⟩
/-! ### one proof for a loop that is reached on several roads -/
theorem loop_gen {C : LPA} {ds : DS} (h : ∀ e0, e = e0 → @loopCA C e0 ds m L) : @loopCA C e ds m L := h e rfl
structure Kf (p : Prop) : Prop where
  out : p
theorem once {Q : Prop} (ρ : List (Nat × Value)) (G : En → Prop) (h1 : Kf (∀ e, Fits e ρ → G e) → Q) (h2 : ∀ e, Fits e ρ → G e) : Q := h1 ⟨h2⟩
end
/-! ### a region that draws its order, every order by itself -/
section
variable (P : Program) (ro : Option Nat) (dl : List (Option Nat)) (Q : QA) (ops : List Oper)
def readyL (ops : List Oper) (D : List Nat) : List Nat := (List.range ops.length).filter fun i => !D.contains i && (direct ops i).all fun j => D.contains j
def anyA : Nat → List Nat → En → DS → Mem → Lst → Prop
  | 0, _, e, ds, m, L => Q .normal e ds m L
  | f + 1, D, e, ds, m, L => ∀ i ∈ readyL ops D, ∀ o, ops[i]? = some o →
    stepA P ro dl o e ⟨fun v m' L' => anyA f (D ++ [i]) (updo e o.dst v) ds m' L', fun q m' L' => anyA f (D ++ [i]) (updo e o.dst undef) (q :: ds) m' L', fun ch m' L' => ∀ e, Q (.panic ch) e ds m' L'⟩ (anyA f (D ++ [i]) (updo e o.dst undef) ds m L) m L
def eachA (f : Nat) (D : List Nat) (e : En) (ds : DS) (m : Mem) (L : Lst) : List Nat → Prop
  | [] => True
  | i :: r => (∀ o, ops[i]? = some o →
    stepA P ro dl o e ⟨fun v m' L' => anyA P ro dl Q ops f (D ++ [i]) (updo e o.dst v) ds m' L', fun q m' L' => anyA P ro dl Q ops f (D ++ [i]) (updo e o.dst undef) (q :: ds) m' L', fun ch m' L' => ∀ e, Q (.panic ch) e ds m' L'⟩ (anyA P ro dl Q ops f (D ++ [i]) (updo e o.dst undef) ds m L) m L) ∧ eachA f D e ds m L r
def anyOk (n : Nat) (ops : List Oper) : Bool := opsFit n ops && ((List.range ops.length).all fun i => (direct ops i).all fun j => decide (j < i))
end
section
variable {P : Program} {ro : Option Nat} {dl : List (Option Nat)} {Q : QA} {ops : List Oper} {e : En} {ds : DS} {m : Mem} {L : Lst} {f : Nat}
theorem any_zero {D : List Nat} : anyA P ro dl Q ops 0 D e ds m L = Q .normal e ds m L := Eq.trans rfl rfl
theorem any_step {D : List Nat} (rdy : List Nat) (h : readyL ops D = rdy) (hk : eachA P ro dl Q ops f D e ds m L rdy) : anyA P ro dl Q ops (f + 1) D e ds m L := by
  subst h
  show ∀ i ∈ readyL ops D, _
  generalize readyL ops D = l at hk
  induction l with
  | nil => intro i hi; cases hi
  | cons a l ih =>
    intro i hi
    rcases List.mem_cons.1 hi with rfl | hi
    · exact hk.1
    · exact ih hk.2 i hi
theorem each_nil {D : List Nat} : eachA P ro dl Q ops f D e ds m L [] := trivial
theorem each_cons {D : List Nat} {i : Nat} {r : List Nat} {o : Oper} (ho : ops[i]? = some o)
    (h1 : stepA P ro dl o e ⟨fun v m' L' => anyA P ro dl Q ops f (D ++ [i]) (updo e o.dst v) ds m' L', fun q m' L' => anyA P ro dl Q ops f (D ++ [i]) (updo e o.dst undef) (q :: ds) m' L', fun ch m' L' => ∀ e, Q (.panic ch) e ds m' L'⟩ (anyA P ro dl Q ops f (D ++ [i]) (updo e o.dst undef) ds m L) m L)
    (h2 : eachA P ro dl Q ops f D e ds m L r) : eachA P ro dl Q ops f D e ds m L (i :: r) :=
  ⟨fun o' ho' => by rw [ho] at ho'; obtain rfl := Option.some.inj ho'; exact h1, h2⟩
theorem stepA_n {d : Option Nat} {op : Op} {ty : TypeId} {ps : String} {af : Array Edge} {C : KA} {skip : Prop} : stepA P ro dl ⟨d, op, ty, ps, af, none⟩ e C skip m L = @topC P ro ⟨d, op, ty, ps, af, none⟩ e C m L := Eq.trans rfl rfl
theorem stepA_g {d : Option Nat} {op : Op} {ty : TypeId} {ps : String} {af : Array Edge} {j : Nat} {want : Bool} {C : KA} {skip : Prop} : stepA P ro dl ⟨d, op, ty, ps, af, some (j, want)⟩ e C skip m L = @guardC (yld dl e j) want ⟨@topC P ro ⟨d, op, ty, ps, af, some (j, want)⟩ e C m L, skip⟩ := Eq.trans rfl rfl
theorem drawA_any {n : Nat} (sig : List (Option Nat)) (k : Nat) (hsig : dsts ops = sig) (hl : ops.length = k) (hm : P.follows .mixedOrders = true) (hok : anyOk n ops = true) (h : anyA P ro sig Q ops k [] e ds m L) : @drawCA ⟨P, ro, n, ops.toArray, Q⟩ e ds m L := by
  subst hsig hl
  unfold anyOk at hok
  simp only [Bool.and_eq_true] at hok
  obtain ⟨hfit, hac⟩ := hok
  have hac : ∀ i, ∀ j ∈ direct ops i, j < i := by
    intro i j hj
    by_cases hi : i < ops.length
    · have := List.all_eq_true.1 (List.all_eq_true.1 hac i (List.mem_range.2 hi)) j hj
      exact of_decide_eq_true this
    · simp [direct, List.getElem?_eq_none (Nat.le_of_not_lt hi)] at hj
  intro L0 w hI
  have main : ∀ (fuel : Nat) (D : Array Bool) (Dl : List Nat) (e' : En) (ds' : DS) (w1 : World), D.size = ops.length → (∀ i, D.getD i false = true ↔ i ∈ Dl) →
      (List.range ops.length).countP (fun i => !D.getD i false) = fuel → (∃ m L, Inv m (L ++ L0) w1 ∧ anyA P ro (dsts ops) Q ops fuel Dl e' ds' m L) →
      wpAnyIn (FW ro) 0 P .any ops.toArray (lift n (conc L0 Q)) fuel D (mkAct n e' ds') w1 := by
    intro fuel
    induction fuel with
    | zero =>
      rintro D Dl e' ds' w1 hs hD hc ⟨m, L, hI, hq⟩
      have hall : ∀ i, i < ops.length → D.getD i false = true := by
        intro i hi
        have h0 : (List.range ops.length).countP (fun i => !D.getD i false) = 0 := by omega
        have := List.countP_eq_zero.1 h0 i (List.mem_range.2 hi)
        simpa using this
      refine ⟨?_, ⟨_, _, rfl, m, L, hI, hq⟩⟩
      cases hr : Region.ready .any ops.toArray D with
      | nil => rfl
      | cons i r =>
        have := ready_spec (ops := ops.toArray) (L := D) (i := i) (by rw [hr]; simp) (by simpa using hs)
        rw [hall i (by simpa using this.1)] at this
        cases this.2.1
    | succ fuel ih =>
      rintro D Dl e' ds' w1 hs hD hc ⟨m, L, hI, hq⟩
      refine ⟨fun hr => ?_, ?_⟩
      · exfalso
        have h1 := ready_nil (ops := ops.toArray) (by simpa using hs) (by simpa using hac) hr
        have : (List.range ops.length).countP (fun i => !D.getD i false) = 0 := by
          rw [List.countP_eq_zero]
          intro i hi
          rw [h1 i (by simpa using List.mem_range.1 hi)]; simp
        omega
      intro i hi
      obtain ⟨r1, r2, r3⟩ := ready_spec hi (by simpa using hs)
      have hi1 : i < ops.length := by simpa using r1
      have r3 : ∀ j ∈ direct ops i, D.getD j false = true := by simpa using r3
      have hsz : i < D.size := by omega
      have hmem : i ∈ readyL ops Dl := by
        unfold readyL
        rw [List.mem_filter]
        refine ⟨List.mem_range.2 hi1, ?_⟩
        rw [Bool.and_eq_true, List.all_eq_true]
        refine ⟨?_, fun j hj => ?_⟩
        · have : ¬ i ∈ Dl := fun hc => by rw [(hD i).2 hc] at r2; cases r2
          simpa using this
        · simpa using (hD j).1 (r3 j hj)
      have ho : ops[i]? = some ops[i] := List.getElem?_eq_getElem hi1
      have hst := hq i hmem _ ho
      obtain ⟨hf, hg⟩ := opsFit_at hfit (List.getElem_mem hi1)
      have hD2 : ∀ j, (D.setIfInBounds i true).getD j false = true ↔ j ∈ Dl ++ [i] := by
        intro j
        rw [getD_set hsz, Bool.or_eq_true, List.mem_append, List.mem_singleton, hD j, decide_eq_true_iff]
        exact or_comm
      have hcnt : (List.range ops.length).countP (fun j => !(D.setIfInBounds i true).getD j false) = fuel := by
        have h1 := countP_lt (p := fun j => !D.getD j false) (p' := fun j => !(D.setIfInBounds i true).getD j false) (i := i) (List.range ops.length)
          (fun x hx => by rw [getD_set hsz] at hx; simp at hx ⊢; exact hx.2) (List.mem_range.2 hi1) (by simp only [r2]; rfl) (by rw [getD_set hsz]; simp)
        have h2 : (List.range ops.length).countP (fun j => !D.getD j false) ≤ (List.range ops.length).countP (fun j => !(D.setIfInBounds i true).getD j false) + 1 := by
          have h4 : ∀ l : List Nat, l.Nodup → l.countP (fun j => !D.getD j false) ≤ l.countP (fun j => !(D.setIfInBounds i true).getD j false) + (if i ∈ l then 1 else 0) := by
            intro l
            induction l with
            | nil => intro _; simp
            | cons x l ihl =>
              intro hnd
              obtain ⟨hx, hnd⟩ := List.nodup_cons.1 hnd
              have := ihl hnd
              rw [List.countP_cons, List.countP_cons, getD_set hsz]
              by_cases hxi : x = i
              · subst hxi; simp [hx, r2] at this ⊢; omega
              · have hxi' : i ≠ x := Ne.symm hxi
                simp only [hxi, decide_false, Bool.false_or, List.mem_cons, hxi', false_or]; omega
          have h5 := h4 (List.range ops.length) List.nodup_range
          rw [if_pos (List.mem_range.2 hi1)] at h5; exact h5
        omega
      refine step_sound (ops := ops.toArray) (by simpa using ho) hf hg ?_ ?_ ?_ ?_ (stepA_toP hI hst)
      · rintro v w2 ⟨m', L', hI2, hr⟩
        exact ih _ _ _ _ _ (by simpa using hs) hD2 hcnt ⟨m', L', hI2, hr⟩
      · rintro v w2 ⟨m', L', hI2, hr⟩
        exact ih _ _ _ _ _ (by simpa using hs) hD2 hcnt ⟨m', L', hI2, hr⟩
      · rintro ch w2 ⟨m', L', hI2, hr⟩
        exact ⟨_, _, rfl, m', L', hI2, hr _⟩
      · intro hr
        exact ih _ _ _ _ _ (by simpa using hs) hD2 hcnt ⟨m, L, hI, hr⟩
  show ∀ t, wpOpsIn (FW ro) 0 P ops.toArray (lift n (conc L0 Q)) (Region.schedule (P.follows .mixedOrders) ops.toArray t) (mkAct n e ds) { w with drawn := w.drawn + 1 }
  intro t
  simp only [Region.schedule, hm, Bool.true_or, if_true]
  have hnone : ∀ i, (Array.replicate ops.length false).getD i false = false := by
    intro i; simp only [Array.getD_eq_getD_getElem?, Array.getElem?_replicate]; split <;> rfl
  refine wpAnyIn_sound ops.toArray.size t _ _ _ (main _ _ [] e ds _ (by simp) ?_ ?_ ?_)
  · intro i
    have := hnone i
    simp only [List.size_toArray]
    rw [this]; simp
  · have : (fun i => !(Array.replicate ops.toArray.size false).getD i false) = fun _ => true := by
      funext i; have := hnone i; simp only [List.size_toArray]; rw [this]; rfl
    rw [this]; simp
  · have : Inv m (L ++ L0) { w with drawn := w.drawn + 1 } := hI.dr
    exact ⟨m, L, this, by simpa using h⟩
end
end Go.Eng
