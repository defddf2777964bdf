/- The engine over abstract states: strings.Builder. -/
import Derived.Test.YtkcacgjbofabfaaDoorEngOff
import Derived.Test.YtkcacgjbofabfaaDoorEngStr
import Derived.Lib.Builder
import Derived.Lib.UnsafeStr
set_option linter.all false
namespace Go.Eng
open Go Go.RowKit Go.Lib
section
variable {P : Program} {ro : Option Nat} {e : En} {C : KA} {m : Mem} {L : Lst}
variable {d : Option Nat} {ty : TypeId} {ps : String} {af : Array Edge} {g : Option (Nat × Bool)}
/-- A function of the host's that hands back what it is given. -/
theorem extern_same {f : FuncId} {fn : Func} (hf : P.funcs[f]? = some fn) (hname : (fn.name == "runtime.NumGoroutine") = false) (hb : fn.body.isNone = true) (hn : Extern.findNext fn = none) (he : Extern.find fn = some Extern.AbiNoEscape.same) {x : Value} (hk : C.k x m L) :
    callA P (.func (.func f) #[] #[]) [x] m L := by
  intro L0 w hI
  unfold callV
  simp only [Deferred.ofValue, invoke, Sem.run_bind, Sem.run_pure, Result.andThen_ok]
  have e1 : (#[] : Array Value) ++ [x].toArray ++ #[] = #[x] := by simp
  rw [e1, run_callFunc_extern hf hname hb hn he, run_noEscape]
  exact ⟨m, L, hI, hk⟩
def unsOk (P : Program) (S D : TypeId) : Bool := match P.underlying S, P.underlying D with
  | some (.pointer t), some .unsafePointer => (match P.info? t with | some j => j.size != 0 | none => false)
  | _, _ => false
def safOk (P : Program) (S D T : TypeId) (n : Nat) : Bool := match P.underlying S, P.underlying D with
  | some .unsafePointer, some (.pointer u) => (P.info? u).isSome && liesAt P P.depth T (n / P.cellsOf T) 0 u 1
  | _, _ => false
/-- A pointer to a variable of one's own becomes an unsafe one. -/
theorem cv_unsafe {S D T : TypeId} {b : Nat} {cs : Array Value} {L' : Lst} (h : unsOk P S D = true) (hp : Take L b (.cells cs T (0, 0)) L') (h0 : 0 < cs.size)
    (hk : C.k (.pointer (some ⟨b, 0, none⟩)) m L) : convA none P S D (.pointer (some ⟨b, 0, none⟩)) m L := by
  unfold unsOk at h
  split at h
  · rename_i t hs hd
    split at h
    · rename_i j ht
      intro L0 w hI
      have hb : w.heap[b]? = some (.cells cs T (0, 0)) := (hI.own (b, _) (List.mem_append_left _ (hp.perm.mem_iff.2 (by simp)))).1
      have hsh : w.shape? b = some (T, cs.size) := by unfold World.shape?; rw [hb]
      unfold convP runV
      rw [run_to_unsafe (P := P) w ⟨b, 0, none⟩ hs hd ht (by simpa using h) hsh h0]
      exact ⟨m, L, hI, hk⟩
    · cases h
  · cases h
/-- And back. -/
theorem cv_safe {S D T : TypeId} {b n : Nat} {cs : Array Value} {L' : Lst} (hp : Take L b (.cells cs T (0, 0)) L') (hn : cs.size = n) (h : safOk P S D T n = true)
    (hk : C.k (.pointer (some ⟨b, 0, none⟩)) m L) : convA none P S D (.pointer (some ⟨b, 0, none⟩)) m L := by
  subst hn
  unfold safOk at h
  split at h
  · rename_i u hs hd
    rw [Bool.and_eq_true] at h
    obtain ⟨j, hj⟩ := Option.isSome_iff_exists.1 h.1
    intro L0 w hI
    have hb : w.heap[b]? = some (.cells cs T (0, 0)) := (hI.own (b, _) (List.mem_append_left _ (hp.perm.mem_iff.2 (by simp)))).1
    have hsh : w.shape? b = some (T, cs.size) := by unfold World.shape?; rw [hb]
    unfold convP runV
    rw [run_from_unsafe (P := P) w ⟨b, 0, none⟩ hs hd hj hsh h.2]
    exact ⟨m, L, hI, hk⟩
  · cases h
def ptrOk (P : Program) (T : TypeId) : Bool := match P.underlying T with | some (.pointer t) => (P.info? t).isSome | _ => false
theorem neq_ptr_self {T : TypeId} {x y : Operand} {a : Addr} (h : ptrOk P T = true) (hk : C.k (.bool false) m L) : eqA true P .neq T x y (.pointer (some a)) (.pointer (some a)) m L := by
  unfold ptrOk at h
  split at h
  · rename_i t ht
    obtain ⟨j, hj⟩ := Option.isSome_iff_exists.1 h
    intro L0 w hI
    simp only [binP, runV, eqGuard_at_pointer, Sem.run_bind, Sem.run_pure, Result.andThen_ok, run_neq_ptr_same (P := P) w a ht hj]
    exact ⟨m, L, hI, hk⟩
  · cases h
theorem bi_lenm {κ : Type} [DecidableEq κ] {T b : Nat} {cs : Array Bool} {enc : κ → Value} {l : List (κ × Value)} {L' : Lst} (h : (mapInfo P T).isSome = true) (t : Take L b (mapK enc l) L') (hk : C.k (.int .i64 l.length) m L) : biA P .len #[T] ty cs [.map (some b)] m L := by
  obtain ⟨q, hq⟩ := Option.isSome_iff_exists.1 h
  obtain ⟨K, z⟩ := q
  obtain ⟨E, hu, _⟩ := mapInfo_parts hq
  intro L0 w hI
  have hb := hI.heap t
  rw [bi_val rfl]
  have hl : ∀ i, (ent enc i l).length = l.length := by
    clear hb hk t
    induction l with
    | nil => intro i; rfl
    | cons a l ih => intro i; simp only [ent, List.length_cons]; rw [ih]
  have : (Builtin.len_ #[T] ty #[.map (some b)]).run P w = .ok (.int .i64 l.length) w := by
    simp [Builtin.len_, run_underlying hu, MapKept.run_getObj_map hb, goInt, Result.andThen, hl]
  unfold runV
  rw [show ([Value.map (some b)]).toArray = #[.map (some b)] from rfl, this]
  exact ⟨m, L, hI, hk⟩
/-- A loop with an invariant over a ghost, where something is put off. -/
theorem loopA_ds {n : Nat} {Q : QA} {ds0 : DS} {c : Code} {γ : Type} (ρ : γ → List (Nat × Value)) (J : γ → Mem → Lst → Prop) (μ : γ → Nat) (g : γ) (h0 : Fits e (ρ g)) (hj : endA (J g) m L)
    (hr : ∀ g e m L, Fits e (ρ g) → J g m L → T P ro n c (thenA (fun e' ds' m' L' => @nextCA ⟨fun e ds m L => ∃ g', endA (fun m L => ds = ds0 ∧ Fits e (ρ g') ∧ J g' m L) m L ∧ μ g' < μ g⟩ e' ds' m' L') Q) e ds0 m L) : @loopCA ⟨T P ro n c, Q⟩ e ds0 m L := by
  refine ⟨γ, fun g e ds m L => ds = ds0 ∧ Fits e (ρ g) ∧ J g m L, μ, g, ?_, ?_⟩
  · intro L0 w hI
    obtain ⟨m', L', h1, h2⟩ := hj L0 w hI
    exact ⟨m', L', h1, rfl, h0, h2⟩
  · rintro g e ds m L ⟨rfl, h1, h2⟩
    exact hr g e m L h1 h2
theorem next_ds {γ : Type} {ds0 : DS} {ρ : γ → List (Nat × Value)} {J : γ → Mem → Lst → Prop} {μ : γ → Nat} {g : γ} (g' : γ) (hf : Fits e (ρ g')) (hj : endA (J g') m L) (hμ : μ g' < μ g) :
    @nextCA ⟨fun e ds m L => ∃ g', endA (fun m L => ds = ds0 ∧ Fits e (ρ g') ∧ J g' m L) m L ∧ μ g' < μ g⟩ e ds0 m L := by
  refine ⟨g', ?_, hμ⟩
  intro L0 w hI
  obtain ⟨m', L', h1, h2⟩ := hj L0 w hI
  exact ⟨m', L', h1, rfl, hf, h2⟩
/-! ### a string's bytes behind a slice -/
theorem strCells_one (s : ByteArray) : ∀ u ∈ strCells s, u.oneCell' = true := strCells_oneCell s
theorem run_append_gss {T U E : TypeId} {z : List Value} (h : slInfo P T = some (E, 1, 1, [.int .u8 0])) (hU : isStr P U = true) (hz : (P.info? E).bind (·.zero) = some (.int .u8 0)) {v : Value} {n : Nat} {xs : List Value} {Lg Lr : Lst} {w : World} (s : ByteArray)
    (hg : GS E 1 v n xs Lg) (hI : Inv m (Lg ++ Lr) w) (hb : n + s.size ≤ 140737488355328) :
    ∃ v' w' Lg', (Builtin.append_ #[T, U] ty #[v, .string s]).run P w = .ok v' w' ∧ GS E 1 v' (n + s.size) (xs ++ strCells s) Lg' ∧ Inv m (Lg' ++ Lr) w' ∧ (s.size = 0 → v' = v) := by
  obtain ⟨hu, i, zv, hi, hzv, hs1, hby, hzc⟩ := slInfo_parts h
  have hU' := isStr_parts hU
  have hz' : i.zero = some (.int .u8 0) := by rw [hi] at hz; exact hz
  have hm : n + s.size ≤ maxLen := by simp only [maxLen]; omega
  obtain ⟨hl, hcase⟩ := hg
  have hxl : xs.length = n := by simpa using hl
  have hlen : (xs ++ strCells s).length = (n + s.size) * 1 := by rw [List.length_append, hxl, strCells_length, Nat.mul_one]
  have grown : ∀ (old : Nat) (L1 : Lst), old < n + s.size → Inv m (L1 ++ Lr) w → 
      GS E 1 (.slice (some ⟨w.heap.size, 0, none⟩) (n + s.size) (grownCap w (n + s.size) old E)) (n + s.size) (xs ++ strCells s) [(w.heap.size, .cells (xs ++ strCells s ++ (Builtin.zeroCells (Value.int .u8 0).cells (grownCap w (n + s.size) old E - (n + s.size))).toList).toArray E (0, 0))] ∧
      Inv m ([(w.heap.size, .cells (xs ++ strCells s ++ (Builtin.zeroCells (Value.int .u8 0).cells (grownCap w (n + s.size) old E - (n + s.size))).toList).toArray E (0, 0))] ++ Lr) (w.drew.alloc (.cells (xs.toArray ++ (strCells s).toArray ++ Builtin.zeroCells (Value.int .u8 0).cells (grownCap w (n + s.size) old E - (n + s.size))) E)) := by
    intro old L1 ho hI1
    have hge := grownCap_ge w (n + s.size) old E
    refine ⟨⟨hlen, .inr ⟨w.heap.size, _, _, rfl, hge, grownCap_le_maxLen w (n + s.size) old E hm, ?_, rfl⟩⟩, ?_⟩
    · have hz1 : (Value.int IntKind.u8 0).cells.size = 1 := rfl
      simp [size_zeroCells, hz1]
    · have := grown_inv (o := .cells (xs ++ strCells s ++ (Builtin.zeroCells (Value.int .u8 0).cells (grownCap w (n + s.size) old E - (n + s.size))).toList).toArray E (0, 0)) (Inv.dropL (L1 := L1) hI1)
      have e : (xs.toArray ++ (strCells s).toArray ++ Builtin.zeroCells (Value.int .u8 0).cells (grownCap w (n + s.size) old E - (n + s.size))) = (xs ++ strCells s ++ (Builtin.zeroCells (Value.int .u8 0).cells (grownCap w (n + s.size) old E - (n + s.size))).toList).toArray := by
        apply Array.ext'; simp
      rw [e]; exact this
  rcases hcase with ⟨rfl, rfl, rfl⟩ | ⟨b, c, sp, rfl, hnc, hcm, hsp, rfl⟩
  · have hx : xs = [] := List.eq_nil_of_length_eq_zero hxl
    subst hx
    by_cases h0 : s.size = 0
    · have hn : strCells s = [] := List.eq_nil_of_length_eq_zero (by rw [strCells_length]; exact h0)
      refine ⟨.slice none 0 0, w, [], ?_, by rw [h0, hn]; exact GS.nil, hI, fun _ => rfl⟩
      have hf := run_firstCells_string (P := P) w 1 s
      rw [h0] at hf
      simp [Builtin.append_, run_underlying hu, run_underlying hU', sizeOf, typeInfo, hi, hs1, Builtin.lenOf, h0, hf]
    · have hr := run_append_nil_string (P := P) w T U ty E i (.int .u8 0) hu hU' hi hz' s (by omega) (by omega) (by rw [hby]; omega)
      obtain ⟨h1, h2⟩ := grown 0 [] (by omega) hI
      simp only [Nat.zero_add, List.nil_append] at h1 h2 ⊢
      have e1 : (s.data.map fun b => Value.int .u8 b.toNat) = (strCells s).toArray := by
        apply Array.ext'; simp [strCells]
      rw [e1] at hr
      refine ⟨_, _, _, hr, h1, ?_, fun h => absurd h h0⟩
      simpa using h2
  · have hb0 : w.heap[b]? = some (.cells (xs ++ sp).toArray E (0, 0)) := (hI.own (b, _) (by simp)).1
    by_cases hroom : n + s.size ≤ c
    · have hsz : ((xs ++ sp).toArray).size = c := by simp [hxl, hsp]; omega
      have hr := run_append_room_string (P := P) w T U ty E i hu hU' hi hs1 b n c (xs ++ sp).toArray hb0 s hroom (by omega)
      have etake : (xs ++ sp).toArray.toList.take n = xs := by simp only [List.toList_toArray]; rw [← hxl]; exact List.take_left
      have edrop : (xs ++ sp).toArray.toList.drop (n + s.size) = sp.drop s.size := by
        simp only [List.toList_toArray]; rw [← hxl]; exact drop_app xs sp _
      rw [etake, edrop] at hr
      refine ⟨_, _, [(b, .cells (xs ++ strCells s ++ sp.drop s.size).toArray E (0, 0))], hr, ?_, ?_, fun h => by rw [h, Nat.add_zero]⟩
      · refine ⟨hlen, .inr ⟨b, c, sp.drop s.size, rfl, hroom, hcm, ?_, by simp⟩⟩
        rw [List.length_drop, hsp]; omega
      · exact Inv.setObj hI (by have := setRow_heap w b (xs ++ sp).toArray (xs ++ strCells s ++ sp.drop s.size).toArray E (0, 0) hb0; simpa using this)
          (fun q hq => setRow_other w b q _ hq) rfl rfl rfl
    · have hold : ∀ j u, xs[j]? = some u → w.cell? ((⟨b, 0, none⟩ : Addr).add j) = some u := by
        intro j u hj
        have hlt : j < xs.length := (List.getElem?_eq_some_iff.1 hj).1
        rw [add_at, cell_at hb0]; simp only [Nat.zero_add, List.getElem?_toArray]
        rw [List.getElem?_append_left hlt]; exact hj
      have hr := run_append_grow_string (P := P) w T U ty E i (.int .u8 0) hu hU' hi hz' ⟨b, 0, none⟩ n c xs (by rw [hs1]; simpa using hxl) hold s (by omega) (by omega) (by rw [hby]; exact growslice_fits (by omega) (by omega))
      obtain ⟨h1, h2⟩ := grown c [(b, .cells (xs ++ sp).toArray E (0, 0))] (by omega) hI
      exact ⟨_, _, _, hr, h1, h2, fun h => by omega⟩
/-- An append of a string to bytes. -/
theorem bi_append_s {T U E : TypeId} {v : Value} {n : Nat} {xs : List Value} {Lg L' : Lst} {cs : Array Bool} {s : ByteArray} (hg : GS E 1 v n xs Lg) (t : TakeL L Lg L')
    (h : slInfo P T = some (E, 1, 1, [.int .u8 0])) (hU : isStr P U = true) (hz : (P.info? E).bind (·.zero) = some (.int .u8 0)) (hb : n + s.size ≤ 140737488355328)
    (hk : ∀ v' Lg', GS E 1 v' (n + s.size) (xs ++ strCells s) Lg' → (s.size = 0 → v' = v) → C.k v' m (Lg' ++ L')) : biA P .append #[T, U] ty cs [v, .string s] m L := by
  intro L0 w hI
  rw [bi_val rfl]
  obtain ⟨v', w', Lg', hr, hg', hI', hv'⟩ := run_append_gss (z := []) (ty := ty) h hU hz s hg (t.inv hI) hb
  unfold runV
  rw [hr]
  exact ⟨m, Lg' ++ L', by rw [List.append_assoc]; exact hI', hk v' Lg' hg' hv'⟩
/-! ### bytes that are a string's -/
/-- Bytes as a string, where they lie: nil, or the head of a block of one's own that is marked. -/
theorem bi_sdata {T T1 : TypeId} {cs : Array Bool} {n c : Nat} {p : Option Addr} (hc : p = none ∨ c ≠ 0) (hk : C.k (.pointer p) m L) : biA P .unsafeSliceData #[T] ty cs [.slice p n c] m L := by
  intro L0 w hI
  rw [bi_val rfl]
  unfold runV
  cases p with
  | none => rw [run_unsafeSliceData_nil]; exact ⟨m, L, hI, hk⟩
  | some a => rw [run_unsafeSliceData_row _ _ _ _ _ _ (by rcases hc with h | h <;> first | cases h | exact h)]; exact ⟨m, L, hI, hk⟩
theorem bi_ustr0 {A B : TypeId} {cs : Array Bool} {p : Option Addr} (hk : C.k (.string .empty) m L) : biA P .unsafeString #[A, B] ty cs [.pointer p, .int .i64 0] m L := by
  intro L0 w hI
  rw [bi_val rfl]
  unfold runV
  rw [run_unsafeString_none]
  exact ⟨m, L, hI, hk⟩
theorem bi_ustr {A B E : TypeId} {cs : Array Bool} {b : Nat} {s : ByteArray} {sp : List Value} {L' : Lst} (hA : P.underlying A = some (.pointer E)) (hc : P.cellsOf E = 1) (hp : Put L b (.cells (strCells s ++ sp).toArray E (0, 0)) (.cells (strCells s ++ sp).toArray E (0, s.size)) L') (h0 : s.size ≠ 0) (hm : s.size ≤ 9223372036854775807)
    (hk : C.k (.string s) m L') : biA P .unsafeString #[A, B] ty cs [.pointer (some ⟨b, 0, none⟩), .int .i64 s.size] m L := by
  intro L0 w hI
  rw [bi_val rfl]
  obtain ⟨R, q1, q2⟩ := hp.perm
  have hb : w.heap[b]? = some (.cells (strCells s ++ sp).toArray E (0, 0)) := (hI.own (b, _) (List.mem_append_left _ (q1.mem_iff.2 (by simp)))).1
  have hll : s.data.toList.length = s.size := rfl
  have hsh : w.shape? b = some (E, (strCells s ++ sp).length) := by unfold World.shape?; rw [hb]; simp
  have hr := run_unsafeString_row (P := P) w A B ty E hA hc b _ hsh s.data.toList (by intro h; rw [h] at hll; simp at hll; omega) (by rw [List.length_append, strCells_length, hll]; omega) (by omega) (fun j x hj => by
    rw [add_at, cell_at hb]
    simp only [Nat.zero_add, List.getElem?_toArray]
    have hlt : j < (strCells s).length := by rw [strCells_length, ← hll]; exact (List.getElem?_eq_some_iff.1 hj).1
    rw [List.getElem?_append_left hlt, strCells, List.getElem?_map, hj]; rfl)
  have es : (⟨s.data.toList.toArray⟩ : ByteArray) = s := by simp
  rw [es, hll] at hr
  unfold runV
  rw [hr]
  have hf : w.freeze ⟨b, 0, none⟩ s.size = w.freeze ⟨b, 0, none⟩ s.size := rfl
  refine ⟨m, L', hI.put hp ?_ ?_ (by unfold World.freeze; split <;> rfl) (by unfold World.freeze; split <;> rfl) (by unfold World.freeze; split <;> rfl), hk⟩
  · simp [World.freeze, Array.getElem?_modify, hb, h0]
  · intro q hq; simp [World.freeze, Array.getElem?_modify, Ne.symm hq, h0]
end
end Go.Eng
