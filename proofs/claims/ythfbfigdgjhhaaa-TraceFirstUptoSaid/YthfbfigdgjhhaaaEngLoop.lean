/- The engine: loops. A loop with a ghost; a loop of a few rounds, walked round by round. -/
import Derived.Test.YthfbfigdgjhhaaaEngDraw
set_option linter.all false
set_option linter.unusedSimpArgs false
set_option linter.unusedVariables false
namespace Go.Eng
open Go Go.RowKit
variable {P : Program} {ro : Option Nat} {n : Nat}

theorem sops_mono {dl : List (Option Nat)} {K K' : En → DS → World → Prop} {X X' : List PanicEntry → En → DS → World → Prop} (hk : ∀ e ds w, K e ds w → K' e ds w) (hx : ∀ c e ds w, X c e ds w → X' c e ds w) :
    ∀ (l : List Oper) (e : En) (ds : DS) (w : World), sops P ro dl K X l e ds w → sops P ro dl K' X' l e ds w := by
  intro l
  induction l with
  | nil => intro e ds w h; exact hk _ _ _ h
  | cons o l ih =>
    intro e ds w h
    simp only [sops] at h ⊢
    have hA : ∀ {C C' : KX}, C = ⟨fun v w' => sops P ro dl K X l (updo e o.dst v) ds w', fun d w' => sops P ro dl K X l (updo e o.dst undef) (d :: ds) w', fun ch w' => X ch e ds w'⟩ →
        C' = ⟨fun v w' => sops P ro dl K' X' l (updo e o.dst v) ds w', fun d w' => sops P ro dl K' X' l (updo e o.dst undef) (d :: ds) w', fun ch w' => X' ch e ds w'⟩ →
        @sopC P ro o e C w → @sopC P ro o e C' w := by
      rintro C C' rfl rfl hc
      refine sopC_mono ?_ ?_ ?_ hc
      · intro v w' h; exact ih _ _ _ h
      · intro v w' h; exact ih _ _ _ h
      · intro v w' h; exact hx _ _ _ _ h
    cases hg : o.guard with
    | none => simp only [hg] at h ⊢; exact hA rfl rfl h
    | some g =>
      obtain ⟨j, want⟩ := g
      simp only [hg] at h ⊢
      unfold guardP at h ⊢
      split at h
      · exact ⟨fun hb => hA rfl rfl (h.1 hb), fun hb => ih _ _ _ (h.2 hb)⟩
      · exact ih _ _ _ h

theorem wpOpsIn_mono {F : Fence} {m : Nat} {ops : Array Oper} {Q Q' : Exit → Act → World → Prop} (hq : ∀ x a w, Q x a w → Q' x a w) : ∀ (l : List Nat) (a : Act) (w : World), wpOpsIn F m P ops Q l a w → wpOpsIn F m P ops Q' l a w := by
  intro l
  induction l with
  | nil => intro a w h; exact hq _ _ _ h
  | cons i l ih =>
    intro a w h
    simp only [wpOpsIn] at h ⊢
    cases ho : ops[i]? with
    | none => simp only [ho] at h; exact ih _ _ h
    | some o =>
      simp only [ho] at h
      split at h
      · rename_i hw
        simp only [hw, if_true]
        refine ⟨h.1, ?_⟩
        have h := h.2
        generalize (o.semAt F.round a.eval).run P w = r at *
        unfold Oper.uponIn at *
        split at h
        · exact ih _ _ h
        · exact ih _ _ h
        · exact ih _ _ h
        · exact ⟨h.1, CallsIn.mono h.2 fun e w' he => by
            cases e with
            | returned v => exact ih _ _ he
            | panicked c => exact hq _ _ _ he
            | outgrown => obtain ⟨a0, w0, h0⟩ := he; exact ⟨a0, w0, hq _ _ _ h0⟩⟩
        · exact ⟨h.1, RowsIn.mono h.2 fun v w' he => ih _ _ he⟩
        · exact ⟨h.1, RoundIn.mono h.2 fun e w' he => by
            cases e with
            | returned v => exact ih _ _ he
            | panicked c => exact hq _ _ _ he
            | outgrown => obtain ⟨a0, w0, h0⟩ := he; exact ⟨a0, w0, hq _ _ _ h0⟩⟩
        · exact hq _ _ _ h
        · exact h.elim
      · rename_i hw
        simp only [hw]
        exact ⟨h.1, ih _ _ h.2⟩

theorem S_mono (c : Code) : ∀ {Q Q' : QT} {e : En} {ds : DS} {w : World}, (∀ x e ds w, Q x e ds w → Q' x e ds w) → S P ro n c Q e ds w → S P ro n c Q' e ds w := by
  have hthen : ∀ {K K' : En → DS → World → Prop} {Q Q' : QT}, (∀ e ds w, K e ds w → K' e ds w) → (∀ x e ds w, Q x e ds w → Q' x e ds w) → ∀ x e ds w, thenQ K Q x e ds w → thenQ K' Q' x e ds w := by
    intro K K' Q Q' hk hq x e ds w h
    cases x <;> first | exact hk _ _ _ h | exact hq _ _ _ _ h
  have hlift : ∀ {Q Q' : QT}, (∀ x e ds w, Q x e ds w → Q' x e ds w) → ∀ x a w, lift n Q x a w → lift n Q' x a w := fun hq x a w ⟨e, ds, ha, h⟩ => ⟨e, ds, ha, hq _ _ _ _ h⟩
  induction c with
  | skip => intro Q Q' e ds w hq h; exact hq _ _ _ _ h
  | seq a b iha ihb => intro Q Q' e ds w hq h; exact iha (hthen (fun e ds w h => ihb hq h) hq) h
  | cond c t f iht ihf =>
    intro Q Q' e ds w hq h
    unfold S condP at h ⊢
    split at h
    · exact ⟨fun hb => iht hq (h.1 hb), fun hb => ihf hq (h.2 hb)⟩
    · exact h.elim
  | block id c ih =>
    intro Q Q' e ds w hq h
    refine ih ?_ h
    intro x e ds w h
    cases x with
    | exit i => simp only [blockQ] at h ⊢; split at h <;> rename_i hi <;> simp only [hi, if_true, if_false] <;> exact hq _ _ _ _ h
    | _ => exact hq _ _ _ _ h
  | loop c ih =>
    intro Q Q' e ds w hq h
    obtain ⟨γ, I, μ, g, h0, hr⟩ := h
    exact ⟨γ, I, μ, g, h0, fun g e ds w hI => ih (hthen (fun _ _ _ h => h) hq) (hr g e ds w hI)⟩
  | exit id => intro Q Q' e ds w hq h; exact hq _ _ _ _ h
  | ret => intro Q Q' e ds w hq h; exact hq _ _ _ _ h
  | region id ops draw =>
    intro Q Q' e ds w hq h
    cases draw with
    | false => exact sops_mono (fun e ds w h => hq _ _ _ _ h) (fun c e ds w h => hq _ _ _ _ h) _ _ _ _ h
    | true => exact fun t => wpOpsIn_mono (hlift hq) _ _ _ (h t)
  | rangeFunc f ps a b iha ihb => intro Q Q' e ds w hq h; exact wg_mono h (hlift hq)
  | scope c ih => intro Q Q' e ds w hq h; exact wg_mono h (hlift hq)
  | label l => intro Q Q' e ds w hq h; exact wg_mono h (hlift hq)
  | goto l => intro Q Q' e ds w hq h; exact wg_mono h (hlift hq)
  | refuse s => intro Q Q' e ds w hq h; exact wg_mono h (hlift hq)

/-- The body, so many times at most. -/
def iterP (body : QT → En → DS → World → Prop) (Q : QT) : Nat → En → DS → World → Prop
  | 0, _, _, _ => False
  | k + 1, e, ds, w => body (thenQ (iterP body Q k) Q) e ds w

/-- A loop with an invariant over a ghost. -/
theorem loop_of {c : Code} {Q : QT} {e : En} {ds : DS} {w : World} {γ : Type} (I : γ → En → DS → World → Prop) (μ : γ → Nat) (g : γ) (h0 : I g e ds w)
    (hr : ∀ g e ds w, I g e ds w → S P ro n c (thenQ (fun e' ds' w' => ∃ g', I g' e' ds' w' ∧ μ g' < μ g) Q) e ds w) : @loopC ⟨S P ro n c, Q⟩ e ds w := ⟨γ, I, μ, g, h0, hr⟩
class IP where
  body : QT → En → DS → World → Prop
  q : QT
def iterC (k : Nat) [C : IP] (e : En) (ds : DS) (w : World) : Prop := iterP C.body C.q k e ds w
/-- A loop of so many rounds at most (the last of them leaves it). -/
theorem loop_n {c : Code} {Q : QT} {e : En} {ds : DS} {w : World} (k : Nat) (h : @iterC k ⟨S P ro n c, Q⟩ e ds w) : @loopC ⟨S P ro n c, Q⟩ e ds w := by
  refine loop_of (γ := Nat) (fun k e ds w => iterP (S P ro n c) Q k e ds w) (fun k => k) k h ?_
  intro k e ds w hk
  cases k with
  | zero => exact hk.elim
  | succ k => exact S_mono c (fun x e ds w h => by cases x <;> first | exact ⟨k, h, Nat.lt_succ_self k⟩ | exact h) hk
def agree : List Nat → En → En → Prop
  | [], _, _ => True
  | k :: r, e', e => e' k = e k ∧ agree r e' e
theorem agree_nil {e e' : En} : agree [] e' e = True := Eq.trans rfl rfl
theorem agree_cons {e e' : En} {k : Nat} {r : List Nat} : agree (k :: r) e' e = (e' k = e k ∧ agree r e' e) := Eq.trans rfl rfl
theorem agree_refl (e : En) : ∀ L, agree L e e
  | [] => trivial
  | _ :: r => ⟨rfl, agree_refl e r⟩
/-- One round more, from registers of which only the listed ones are known. -/
theorem iter_next (L : List Nat) {c : Code} {Q : QT} {e : En} {ds : DS} {w : World} {k : Nat} (h : ∀ e', agree L e' e → S P ro n c (thenQ (fun e ds w => @iterC k ⟨S P ro n c, Q⟩ e ds w) Q) e' ds w) : @iterC (k + 1) ⟨S P ro n c, Q⟩ e ds w := h e (agree_refl e L)
end Go.Eng
