/- The twenty-fourth part of the layer: methods called through interfaces; a computation of the machine past its first load. No condition. -/
import Derived.Test.YtlkaipmhjgfkpaaDoorK12
namespace Go.Proofs.YtlkaipmhjgfkpaaDoorK
open Go
set_option linter.unusedSimpArgs false
set_option linter.unusedVariables false

theorem inv_ext {P : Program} {rv : Value} {m : String} {args : List Value} {shs : List Sh} {h : Hp} {K : St shs → Hp → Prop} {t : TypeId} {v : Value} {f : FuncId} {v' : Value} (hrv : rv = .iface t v)
    (hm : ∀ w, (Go.method (P.types.size + Made.depth) t v m).run P w = .ok (f, v') w) (he : entered P f = false) (hk : ExtT P f (v' :: args) shs h K) : invV P rv m args shs h K := by
  refine ⟨t, v, f, v', hrv, fun w _ => hm w, ?_⟩
  unfold callK
  simp only [he]
  have : #[v'] ++ args.toArray ++ #[] = (v' :: args).toArray := by simp
  rw [this]; exact hk
theorem inv_fun {P : Program} {rv : Value} {m : String} {args : List Value} {shs : List Sh} {h : Hp} {K : St shs → Hp → Prop} {t : TypeId} {v : Value} {f : FuncId} {v' : Value} (hrv : rv = .iface t v)
    (hm : ∀ w, (Go.method (P.types.size + Made.depth) t v m).run P w = .ok (f, v') w) (he : entered P f = true) (hk : CallT P f (v' :: args) shs h K) : invV P rv m args shs h K := by
  refine ⟨t, v, f, v', hrv, fun w _ => hm w, ?_⟩
  unfold callK
  simp only [he]
  have : #[v'] ++ args.toArray ++ #[] = (v' :: args).toArray := by simp
  rw [this]; exact hk
theorem ta_to {P : Program} {xv : Value} {xt u : TypeId} {ok : Bool} {shs : List Sh} {h : Hp} {K : St shs → Prop} {s : St shs} {r : Value} (hr : ∀ w, (Instr.typeAssert xv xt u ok).run P w = .ok r w) (he : r = mkRes shs s) (hk : K s) : taV P xv xt u ok shs h K :=
  ⟨s, fun w _ => he ▸ hr w, hk⟩
theorem ifc_some {t : TypeId} {v : Value} {K : Bool → Prop} (hk : K false) : ifcNil (.iface t v) K := hk
/-- Up to the first load. -/
def feed (P : Program) {α : Type} : Sem α → Hp → Value → Option (Addr × Sem α)
  | .load _ a k, _, v => some (a, k v)
  | .program k, h, v => feed P (k P) h v
  | .mark _ k, h, v => feed P k h v
  | .shape r k, h, v => feed P (k (hshape h r)) h v
  | _, _, _ => none
theorem feed_to {P : Program} {α : Type} {s : Sem α} : ∀ {h : Hp} {v : Value} {a : Addr} {s' : Sem α} {R : α → Hp → Prop}, feed P s h v = some (a, s') → hcell h a = some v → wpS P s' h R → wpS P s h R := by
  induction s with
  | load x a k ih =>
    intro h v b s' R e hv hk
    simp only [feed, Option.some.injEq, Prod.mk.injEq] at e
    obtain ⟨rfl, rfl⟩ := e
    exact ⟨v, hv, hk⟩
  | program k ih => intro h v b s' R e hv hk; exact ih P e hv hk
  | mark x k ih => intro h v b s' R e hv hk; exact ih e hv hk
  | shape r k ih => intro h v b s' R e hv hk; exact ih _ e hv hk
  | _ => intro h v b s' R e; simp [feed] at e
def fedP (P : Program) {α : Type} (s : Sem α) (h : Hp) (v : Value) (a : Addr) (R : α → Hp → Prop) : Addr × Prop :=
  match feed P s h v with
  | some (a', s') => (a', wpS P s' h R)
  | none => (a, False)
theorem wp_ld {P : Program} {α : Type} {s : Sem α} {h : Hp} {v : Value} {a : Addr} {R : α → Hp → Prop} {X : Prop} (hv : hcell h a = some v) (e : fedP P s h v a R = (a, X)) (hk : X) : wpS P s h R := by
  unfold fedP at e
  split at e
  · rename_i a' s' he
    obtain ⟨rfl, rfl⟩ := Prod.mk.inj e
    exact feed_to he hv hk
  · obtain ⟨_, rfl⟩ := Prod.mk.inj e
    exact hk.elim
end Go.Proofs.YtlkaipmhjgfkpaaDoorK
