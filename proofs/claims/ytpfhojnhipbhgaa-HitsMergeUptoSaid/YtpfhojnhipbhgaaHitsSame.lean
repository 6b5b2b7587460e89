/- Chapter 11: rows of hits compared. No condition. -/
import Derived.Test.YtpfhojnhipbhgaaHits
namespace Go.Proofs.YtpfhojnhipbhgaaF
open Go Go.Proofs.YtpfhojnhipbhgaaK
set_option linter.unusedSimpArgs false
set_option linter.unusedVariables false

theorem c_hSame {h : Hp} {s t : Sl} {l m : List (StA HT)} {K : Bool → Hp → Prop} (r : RH h s l) (r' : RH h t m) (hb : l.length * 16 ≤ 140737488355328) (hK : K (decide (l = m)) h) : C_ref11_Same s t h K := by
  have h1 := r.len
  have h2 := r'.len
  refine F_ref11_Same_ok _ _ _ _ (cnd_bne.2 ⟨fun hne => ?_, fun heq => ?_⟩)
  · rw [decide_eq_false fun e => hne (by rw [h1, h2, e])] at hK; exact hK
  · have hlen : l.length = m.length := by omega
    refine Lp.inv (fun st => ∃ k : Nat, st.1.1 = (k : Int) ∧ k ≤ l.length ∧ st.2 = h ∧ l.take k = m.take k) (fun st => l.length - st.1.1.toNat) ?_ ⟨0, rfl, by omega, rfl, rfl⟩
    rintro ⟨⟨i, ⟨⟩⟩, g⟩ R ⟨k, rfl, hk, rfl, ht⟩ hR
    unfold L1_ref11_Same
    dsimp only
    refine cnd_dec.2 ⟨fun hlt => ?_, fun hge => ?_⟩
    · have hx : l[k]? = some l[k] := List.getElem?_eq_getElem (by omega)
      have hy : m[k]? = some m[k] := List.getElem?_eq_getElem (by omega)
      refine ld_row (i := (k : Int)) (x := l[k]) r (by omega) hx fun a ha hc => ldA_row0 hc rfl (ldA_row hc rfl ?_)
      refine ld_row (i := (k : Int)) (x := m[k]) r' (by omega) hy fun a ha hc => ldA_row0 hc rfl (ldA_row hc rfl ?_)
      refine cnd_not.2 (cnd_if (fun he => let_to ?_) fun hne => ?_)
      · simp only [Bool.and_eq_true, beq_iff_eq, Bool.and_true] at he
        rw [wrap_i64 (by omega) (by omega)]
        refine hR _ ⟨k + 1, by simp, by omega, rfl, ?_⟩ (by simp only; omega)
        rw [List.take_add_one, List.take_add_one, hx, hy, ht, hit_ext (x := l[k]) (y := m[k]) he.1 he.2]
      · have hd : l ≠ m := fun e => by
          subst e
          simp at hne
        rw [decide_eq_false hd] at hK; exact hK
    · obtain rfl : k = l.length := by omega
      rw [List.take_length, hlen, List.take_length] at ht
      rw [decide_eq_true ht] at hK; exact hK

end Go.Proofs.YtpfhojnhipbhgaaF
