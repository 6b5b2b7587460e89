/- Chapter 19: Short, lives, PivotsChoose, PivotsApart. No condition of their own. -/
import Derived.Test.YtfeimjemangpaaaPivotsD
namespace Go.Proofs.YtfeimjemangpaaaF
open Go Go.Proofs.YtfeimjemangpaaaK
set_option linter.unusedSimpArgs false
set_option linter.unusedVariables false

/-! lives. -/
theorem l_one {n : Int} {h : Hp} {K : Int → Sl → ByteArray → Hp → Prop} (hK : ∀ (s : Sl) h', Ext h h' → R32 h' s [n] → (∀ a, s.a = some a → h.size ≤ a.block) → K 1 s (ByteArray.mk #[]) h') : C_law19_lives_1 n h K := by
  refine F_law19_lives_1_ok _ _ _ (push_to fun h1 b1 e1 z1 => let_to (push_to fun h3 b3 e3 z3 => let_to ?_))
  refine stores_blk (vs := [.int .i64 1, .slice (some ⟨h1.size, 0, none⟩) 1 1, .string (ByteArray.mk #[])]) (b1.ext e3) rfl fun h7 b7 u7 _ z7 => ?_
  simp only [List.take_zero, List.nil_append] at b7
  refine ldA_blk (s := .int .i64) (x := 1) b7 rfl (ldA_blk (s := .sl) (i := 1) (x := ⟨some ⟨h1.size, 0, none⟩, 1, 1⟩) b7 rfl (ldA_blk (s := .str) (i := 2) (x := ByteArray.mk #[]) b7 rfl ?_))
  refine hK _ _ ((e1.trans e3).only_new u7 (Nat.le_refl _)) ?_ fun a ha => by cases ha; show h.size ≤ h1.size; omega
  have b4 := b3.only u7 (by omega)
  exact Blk.row (encI_ok _) b4 (l := [n]) (cap := 1) (Nat.le_refl _) rfl
abbrev ob1 (n : Int) : Ob := ([n], ByteArray.mk #[])
theorem ok1 {n : Int} (hn : -2147483648 ≤ n ∧ n ≤ 2147483647) : Ok32 [n] := fun x hx => by obtain rfl := List.mem_singleton.1 hx; exact hn
theorem lives_run : Run 1 [ob1 0, ob1 9, ob1 4] 0 3 [] [0, 1, 2] := by
  refine .go (n := 0) (by decide) (.inl ⟨rfl, rfl⟩) (.go (n := 1) (by decide) (.inr ⟨by decide, 1, 9, ?_, .inr ⟨by decide, rfl⟩⟩) (.go (n := 2) (by decide) (.inr ⟨by decide, 2, 4, ?_, .inr ⟨by decide, rfl⟩⟩) (.full (by decide))))
  · rw [show nears 1 [ob1 0, ob1 9, ob1 4] ([] ++ [0]) = [0, 9, 4] by decide +kernel]
    refine ⟨rfl, fun j x hj hx => ?_, fun j x hx => ?_⟩
    · obtain rfl : j = 0 := by omega
      simp at hx; omega
    · match j, hx with
      | 0, hx => simp at hx; omega
      | 1, hx => simp at hx; omega
      | 2, hx => simp at hx; omega
      | _ + 3, hx => simp at hx
  · rw [show nears 1 [ob1 0, ob1 9, ob1 4] ([] ++ [0] ++ [1]) = [0, 0, 4] by decide +kernel]
    refine ⟨rfl, fun j x hj hx => ?_, fun j x hx => ?_⟩
    · match j, hj, hx with
      | 0, _, hx => simp at hx; omega
      | 1, _, hx => simp at hx; omega
    · match j, hx with
      | 0, hx => simp at hx; omega
      | 1, hx => simp at hx; omega
      | 2, hx => simp at hx; omega
      | _ + 3, hx => simp at hx
theorem l_lives {h : Hp} {K : Bool → Hp → Prop} (hK : ∀ h', Ext h h' → K true h') : C_law19_lives h K := by
  refine F_law19_lives_ok _ _ (m_New fun h2 e2 q2 => l_one fun s1 h6 e6 r1 a1 => l_one fun s2 h10 e10 r2 a2 => l_one fun s3 h14 e14 r3 a3 => push_to fun h15 b15 e15 z15 => let_to ?_)
  have hlt := q2.lt
  have z6 := e6.size
  have z10 := e10.size
  have z14 := e14.size
  have z2 := e2.size
  let x1 : StA OT := (1, s1, ByteArray.mk #[], ())
  let x2 : StA OT := (1, s2, ByteArray.mk #[], ())
  let x3 : StA OT := (1, s3, ByteArray.mk #[], ())
  have row : IsRow (vsA OT) 3 h15 ⟨some ⟨h14.size, 0, none⟩, 3, 3⟩ [x1, x2, x3] := Blk.row encOT b15 (l := [x1, x2, x3]) (cap := 3) (Nat.le_refl _) rfl
  have q15 : MQ h15 h.size 1 0 := Blk.ext (Blk.ext (Blk.ext (Blk.ext q2 e6) e10) e14) e15
  have o1 : ObA h.size h15 x1 (ob1 0) := ⟨⟨rfl, r1.ext (e10.trans (e14.trans e15)), ok1 (by decide), by decide, by decide⟩, fun _ a ha => by have := a1 a ha; omega⟩
  have o2 : ObA h.size h15 x2 (ob1 9) := ⟨⟨rfl, r2.ext (e14.trans e15), ok1 (by decide), by decide, by decide⟩, fun _ a ha => by have := a2 a ha; omega⟩
  have o3 : ObA h.size h15 x3 (ob1 4) := ⟨⟨rfl, r3.ext e15, ok1 (by decide), by decide, by decide⟩, fun _ a ha => by have := a3 a ha; omega⟩
  have ar : ARow h.size h15 ⟨some ⟨h14.size, 0, none⟩, 3, 3⟩ [ob1 0, ob1 9, ob1 4] := by
    refine ⟨_, row, rfl, fun _ a ha => by cases ha; show h14.size ≠ h.size; omega, fun i x o hx ho => ?_⟩
    match i, hx, ho with
    | 0, hx, ho => cases hx; cases ho; exact o1
    | 1, hx, ho => cases hx; cases ho; exact o2
    | 2, hx, ho => cases hx; cases ho; exact o3
    | _ + 3, hx, ho => simp at hx
  refine p_Choose q15 (Only.refl _ _) ar (by decide) (r := [0, 1, 2]) (fun _ => lives_run) (fun h => by cases h) (by decide) (by decide) fun s h18 os _ on => ?_
  refine push_to fun h19 b19 e19 z19 => let_to ?_
  have rl : R64 h19 ⟨some ⟨h18.size, 0, none⟩, 3, 3⟩ [0, 1, 2] := Blk.row eQ_ok b19 (l := [0, 1, 2]) (cap := 3) (Nat.le_refl _) rfl
  refine ref_Ints (os.row.ext e19) rl (by decide) fun t ht => ?_
  rw [ht.2 rfl]
  refine hK _ ?_
  have x15 : Ext h h15 := e2.trans (e6.trans (e10.trans (e14.trans e15)))
  exact (x15.only_new on (Nat.le_refl _)).trans e19

/-! PivotsChoose. -/
theorem run_all (m f p : Int) (l : List Ob) : ∃ r, (l ≠ [] → Run m l (clampI f l.length) p [] r) ∧ (l = [] → r = []) ∧ Good m l r := by
  by_cases hl : l = []
  · exact ⟨[], fun h => absurd hl h, fun _ => rfl, Good.nil _ _⟩
  · have hpos := List.length_pos_iff.2 hl
    obtain ⟨r, h1, h2⟩ := run_ex (m := m) (l := l) (st := clampI f l.length) (p := p) (by unfold clampI; omega) (l.length + 1) [] (Good.nil _ _) (by simp)
    exact ⟨r, fun _ => h1, fun h => absurd h hl, h2⟩
theorem pivotsChoose_ok {m p f : Int} {sl : Sl} {l : List Ob} {h : Hp} (r : XRow h sl l) (hlb : l.length ≤ 140737488355328) (hf : -9223372036854775808 ≤ f ∧ f ≤ 9223372036854775807) : C_law19_PivotsChoose m p f sl h fun b h' => b = true ∧ Ext h h' := by
  refine F_law19_PivotsChoose_ok _ _ _ _ _ _ (push_to fun h1 b1 e1 z1 => let_to ?_)
  have hlen := r.len
  have live : ∀ g, Ext h g → J1_law19_PivotsChoose (fun b h' => b = true ∧ Ext h h') ⟨h.size, 0, none⟩ (true, ()) g := fun g xg => by
    unfold J1_law19_PivotsChoose
    exact cnd_yes rfl (l_lives fun h' e => ⟨rfl, xg.trans e⟩)
  rw [Jn_eq]
  refine ldA_blk (s := .sl) (i := 3) (x := sl) b1 rfl (cnd_dec.2 ⟨fun _ => live _ e1, fun hle => ldA_blk (s := .sl) (i := 3) (x := sl) b1 rfl (r_Short (r.ext e1) hlb fun t ht => ?_)⟩)
  cases t with
  | false => exact live _ e1
  | true =>
    have ol : ORow h1 sl l := (r.ext e1).short (ht rfl) (by decide)
    have hl40 : l.length ≤ 40 := by omega
    obtain ⟨rr, hr, hr0, gr⟩ := run_all m f p l
    have grl := gr.len
    unfold J1_law19_PivotsChoose
    refine cnd_no rfl (ldA_blk (s := .int .i64) (x := m) b1 rfl (m_New fun h7 e7 q7 => ?_))
    have b7 := b1.ext e7
    refine ldA_blk (s := .sl) (i := 3) (x := sl) b7 rfl (ldA_blk (s := .int .i64) (i := 1) (x := p) b7 rfl (ldA_blk (s := .int .i64) (i := 2) (x := f) b7 rfl ?_))
    refine p_Choose q7 (e7.only _) (ol.apart (Nat.le_refl _)) (by omega) hr hr0 (by omega) hf fun s h12 os q12 on => ?_
    have x12 : Ext h1 h12 := e7.only_new on (Nat.le_refl _)
    have b12 := b1.ext x12
    refine ldA_blk (s := .int .i64) (x := m) b12 rfl (ldA_blk (s := .sl) (i := 3) (x := sl) b12 rfl (ldA_blk (s := .int .i64) (i := 1) (x := p) b12 rfl (ldA_blk (s := .int .i64) (i := 2) (x := f) b12 rfl ?_)))
    refine r_Choose x12 ol (by omega) hr hr0 (by omega) hf fun s2 h18 os2 e18 => ref_Ints (os.row.ext e18) os2.row (by omega) fun t2 ht2 => ?_
    rw [ht2.2 rfl]
    refine cnd_yes rfl (m_Calls (Blk.ext q12 e18) ⟨Ext.refl _, ldA_blk (s := .sl) (i := 3) (x := sl) (b12.ext e18) rfl (let_to (cnd_yes ?_ (l_lives fun h' e => ⟨rfl, e1.trans (x12.trans (e18.trans e))⟩)))⟩)
    have hmul : 0 ≤ (rr.length : Int) * l.length ∧ (rr.length : Int) * l.length ≤ 40 * 40 := ⟨Int.mul_nonneg (by omega) (by omega), Int.mul_le_mul (by omega) (by omega) (by omega) (by omega)⟩
    rw [os.row.len, hlen, wrap_i64 (by omega) (by omega), beq_self_eq_true]
end Go.Proofs.YtfeimjemangpaaaF
