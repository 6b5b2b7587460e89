/- Chapter 3: what the laws of writers and readers answer. No condition. -/
import Derived.Test.YtelndfmlidpogaaCodeT
namespace Go.Proofs.YtelndfmlidpogaaF
open Go Go.Proofs.YtelndfmlidpogaaK
set_option linter.unusedSimpArgs false
set_option linter.unusedVariables false

theorem codeWrites_ok {s : Sl} {l : List (StA PT)} {h : Hp} (r : IsRow (vsA PT) 8 h s l) (hf : Few l) : C_law03_CodeWrites s h fun b h' => b = true ∧ Ext h h' := by
  have hblt := fun hl => r.blt encPT (by decide) hl
  have hlen : (l.flatMap pbs).length ≤ 140737488355328 := by
    have := pbs_all (l := l) fun x hx => ⟨hf.2 x hx, by have := hf.tx hx; omega⟩
    have := hf.1
    omega
  refine F_law03_CodeWrites_ok _ _ _ (w_New fun h1 e1 q1 => ?_)
  refine w_write q1 (r.ext e1) hf (fun hl a ha => hblt hl a ha) fun s2 h2 q2 w2 => ?_
  have x2 := w2.ext q1 e1 (Nat.le_refl _)
  refine w_Bytes q2 hlen fun s3 h3 o3 e3 => ?_
  have x3 := x2.trans e3
  refine r_Write (r.ext x3) hf fun s4 h4 o4 e4 => ?_
  refine s_Same (o3.row.ext e4) o4.row hlen (cnd_yes (by simp) ?_)
  exact c_lives fun h5 e5 => ⟨rfl, x3.trans (e4.trans e5)⟩

theorem codeNone_ok {a0 a1 a2 : Int} {a3 : Bool} {a4 : ByteArray} {a5 a6 a7 : Int} {h : Hp} : C_law03_CodeNone a0 a1 a2 a3 a4 a5 a6 a7 h fun b h' => b = true ∧ Ext h h' := by
  refine F_law03_CodeNone_ok _ _ _ _ _ _ _ _ _ _ (push_to fun h1 b1 e1 z1 => let_to ?_)
  refine ldA_blk (s := .int .i64) (i := 0) (x := a0) b1 rfl (ldA_blk (s := .int .u64) (i := 1) (x := a1) b1 rfl (ldA_blk (s := .int .i64) (i := 2) (x := a2) b1 rfl (ldA_blk (s := .bool) (i := 3) (x := a3) b1 rfl (ldA_blk (s := .str) (i := 4) (x := a4) b1 rfl (ldA_blk (s := .int .i64) (i := 5) (x := a5) b1 rfl (ldA_blk (s := .int .i64) (i := 6) (x := a6) b1 rfl (ldA_blk (s := .int .i64) (i := 7) (x := a7) b1 rfl ?_)))))))
  refine push_to fun h2 b2 e2 z2 => let_to ?_
  have r2 : IsRow (vsA PT) 8 h2 ⟨some ⟨h1.size, 0, none⟩, 1, 1⟩ [(a0, a1, a2, a3, a4, a5, a6, a7, ())] := Blk.row encPT b2 (l := [(a0, a1, a2, a3, a4, a5, a6, a7, ())]) (cap := 1) (Nat.le_refl _) rfl
  refine w_write_nil r2 (by simp) (F_code_Writer_Bytes_ok _ _ _ (cnd_yes rfl (cnd_yes rfl ?_)))
  have c1 := b1.ext e2
  refine ldA_blk (s := .int .i64) (i := 0) (x := a0) c1 rfl (ldA_blk (s := .int .u64) (i := 1) (x := a1) c1 rfl (ldA_blk (s := .int .i64) (i := 2) (x := a2) c1 rfl (ldA_blk (s := .bool) (i := 3) (x := a3) c1 rfl (ldA_blk (s := .str) (i := 4) (x := a4) c1 rfl (ldA_blk (s := .int .i64) (i := 5) (x := a5) c1 rfl (ldA_blk (s := .int .i64) (i := 6) (x := a6) c1 rfl (ldA_blk (s := .int .i64) (i := 7) (x := a7) c1 rfl ?_)))))))
  have eo : ∀ {g1 g2 : Hp}, Ext g1 g2 → Only (h2.size + 3) g1 g2 := fun e => ⟨e.size, fun i hi _ => e.get i hi⟩
  refine t_take (p := h2.size + 3) (by omega) (P0 := fun x _ => x = 0) (P1 := fun x _ => x = 0) (P2 := fun x _ => x = false) (P3 := fun x _ => x = ByteArray.mk #[])
    (fun _ g e K1 hk => c_Num_nil fun g2 e2 => hk _ _ (eo e2) rfl) (fun _ g e K1 hk => c_Int_nil fun g2 e2 => hk _ _ (eo e2) rfl) (fun _ g e K1 hk => c_Flag_nil fun g2 e2 => hk _ _ (eo e2) rfl) (fun _ _ _ g e K1 hk => c_Text_nil fun g2 e2 => hk _ _ (eo e2) rfl)
    fun n i f t g1 g2 g3 x1 o2 bl hcase => ?_
  have hall : n = 0 ∧ i = 0 ∧ f = false ∧ t = ByteArray.mk #[] := by
    rcases hcase with ⟨_, h1, h2, h3, h4⟩ | ⟨_, h1, h2, h3, h4⟩ | ⟨_, h1, h2, h3, h4⟩ | ⟨_, h1, h2, h3, h4⟩ <;> exact ⟨by assumption, by assumption, by assumption, by assumption⟩
  obtain ⟨rfl, rfl, rfl, rfl⟩ := hall
  have e3 : Ext h2 g3 := ⟨by have := x1.size; have := o2.size; have := bl.size; omega, fun b hb => (bl.get b hb).trans ((o2.get b (by have := x1.size; omega) (by omega)).trans (x1.get b hb))⟩
  refine ⟨e3, ldA_blk (s := .int .i64) (i := 0) (x := a0) c1 rfl (cnd_yes (by simp; rfl) (c_Left_nil (cnd_yes rfl (c_End_nil (cnd_yes rfl ?_)))))⟩
  exact c_lives fun h5 e5 => ⟨rfl, (e1.trans (e2.trans e3)).trans e5⟩
end Go.Proofs.YtelndfmlidpogaaF
