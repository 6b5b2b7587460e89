/- Chapter 4: FaultNone. No condition of its own, but that the listed variables hold what they were laid with. -/
import Derived.Test.YtlkaipmhjgfkpaaDoorFaultD
namespace Go.Proofs.YtlkaipmhjgfkpaaDoorF
open Go Go.Proofs.YtlkaipmhjgfkpaaDoorK
set_option linter.unusedSimpArgs false
set_option linter.unusedVariables false
set_option maxRecDepth 100000

abbrev insB : ByteArray := ByteArray.mk #[105, 110, 115, 101, 114, 116]
theorem d0 : decI 0 = [48] := by unfold decI; rw [if_neg (by decide)]; exact dec_small (by decide)
theorem d4 : decI 4 = [52] := by unfold decI; rw [if_neg (by decide)]; exact dec_small (by decide)
theorem d7 : dec 7 = [55] := dec_small (by decide)
theorem c_lives04 {h : Hp} {K : Bool → Hp → Prop} (hg : rt0 h) (hp : pw10 h) (hk : ∀ h', Ext h h' → K true h') : C_law04_lives h K := by
  refine F_law04_lives_ok _ _ (c_Wrap fun h1 x1 f1 => ?_)
  refine ifc_some (cnd_yes rfl ?_)
  refine i_Error (id := 7) f1 (hp.ext x1) (by decide) (by decide) (by decide) (by decide) (by decide) (by decide) fun t h2 ht x2 => ?_
  refine cnd_yes (strEq_iff.2 ?_) ?_
  · show bts t = _
    rw [ht, d0, d4, d7]; rfl
  refine c_Code (.flt (f1.ext x2) (.num 4)) ((x1.trans x2).cell hg) fun h3 x3 => cnd_yes rfl ?_
  exact c_Code_nil fun h4 x4 => hk _ (((x1.trans x2).trans x3).trans x4)
theorem c_Trace_nil {h : Hp} {K : Sl → Hp → Prop} (hk : K ⟨none, 0, 0⟩ h) : C_fault_Trace .nilIface h K := by
  refine F_fault_Trace_ok _ _ _ ⟨1, Lp.next ?_⟩
  unfold L1_fault_Trace
  exact ifc_nil (cnd_no rfl hk)
abbrev tNth : List Int := [58, 32, 110, 111, 116, 104, 105, 110, 103]
theorem faultNone_ok {op text : ByteArray} {at' : Int} {id : Nat} {h : Hp} (hg : rt0 h) (hp : pw10 h) (h1 : -9223372036854775808 ≤ at') (h2 : at' ≤ 9223372036854775807) (hid : id < 18446744073709551616) (hs : op.size ≤ 140737488355328) :
    C_law04_FaultNone op at' id text h fun t h' => t = true ∧ Ext h h' := by
  refine F_law04_FaultNone_ok _ _ _ _ _ _ ?_
  unfold F_law04_FaultNone
  refine push_to fun g1 b1 x1 z1 => let_to ?_
  simp only [add_mk, Nat.zero_add]
  refine ldA_blk (s := .str) (x := op) (i := 0) b1 rfl (ldA_blk (s := .int .i64) (x := at') (i := 1) b1 rfl (ldA_blk (s := .int .u64) (x := (id : Int)) (i := 2) b1 rfl ?_))
  refine F_fault_Wrap_ok _ _ _ _ _ _ (ifc_nil (cnd_yes rfl ?_))
  refine ldA_blk (s := .str) (x := op) (i := 0) b1 rfl (ldA_blk (s := .int .i64) (x := at') (i := 1) b1 rfl (ldA_blk (s := .int .u64) (x := (id : Int)) (i := 2) b1 rfl ?_))
  refine F_errors_New_ok _ _ _ (push_to fun g2 b2 x2 z2 => let_to ⟨x2, ?_⟩)
  refine c_Wrap fun g3 x3 f3 => ?_
  have b3 := (b1.ext x2).ext x3
  refine ldA_blk (s := .str) (x := op) (i := 0) b3 rfl (ldA_blk (s := .int .i64) (x := at') (i := 1) b3 rfl (ldA_blk (s := .int .u64) (x := (id : Int)) (i := 2) b3 rfl ?_))
  refine push_to fun g4 b4 x4 z4 => let_to ?_
  have fb : Flt g4 ⟨g3.size, 0, none⟩ op at' (id : Int) .nilIface := ⟨b4.cell 0, b4.cell 1, b4.cell 2, b4.cell 3⟩
  refine c_Where_nil fun g5 x5 => push_to fun g6 b6 x6 z6 => let_to ?_
  refine stores_blk (i := 0) (vs := [.string (ByteArray.mk #[]), .int .i64 0, .int .u64 0, .nilIface]) b6 rfl fun g7 b7 u7 _ z7 => ?_
  have X47 : Ext g4 g7 := (x5.trans x6).only_new u7 x5.size
  have X37 : Ext g3 g7 := x4.trans X47
  have X : Ext h g7 := ((x1.trans x2).trans x3).trans X37
  have f7 := f3.ext X37
  have fb7 := fb.ext X47
  have b7' := b3.ext X37
  have J : J1_law04_FaultNone (fun t h' => t = true ∧ Ext h h') ⟨h.size, 0, none⟩ (eF (some ⟨g2.size, 0, none⟩)) ⟨g3.size, 0, none⟩ () g7 := by
    unfold J1_law04_FaultNone
    simp only [add_mk, Nat.zero_add]
    refine ldA_blk (s := .str) (x := op) (i := 0) b7' rfl ?_
    refine cat_to (by show op.size + 4 ≤ _; omega) fun t1 ht1 => ldA_blk (s := .int .i64) (x := at') (i := 1) b7' rfl ?_
    have l1 : t1.size = op.size + 4 := by rw [← bts_len, ht1, List.length_append, bts_len]; rfl
    refine r_Num h1 h2 fun t2 g8 ht2 x8 => ⟨x8, ?_⟩
    have l2 : t2.size ≤ 21 := by rw [← bts_len, ht2]; exact decI_short h1 h2
    refine cat_to (by omega) fun t3 ht3 => ?_
    have l3 : t3.size = t1.size + t2.size := by rw [← bts_len, ht3, List.length_append, bts_len, bts_len]
    refine cat_to (by show t3.size + 4 ≤ _; omega) fun t4 ht4 => ?_
    have l4 : t4.size = t3.size + 4 := by rw [← bts_len, ht4, List.length_append, bts_len]; rfl
    refine c_Error_bare (fb7.ext x8) (hp.ext (X.trans x8)) h1 h2 hid hs fun t5 g9 ht5 x9 => ?_
    have hw : bts t4 = bts op ++ tAt ++ decI at' ++ tOf := by rw [ht4, ht3, ht2, ht1]; rfl
    have hgot : bts t5 = bts t4 ++ (dec id ++ tNth) := by rw [ht5, hw]; simp
    have l5 : t5.size = t4.size + ((dec id).length + 9) := by
      rw [← bts_len, hgot, List.length_append, bts_len, List.length_append]; rfl
    have ld := dec_short hid
    have ld1 := @dec_len id
    rw [Jn_eq]
    refine let_eq (v := ((t4.size + 9 : Nat) : Int)) (wi64 (by simp) (by omega)) (cnd_dec.2 ⟨fun hlt => by omega, fun _ => ?_⟩)
    refine slc_str (m := 0) (n := t4.size) rfl rfl (Nat.zero_le _) (by omega) fun t6 ht6 => ?_
    have e6 : bts t6 = bts t4 := by rw [ht6, hgot, List.drop_zero, ← bts_len t4, List.take_left]
    refine cnd_not.2 (cnd_yes (strEq_iff.2 e6) ?_)
    refine let_eq (v := ((t5.size - 9 : Nat) : Int)) (wi64 (by omega) (by omega)) ?_
    refine slc_str (m := t5.size - 9) (n := t5.size) rfl rfl (by omega) (Nat.le_refl _) fun t7 ht7 => ?_
    have e7 : bts t7 = tNth := by
      rw [ht7, ← bts_len t5, List.take_length, hgot, ← List.append_assoc]
      have : (bts t4 ++ dec id).length = t5.size - 9 := by rw [List.length_append, bts_len, l5]; omega
      have e8 : (bts t4 ++ dec id ++ tNth).length - 9 = (bts t4 ++ dec id).length := by simp; omega
      rw [e8, List.drop_left]
    refine cnd_not.2 (cnd_yes (strEq_iff.2 (by rw [e7]; rfl)) ?_)
    unfold J2_law04_FaultNone
    have X9 := (X.trans x8).trans x9
    have f9 := (f7.ext x8).ext x9
    have fb9 := (fb7.ext x8).ext x9
    refine c_Code_odd f9 (X9.cell hg) fun k1 y1 => cnd_yes rfl ?_
    refine c_Code_bare (fb9.ext y1) ((X9.trans y1).cell hg) fun k2 y2 => cnd_yes rfl ?_
    refine F_fault_Is_ok _ _ _ _ (ifc_nil (cnd_no rfl ?_))
    refine cnd_yes rfl ?_
    refine c_Is_odd ((f9.ext y1).ext y2) (cnd_yes rfl ?_)
    have X11 := (X9.trans y1).trans y2
    exact c_lives04 (X11.cell hg) (hp.ext X11) fun k3 y3 => ⟨rfl, X11.trans y3⟩
  refine ifc_nil (cnd_no rfl (ifc_some (cnd_no rfl ?_)))
  refine F_fault_Fault_Error_ok _ _ _ (cnd_yes rfl ?_)
  refine cnd_not.2 (cnd_yes (strEq_iff.2 rfl) ?_)
  refine F_fault_Fault_Unwrap_ok _ _ _ (cnd_yes rfl ?_)
  refine ifc_nil (cnd_no rfl (cnd_no rfl ?_))
  refine c_Trace_nil (cnd_no rfl J)
end Go.Proofs.YtlkaipmhjgfkpaaDoorF
