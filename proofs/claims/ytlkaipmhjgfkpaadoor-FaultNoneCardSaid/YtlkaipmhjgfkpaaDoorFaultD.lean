/- Chapter 4: errors that go on to no number; errors' texts; errors.Is. No condition of its own, but that the two listed variables hold what they were laid with. -/
import Derived.Test.YtlkaipmhjgfkpaaDoorFaultC
import Derived.Test.YtlkaipmhjgfkpaaDoorFmtInt
namespace Go.Proofs.YtlkaipmhjgfkpaaDoorF
open Go Go.Proofs.YtlkaipmhjgfkpaaDoorK Go.Proofs Go.Extern
set_option linter.unusedSimpArgs false
set_option linter.unusedVariables false
set_option maxRecDepth 100000
set_option maxHeartbeats 4000000

abbrev eS (p : Option Addr) : Value := .iface T_Perrors_errorString (.pointer p)
theorem x_as_SE {h : Hp} {K : St [.at .bool] → Hp → Prop} (hk : K (false, ()) h) : ExtT Tryd.prog N_internal_reflectlite_rtype_AssignableTo [.agg #[hdl T_Perrors_errorString], rty T_api_Errno] [.at .bool] h K :=
  E_internal_reflectlite_rtype_AssignableTo_ok (hdP T_Perrors_errorString) (rty T_api_Errno) h (fun x h => K (x, ()) h) (by rw [as_SE]; exact ⟨(false, ()), rfl, hk⟩)
theorem x_cmp_E {h : Hp} {K : St [.at .bool] → Hp → Prop} (hk : K (true, ()) h) : ExtT Tryd.prog N_internal_reflectlite_rtype_Comparable [.agg #[hdl T_api_Errno]] [.at .bool] h K :=
  E_internal_reflectlite_rtype_Comparable_ok (hdP T_api_Errno) h (fun x h => K (x, ()) h) (by rw [cm_E]; exact ⟨(true, ()), rfl, hk⟩)
theorem s_miss_SE {x : Option Addr} {tv : Value} {b : Nat} {h1 : Hp} {K : Bool → Hp → Prop} {R : (Value × Unit) × Hp → Prop} (hk : K false h1) : L1_errors_as tv (rty T_api_Errno) K ⟨b, 0, none⟩ ((eS x, ()), h1) R := by
  unfold L1_errors_as
  dsimp only
  refine E_internal_reflectlite_TypeOf_ok _ _ _ ((to_S _ _ _).mpr ⟨(_, ()), rfl, ?_⟩)
  refine inv_ext rfl (m_AssignableTo _) n_AssignableTo (x_as_SE ?_)
  refine cnd_no rfl ?_
  rw [Jn_eq]
  refine ta_to (ta_As_S _) (s := (.nilIface, false, ())) rfl ?_
  refine cnd_no rfl ?_
  unfold J1_errors_as
  dsimp only
  refine ta_to (ta_Un_S _) (s := (.nilIface, false, ())) rfl ?_
  exact ta_to (ta_Us_S _) (s := (.nilIface, false, ())) rfl hk
theorem c_As_SE {p q : Option Addr} {a : Addr} {op : ByteArray} {at' i : Int} {tb : Nat} {old : Value} {h : Hp} {K : Bool → Hp → Prop} (f : Flt h a op at' i (eS q)) (ht : Blk h tb #[old]) (hg : rt0 h) (hk : ∀ h', Ext h h' → K false h') :
    C_errors_As (eF (some a)) (.iface T_Papi_Errno (.pointer (some ⟨tb, 0, none⟩))) h K := by
  refine c_As_E ⟨_, _, rfl⟩ ht hg fun h1 ab x1 hab k1 => ?_
  refine F_errors_as_ok _ _ _ _ _ _ _ _ ?_
  refine push_to fun h2 b2 x2 z2 => let_to ?_
  have f2 := f.ext (x1.trans x2)
  exact ⟨2, Lp.next (s_miss_FE f2.c3 (fun e0 => by cases e0) (fun _ _ _ => Lp.next (s_miss_SE (hk _ (x1.trans x2)))) (.inr ⟨_, _, rfl⟩))⟩
theorem c_As_bare {a : Addr} {op : ByteArray} {at' i : Int} {tb : Nat} {old : Value} {h : Hp} {K : Bool → Hp → Prop} (f : Flt h a op at' i .nilIface) (ht : Blk h tb #[old]) (hg : rt0 h) (hk : ∀ h', Ext h h' → K false h') :
    C_errors_As (eF (some a)) (.iface T_Papi_Errno (.pointer (some ⟨tb, 0, none⟩))) h K := by
  refine c_As_E ⟨_, _, rfl⟩ ht hg fun h1 ab x1 hab k1 => ?_
  refine F_errors_as_ok _ _ _ _ _ _ _ _ ?_
  refine push_to fun h2 b2 x2 z2 => let_to ?_
  have f2 := f.ext (x1.trans x2)
  exact ⟨1, Lp.next (s_miss_FE f2.c3 (fun _ => hk _ (x1.trans x2)) (fun _ _ e0 => by cases e0) (.inl rfl))⟩
theorem c_As_nil {tv : Value} {h : Hp} {K : Bool → Hp → Prop} (hk : K false h) : C_errors_As .nilIface tv h K := F_errors_As_ok _ _ _ _ hk
theorem c_Code_odd {a : Addr} {op : ByteArray} {at' i : Int} {q : Option Addr} {h : Hp} {K : Int → Hp → Prop} (f : Flt h a op at' i (eS q)) (hg : rt0 h) (hk : ∀ h', Ext h h' → K 2 h') : C_fault_Code (eF (some a)) h K := by
  refine F_fault_Code_ok _ _ _ ?_
  refine push_to fun h1 b1 x1 z1 => let_to (ifc_some (cnd_no rfl ?_))
  exact c_As_SE (p := none) (f.ext x1) b1 (x1.cell hg) fun h2 x2 => cnd_no rfl (hk _ (x1.trans x2))
theorem c_Code_bare {a : Addr} {op : ByteArray} {at' i : Int} {h : Hp} {K : Int → Hp → Prop} (f : Flt h a op at' i .nilIface) (hg : rt0 h) (hk : ∀ h', Ext h h' → K 2 h') : C_fault_Code (eF (some a)) h K := by
  refine F_fault_Code_ok _ _ _ ?_
  refine push_to fun h1 b1 x1 z1 => let_to (ifc_some (cnd_no rfl ?_))
  exact c_As_bare (f.ext x1) b1 (x1.cell hg) fun h2 x2 => cnd_no rfl (hk _ (x1.trans x2))
theorem c_Code_nil {h : Hp} {K : Int → Hp → Prop} (hk : ∀ h', Ext h h' → K 0 h') : C_fault_Code .nilIface h K := by
  refine F_fault_Code_ok _ _ _ ?_
  exact push_to fun h1 b1 x1 z1 => let_to (hk _ x1)
theorem c_Where_nil {h : Hp} {K : ByteArray → Int → Int → Value → Bool → Hp → Prop} (hk : ∀ h', Ext h h' → K (ByteArray.mk #[]) 0 0 .nilIface false h') : C_fault_Where .nilIface h K := by
  refine F_fault_Where_ok _ _ _ ?_
  refine push_to fun h1 b1 x1 z1 => let_to (push_to fun h2 b2 x2 z2 => let_to ?_)
  rw [Jn_eq]
  refine c_As_nil (cnd_yes rfl ?_)
  unfold J1_fault_Where
  have b1' : Blk h2 h.size _ := b1.ext x2
  refine cnd_yes rfl ?_
  refine set_to b1' (by simp) fun h4 b4 o4 _ z4 => ?_
  refine set_to b4 (by simp) fun h5 b5 o5 _ z5 => ?_
  refine set_to b5 (by simp) fun h6 b6 o6 _ z6 => ?_
  refine set_to b6 (by simp) fun h7 b7 o7 _ z7 => ?_
  refine ldA_blk b7 (s := .str) (i := 0) (x := ByteArray.mk #[]) rfl (ldA_blk b7 (s := .int .i64) (i := 1) (x := 0) rfl (ldA_blk b7 (s := .int .u64) (i := 2) (x := 0) rfl (ldA_blk b7 (s := .raw) (i := 3) (x := Value.nilIface) rfl ?_)))
  have x3 := x1.trans x2
  exact hk _ ((((x3.only_new o4 (Nat.le_refl _)).only_new o5 (Nat.le_refl _)).only_new o6 (Nat.le_refl _)).only_new o7 (Nat.le_refl _))
/-! errors.Is of an error that goes on to no number. -/
theorem ifc_nil {K : Bool → Prop} (hk : K true) : ifcNil .nilIface K := hk
theorem is_F {a : Addr} {op : ByteArray} {at' i n : Int} {q : Option Addr} {h : Hp} {K : Bool → Hp → Prop} {R : (Value × Unit) × Hp → Prop} (f : Flt h a op at' i (eS q)) (hk : R ((eS q, ()), h)) : L1_errors_is (eE n) true K ((eF (some a), ()), h) R := by
  unfold L1_errors_is
  dsimp only
  rw [Jn_eq]
  refine cnd_yes rfl ⟨_, _, _, _, false, rfl, rfl, fun w => eq_FE _ _ w, cnd_no rfl ?_⟩
  unfold J1_errors_is
  rw [Jn_eq]
  dsimp only
  refine ta_to (ta_Is_F _) (s := (.nilIface, false, ())) rfl (cnd_no rfl ?_)
  unfold J2_errors_is
  dsimp only
  refine ta_to (ta_Un_F _) (s := (eF (some a), true, ())) rfl (cnd_yes rfl ?_)
  exact inv_fun rfl (m_Unwrap _) n_Unwrap (x_unwrap f.c3 (ifc_some (cnd_no rfl hk)))
theorem is_S {n : Int} {q : Option Addr} {h : Hp} {K : Bool → Hp → Prop} {R : (Value × Unit) × Hp → Prop} (hk : K false h) : L1_errors_is (eE n) true K ((eS q, ()), h) R := by
  unfold L1_errors_is
  dsimp only
  rw [Jn_eq]
  refine cnd_yes rfl ⟨_, _, _, _, false, rfl, rfl, fun w => eq_SE _ _ w, cnd_no rfl ?_⟩
  unfold J1_errors_is
  rw [Jn_eq]
  dsimp only
  refine ta_to (ta_Is_S _) (s := (.nilIface, false, ())) rfl (cnd_no rfl ?_)
  unfold J2_errors_is
  dsimp only
  refine ta_to (ta_Un_S _) (s := (.nilIface, false, ())) rfl (cnd_no rfl ?_)
  exact ta_to (ta_Us_S _) (s := (.nilIface, false, ())) rfl (cnd_no rfl hk)
theorem c_Is_odd {a : Addr} {op : ByteArray} {at' i n : Int} {q : Option Addr} {h : Hp} {K : Bool → Hp → Prop} (f : Flt h a op at' i (eS q)) (hk : K false h) : C_fault_Is (eF (some a)) n h K := by
  refine F_fault_Is_ok _ _ _ _ (ifc_some (cnd_yes rfl (F_errors_Is_ok _ _ _ _ ?_)))
  unfold F_errors_Is
  rw [Jn_eq]
  refine ifc_some (cnd_no rfl (ifc_some ?_))
  unfold J1_errors_Is
  refine cnd_no rfl ?_
  refine E_internal_reflectlite_TypeOf_ok _ _ _ ((to_E _ _ _).mpr ⟨(_, ()), rfl, ?_⟩)
  refine inv_ext rfl (m_Comparable _) n_Comparable (x_cmp_E ?_)
  exact F_errors_is_ok _ _ _ _ _ ⟨2, Lp.next (is_F f (Lp.next (is_S hk)))⟩
/-! Texts. -/
abbrev tAt : List Int := [32, 97, 116, 32]
abbrev tOf : List Int := [32, 111, 102, 32]
abbrev tCo : List Int := [58, 32]
theorem err_tail {p : Addr} {op : ByteArray} {at' : Int} {id : Nat} {e : Value} {s : ByteArray} {h : Hp} {K : ByteArray → Hp → Prop} (f : Flt h p op at' (id : Int) e) (hp : pw10 h) (h1 : -9223372036854775808 ≤ at') (h2 : at' ≤ 9223372036854775807) (hid : id < 18446744073709551616) (hs : op.size + s.size ≤ 9223372036854775000)
    (hk : ∀ t h', bts t = bts op ++ tAt ++ decI at' ++ tOf ++ dec id ++ tCo ++ bts s → Ext h h' → K t h') : J1_fault_Fault_Error (some p) K (s, ()) h := by
  unfold J1_fault_Fault_Error
  refine ⟨op, f.c0, ?_⟩
  refine cat_to (by show op.size + 4 ≤ _; omega) fun t1 ht1 => ⟨at', f.c1, ?_⟩
  have l1 : t1.size = op.size + 4 := by rw [← bts_len, ht1, List.length_append, bts_len]; rfl
  refine c_Itoa hp h1 h2 fun t2 h3 ht2 x3 => ⟨x3, ?_⟩
  have l2 : t2.size ≤ 21 := by rw [← bts_len, ht2]; exact decI_short h1 h2
  refine cat_to (by omega) fun t3 ht3 => ?_
  have l3 : t3.size = t1.size + t2.size := by rw [← bts_len, ht3, List.length_append, bts_len, bts_len]
  refine cat_to (by show t3.size + 4 ≤ _; omega) fun t4 ht4 => ⟨(id : Int), f.c2, ?_⟩
  have l4 : t4.size = t3.size + 4 := by rw [← bts_len, ht4, List.length_append, bts_len]; rfl
  refine c_FmtUint (hp.ext x3) hid fun t5 h5 ht5 x5 => ⟨x5, ?_⟩
  have l5 : t5.size ≤ 20 := by rw [← bts_len, ht5]; exact dec_short hid
  refine cat_to (by omega) fun t6 ht6 => ?_
  have l6 : t6.size = t4.size + t5.size := by rw [← bts_len, ht6, List.length_append, bts_len, bts_len]
  refine cat_to (by show t6.size + 2 ≤ _; omega) fun t7 ht7 => ?_
  have l7 : t7.size = t6.size + 2 := by rw [← bts_len, ht7, List.length_append, bts_len]; rfl
  refine cat_to (by show t7.size + s.size ≤ _; omega) fun t8 ht8 => hk t8 h5 ?_ (x3.trans x5)
  rw [ht8, ht7, ht6, ht5, ht4, ht3, ht2, ht1]; rfl
abbrev tNo : List Int := [110, 111, 116, 104, 105, 110, 103]
theorem c_Error_bare {p : Addr} {op : ByteArray} {at' : Int} {id : Nat} {h : Hp} {K : ByteArray → Hp → Prop} (f : Flt h p op at' (id : Int) .nilIface) (hp : pw10 h) (h1 : -9223372036854775808 ≤ at') (h2 : at' ≤ 9223372036854775807) (hid : id < 18446744073709551616) (hs : op.size ≤ 140737488355328)
    (hk : ∀ t h', bts t = bts op ++ tAt ++ decI at' ++ tOf ++ dec id ++ tCo ++ tNo → Ext h h' → K t h') : C_fault_Fault_Error (some p) h K := by
  refine F_fault_Fault_Error_ok _ _ _ ?_
  unfold F_fault_Fault_Error
  refine cnd_no rfl ?_
  rw [Jn_eq]
  refine ⟨Value.nilIface, f.c3, ifc_nil (cnd_no rfl ?_)⟩
  exact err_tail f hp h1 h2 hid (by show op.size + 7 ≤ _; omega) hk
abbrev tEr : List Int := [101, 114, 114, 110, 111, 32]
theorem c_ErrnoError {n : Int} {h : Hp} {K : ByteArray → Hp → Prop} (hp : pw10 h) (h1 : -9223372036854775808 ≤ n) (h2 : n ≤ 9223372036854775807) (hk : ∀ t h', bts t = tEr ++ decI n → Ext h h' → K t h') : C_api_Errno_Error n h K := by
  refine F_api_Errno_Error_ok _ _ _ (c_Itoa hp h1 h2 fun t2 h3 ht2 x3 => ?_)
  have l2 : t2.size ≤ 21 := by rw [← bts_len, ht2]; exact decI_short h1 h2
  refine cat_to (by show 6 + t2.size ≤ _; omega) fun t3 ht3 => hk t3 h3 ?_ x3
  rw [ht3, ht2]; rfl
/-- The text of a fault around a number, through the interface. -/
theorem i_Error {p : Addr} {op : ByteArray} {at' n : Int} {id : Nat} {h : Hp} {K : St [.at .str] → Hp → Prop} (f : Flt h p op at' (id : Int) (eE n)) (hp : pw10 h) (h1 : -9223372036854775808 ≤ at') (h2 : at' ≤ 9223372036854775807) (n1 : -9223372036854775808 ≤ n) (n2 : n ≤ 9223372036854775807) (hid : id < 18446744073709551616) (hs : op.size ≤ 140737488355328)
    (hk : ∀ t h', bts t = bts op ++ tAt ++ decI at' ++ tOf ++ dec id ++ tCo ++ (tEr ++ decI n) → Ext h h' → K (t, ()) h') : invV Tryd.prog (eF (some p)) "Error" [] [.at .str] h K := by
  refine inv_fun rfl (m_ErrorF _) n_ErrorF (show C_fault_Fault_Error (some p) h fun t h' => K (t, ()) h' from F_fault_Fault_Error_ok _ _ _ ?_)
  unfold F_fault_Fault_Error
  refine cnd_no rfl ?_
  rw [Jn_eq]
  refine ⟨eE n, f.c3, ifc_some (cnd_yes rfl ⟨eE n, f.c3, ?_⟩)⟩
  refine inv_fun rfl (m_ErrorE _) n_ErrorE (show C_api_Errno_Error n h (fun t h' => J1_fault_Fault_Error (some p) (fun t h' => K (t, ()) h') (t, ()) h') from c_ErrnoError hp n1 n2 fun t3 h3 ht3 x3 => ?_)
  have l3 : t3.size ≤ 27 := by rw [← bts_len, ht3, List.length_append]; have := decI_short n1 n2; simp; omega
  refine err_tail (f.ext x3) (hp.ext x3) h1 h2 hid (by omega) fun t h' ht x' => hk t h' (by rw [ht, ht3]) (x3.trans x')
end Go.Proofs.YtlkaipmhjgfkpaaDoorF
