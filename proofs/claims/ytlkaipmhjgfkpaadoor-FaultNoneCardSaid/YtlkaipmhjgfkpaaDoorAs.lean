/- errors.As at a fault and at a number. Printed by asgen.py of this session. No condition. -/
import Derived.Test.YtlkaipmhjgfkpaaDoorRefl
import Derived.Test.YtlkaipmhjgfkpaaDoorK13
namespace Go.Proofs.YtlkaipmhjgfkpaaDoorF
open Go Go.Proofs.YtlkaipmhjgfkpaaDoorK Go.Proofs Go.Extern
set_option linter.unusedVariables false
set_option linter.unusedSimpArgs false
set_option maxRecDepth 100000
set_option maxHeartbeats 4000000
abbrev eF (p : Option Addr) : Value := .iface T_Pfault_Fault (.pointer p)
abbrev eE (n : Int) : Value := .iface T_api_Errno (.int .i64 n)
abbrev rt0 (h : Hp) : Prop := hcell h ⟨0, 0, none⟩ = some (rty T_error)
theorem blk1_set {h : Hp} {b : Nat} {v w : Value} (r : Blk h b #[v]) : Blk (hset h ⟨b, 0, none⟩ w) b #[w] := r.set 0 w
theorem x_unwrap {p : Addr} {e : Value} {h : Hp} {K : St [.at .raw] → Hp → Prop} (hp : hcell h (p.add 3) = some e) (hk : K (e, ()) h) : CallT Tryd.prog N_fault_Fault_Unwrap [.pointer (some p)] [.at .raw] h K :=
  F_fault_Fault_Unwrap_ok (some p) h (fun x h => K (x, ()) h) ⟨e, hp, hk⟩
theorem x_kind_PF {h : Hp} {K : St [.at (.int .u8)] → Hp → Prop} (hk : K (22, ()) h) : ExtT Tryd.prog N_internal_abi_Type_Kind [hdl T_PPfault_Fault] [.at (.int .u8)] h K :=
  E_internal_abi_Type_Kind_ok (hdP T_PPfault_Fault) h (fun x h => K (x, ()) h) (by rw [kd_PF]; exact ⟨(22, ()), rfl, hk⟩)
theorem x_kind_F {h : Hp} {K : St [.at (.int .u8)] → Hp → Prop} (hk : K (22, ()) h) : ExtT Tryd.prog N_internal_abi_Type_Kind [hdl T_Pfault_Fault] [.at (.int .u8)] h K :=
  E_internal_abi_Type_Kind_ok (hdP T_Pfault_Fault) h (fun x h => K (x, ()) h) (by rw [kd_F]; exact ⟨(22, ()), rfl, hk⟩)
theorem x_elem_PF {h : Hp} {K : St [.at .raw] → Hp → Prop} (hk : K (rty T_Pfault_Fault, ()) h) : ExtT Tryd.prog N_internal_reflectlite_rtype_Elem [.agg #[hdl T_PPfault_Fault]] [.at .raw] h K :=
  E_internal_reflectlite_rtype_Elem_ok (hdP T_PPfault_Fault) h (fun x h => K (x, ()) h) (by rw [el_PF]; exact ⟨(_, ()), rfl, hk⟩)
theorem x_impl_F {h : Hp} {K : St [.at .bool] → Hp → Prop} (hk : K (true, ()) h) : ExtT Tryd.prog N_internal_reflectlite_rtype_Implements [.agg #[hdl T_Pfault_Fault], rty T_error] [.at .bool] h K :=
  E_internal_reflectlite_rtype_Implements_ok (hdP T_Pfault_Fault) (rty T_error) h (fun x h => K (x, ()) h) (by rw [im_F]; exact ⟨(true, ()), rfl, hk⟩)

theorem x_as_FF {h : Hp} {K : St [.at .bool] → Hp → Prop} (hk : K (true, ()) h) : ExtT Tryd.prog N_internal_reflectlite_rtype_AssignableTo [.agg #[hdl T_Pfault_Fault], rty T_Pfault_Fault] [.at .bool] h K :=
  E_internal_reflectlite_rtype_AssignableTo_ok (hdP T_Pfault_Fault) (rty T_Pfault_Fault) h (fun x h => K (x, ()) h) (by rw [as_FF]; exact ⟨(true, ()), rfl, hk⟩)

theorem x_as_FE {h : Hp} {K : St [.at .bool] → Hp → Prop} (hk : K (false, ()) h) : ExtT Tryd.prog N_internal_reflectlite_rtype_AssignableTo [.agg #[hdl T_Pfault_Fault], rty T_api_Errno] [.at .bool] h K :=
  E_internal_reflectlite_rtype_AssignableTo_ok (hdP T_Pfault_Fault) (rty T_api_Errno) h (fun x h => K (x, ()) h) (by rw [as_FE]; exact ⟨(false, ()), rfl, hk⟩)

theorem x_kind_PE {h : Hp} {K : St [.at (.int .u8)] → Hp → Prop} (hk : K (22, ()) h) : ExtT Tryd.prog N_internal_abi_Type_Kind [hdl T_Papi_Errno] [.at (.int .u8)] h K :=
  E_internal_abi_Type_Kind_ok (hdP T_Papi_Errno) h (fun x h => K (x, ()) h) (by rw [kd_PE]; exact ⟨(22, ()), rfl, hk⟩)
theorem x_kind_E {h : Hp} {K : St [.at (.int .u8)] → Hp → Prop} (hk : K (2, ()) h) : ExtT Tryd.prog N_internal_abi_Type_Kind [hdl T_api_Errno] [.at (.int .u8)] h K :=
  E_internal_abi_Type_Kind_ok (hdP T_api_Errno) h (fun x h => K (x, ()) h) (by rw [kd_E]; exact ⟨(2, ()), rfl, hk⟩)
theorem x_elem_PE {h : Hp} {K : St [.at .raw] → Hp → Prop} (hk : K (rty T_api_Errno, ()) h) : ExtT Tryd.prog N_internal_reflectlite_rtype_Elem [.agg #[hdl T_Papi_Errno]] [.at .raw] h K :=
  E_internal_reflectlite_rtype_Elem_ok (hdP T_Papi_Errno) h (fun x h => K (x, ()) h) (by rw [el_PE]; exact ⟨(_, ()), rfl, hk⟩)
theorem x_impl_E {h : Hp} {K : St [.at .bool] → Hp → Prop} (hk : K (true, ()) h) : ExtT Tryd.prog N_internal_reflectlite_rtype_Implements [.agg #[hdl T_api_Errno], rty T_error] [.at .bool] h K :=
  E_internal_reflectlite_rtype_Implements_ok (hdP T_api_Errno) (rty T_error) h (fun x h => K (x, ()) h) (by rw [im_E]; exact ⟨(true, ()), rfl, hk⟩)

theorem x_as_EF {h : Hp} {K : St [.at .bool] → Hp → Prop} (hk : K (false, ()) h) : ExtT Tryd.prog N_internal_reflectlite_rtype_AssignableTo [.agg #[hdl T_api_Errno], rty T_Pfault_Fault] [.at .bool] h K :=
  E_internal_reflectlite_rtype_AssignableTo_ok (hdP T_api_Errno) (rty T_Pfault_Fault) h (fun x h => K (x, ()) h) (by rw [as_EF]; exact ⟨(false, ()), rfl, hk⟩)

theorem x_as_EE {h : Hp} {K : St [.at .bool] → Hp → Prop} (hk : K (true, ()) h) : ExtT Tryd.prog N_internal_reflectlite_rtype_AssignableTo [.agg #[hdl T_api_Errno], rty T_api_Errno] [.at .bool] h K :=
  E_internal_reflectlite_rtype_AssignableTo_ok (hdP T_api_Errno) (rty T_api_Errno) h (fun x h => K (x, ()) h) (by rw [as_EE]; exact ⟨(true, ()), rfl, hk⟩)

/-- The error is of the target's type: it is set. -/
theorem s_hit_F {e : Option Addr} {tb ab b : Nat} {old : Value} {h1 : Hp} {K : Bool → Hp → Prop} {R : (Value × Unit) × Hp → Prop} (hb : Blk h1 b #[hdl T_PPfault_Fault, .pointer (some ⟨ab, 0, none⟩), .int .u64 150]) (ha : Blk h1 ab #[.pointer (some ⟨tb, 0, none⟩)]) (ht : Blk h1 tb #[old])
    (hk : K true (hset (h1.push (.cells #[.pointer e] T_Pfault_Fault)) ⟨tb, 0, none⟩ (.pointer e))) : L1_errors_as (.iface T_PPfault_Fault (.pointer (some ⟨tb, 0, none⟩))) (rty T_Pfault_Fault) K ⟨b, 0, none⟩ ((.iface T_Pfault_Fault (.pointer e), ()), h1) R := by
  unfold L1_errors_as
  dsimp only
  refine E_internal_reflectlite_TypeOf_ok _ _ _ ((to_F _ _ _).mpr ⟨(_, ()), rfl, ?_⟩)
  refine inv_ext rfl (m_AssignableTo _) n_AssignableTo (x_as_FF ?_)
  refine cnd_yes rfl ?_
  refine ldA_blk hb (i := 0) rfl (ldA_blk hb (i := 1) rfl (ldA_blk hb (i := 2) rfl ?_))
  refine E_internal_reflectlite_Value_Elem_ok _ _ _ _ _ (wp_ld (ha.cell 0) (ev_PF _ _ _ _) ⟨((_, _, _, ()), ()), rfl, ?_⟩)
  refine E_internal_reflectlite_ValueOf_ok _ _ _ ((vo_F _ _ _).mpr ⟨((_, _, _, ()), ()), rfl, ?_⟩)
  have ht' : Blk (h1.push (.cells #[.pointer e] T_Pfault_Fault)) tb #[old] := ht.push _
  refine E_internal_reflectlite_Value_Set_ok _ _ _ _ _ _ _ _ (wp_ld ((Blk.new _ _ _).cell 0) (st_F _ _ _ _ _) ?_)
  exact stC_blk ht' (by simp) ⟨(), rfl, hk⟩

/-- The error is a number, and the target a fault. -/
theorem s_miss_EF {x : Int} {tv : Value} {b : Nat} {h1 : Hp} {K : Bool → Hp → Prop} {R : (Value × Unit) × Hp → Prop} (hk : K false h1) : L1_errors_as tv (rty T_Pfault_Fault) K ⟨b, 0, none⟩ ((eE x, ()), h1) R := by
  unfold L1_errors_as
  dsimp only
  refine E_internal_reflectlite_TypeOf_ok _ _ _ ((to_E _ _ _).mpr ⟨(_, ()), rfl, ?_⟩)
  refine inv_ext rfl (m_AssignableTo _) n_AssignableTo (x_as_EF ?_)
  refine cnd_no rfl ?_
  rw [Jn_eq]
  refine ta_to (ta_As_E _) (s := (.nilIface, false, ())) rfl ?_
  refine cnd_no rfl ?_
  unfold J1_errors_as
  dsimp only
  refine ta_to (ta_Un_E _) (s := (.nilIface, false, ())) rfl ?_
  exact ta_to (ta_Us_E _) (s := (.nilIface, false, ())) rfl hk

/-- errors.As at the target: the checks ahead of the rounds. -/
theorem c_As_F {er : Value} {tb : Nat} {old : Value} {h : Hp} {K : Bool → Hp → Prop} (her : ∃ t v, er = .iface t v) (ht : Blk h tb #[old]) (hg : rt0 h)
    (hk : ∀ h1 ab, Ext h h1 → h.size ≤ ab → Blk h1 ab #[.pointer (some ⟨tb, 0, none⟩)] → C_errors_as er (.iface T_PPfault_Fault (.pointer (some ⟨tb, 0, none⟩))) (hdP T_PPfault_Fault) (some ⟨ab, 0, none⟩) 150 (rty T_Pfault_Fault) h1 K) : C_errors_As er (.iface T_PPfault_Fault (.pointer (some ⟨tb, 0, none⟩))) h K := by
  refine F_errors_As_ok _ _ _ _ ?_
  obtain ⟨t0, v0, rfl⟩ := her
  unfold F_errors_As
  refine ifc_some ?_
  refine cnd_no rfl ?_
  rw [Jn_eq]
  refine ifc_some ?_
  refine cnd_no rfl ?_
  unfold J1_errors_As
  refine E_internal_reflectlite_ValueOf_ok _ _ _ ((vo_PF _ _ _).mpr ⟨((_, _, _, ()), ()), rfl, ?_⟩)
  dsimp only
  have k1 : Blk (h.push (.cells #[.pointer (some ⟨tb, 0, none⟩)] T_PPfault_Fault)) h.size #[.pointer (some ⟨tb, 0, none⟩)] := Blk.new _ _ _
  have x1 : Ext h (h.push (.cells #[.pointer (some ⟨tb, 0, none⟩)] T_PPfault_Fault)) := Ext.push _ _
  generalize h.push (.cells #[.pointer (some ⟨tb, 0, none⟩)] T_PPfault_Fault) = h1 at k1 x1
  refine box_to [hdl T_PPfault_Fault, .pointer (some ⟨h.size, 0, none⟩), .int .u64 150] rfl fun h2 b2 x2 z2 => ?_
  refine ldA_blk b2 (i := 0) rfl (ldA_blk b2 (i := 1) rfl (ldA_blk b2 (i := 2) rfl ?_))
  refine E_internal_reflectlite_Value_Type_ok _ _ _ _ _ ((ty_PF _ _ _).mpr ⟨(_, ()), rfl, ?_⟩)
  dsimp only
  rw [Jn_eq, Jn_eq]
  refine inv_ext rfl (m_Kind _) n_Kind (x_kind_PF ?_)
  refine cnd_no rfl ?_
  refine ldA_blk b2 (i := 0) rfl (ldA_blk b2 (i := 1) rfl (ldA_blk b2 (i := 2) rfl ?_))
  have k2 := k1.ext x2
  refine E_internal_reflectlite_Value_IsNil_ok _ _ _ _ _ (wp_ld (k2.cell 0) (in_PF _ _ _ _) ⟨(false, ()), rfl, ?_⟩)
  unfold J4_errors_As
  refine cnd_no rfl ?_
  unfold J2_errors_As
  refine inv_ext rfl (m_Elem _) n_Elem (x_elem_PF ?_)
  dsimp only
  rw [Jn_eq]
  refine inv_ext rfl (m_Kind _) n_Kind (x_kind_F ?_)
  refine cnd_yes rfl ?_
  refine ⟨rty T_error, (x1.trans x2).cell hg, ?_⟩
  refine inv_ext rfl (m_Implements _) n_Implements (x_impl_F ?_)
  unfold J3_errors_As
  refine cnd_no rfl ?_
  refine ldA_blk b2 (i := 0) rfl (ldA_blk b2 (i := 1) rfl (ldA_blk b2 (i := 2) rfl ?_))
  exact hk _ _ (x1.trans x2) (Nat.le_refl _) k2

/-- The error is of the target's type: it is set. -/
theorem s_hit_E {e : Int} {tb ab b : Nat} {old : Value} {h1 : Hp} {K : Bool → Hp → Prop} {R : (Value × Unit) × Hp → Prop} (hb : Blk h1 b #[hdl T_Papi_Errno, .pointer (some ⟨ab, 0, none⟩), .int .u64 150]) (ha : Blk h1 ab #[.pointer (some ⟨tb, 0, none⟩)]) (ht : Blk h1 tb #[old])
    (hk : K true (hset (h1.push (.cells #[.int .i64 e] T_api_Errno)) ⟨tb, 0, none⟩ (.int .i64 e))) : L1_errors_as (.iface T_Papi_Errno (.pointer (some ⟨tb, 0, none⟩))) (rty T_api_Errno) K ⟨b, 0, none⟩ ((.iface T_api_Errno (.int .i64 e), ()), h1) R := by
  unfold L1_errors_as
  dsimp only
  refine E_internal_reflectlite_TypeOf_ok _ _ _ ((to_E _ _ _).mpr ⟨(_, ()), rfl, ?_⟩)
  refine inv_ext rfl (m_AssignableTo _) n_AssignableTo (x_as_EE ?_)
  refine cnd_yes rfl ?_
  refine ldA_blk hb (i := 0) rfl (ldA_blk hb (i := 1) rfl (ldA_blk hb (i := 2) rfl ?_))
  refine E_internal_reflectlite_Value_Elem_ok _ _ _ _ _ (wp_ld (ha.cell 0) (ev_PE _ _ _ _) ⟨((_, _, _, ()), ()), rfl, ?_⟩)
  refine E_internal_reflectlite_ValueOf_ok _ _ _ ((vo_E _ _ _).mpr ⟨((_, _, _, ()), ()), rfl, ?_⟩)
  have ht' : Blk (h1.push (.cells #[.int .i64 e] T_api_Errno)) tb #[old] := ht.push _
  refine E_internal_reflectlite_Value_Set_ok _ _ _ _ _ _ _ _ (wp_ld ((Blk.new _ _ _).cell 0) (st_E _ _ _ _ _) ?_)
  exact stC_blk ht' (by simp) ⟨(), rfl, hk⟩

/-- The error is a fault, and the target a number: on with what the fault has. -/
theorem s_miss_FE {p : Addr} {e : Value} {tv : Value} {b : Nat} {h1 : Hp} {K : Bool → Hp → Prop} {R : (Value × Unit) × Hp → Prop} (hp : hcell h1 (p.add 3) = some e)
    (hn : e = .nilIface → K false h1) (hi : ∀ t v, e = .iface t v → R ((e, ()), h1)) (hv : e = .nilIface ∨ ∃ t v, e = .iface t v) : L1_errors_as tv (rty T_api_Errno) K ⟨b, 0, none⟩ ((eF (some p), ()), h1) R := by
  unfold L1_errors_as
  dsimp only
  refine E_internal_reflectlite_TypeOf_ok _ _ _ ((to_F _ _ _).mpr ⟨(_, ()), rfl, ?_⟩)
  refine inv_ext rfl (m_AssignableTo _) n_AssignableTo (x_as_FE ?_)
  refine cnd_no rfl ?_
  rw [Jn_eq]
  refine ta_to (ta_As_F _) (s := (.nilIface, false, ())) rfl ?_
  refine cnd_no rfl ?_
  unfold J1_errors_as
  dsimp only
  refine ta_to (ta_Un_F _) (s := (eF (some p), true, ())) rfl ?_
  refine inv_fun rfl (m_Unwrap _) n_Unwrap (x_unwrap hp ?_)
  rcases hv with rfl | ⟨t, v, rfl⟩
  · exact hn rfl
  · exact hi _ _ rfl

/-- errors.As at the target: the checks ahead of the rounds. -/
theorem c_As_E {er : Value} {tb : Nat} {old : Value} {h : Hp} {K : Bool → Hp → Prop} (her : ∃ t v, er = .iface t v) (ht : Blk h tb #[old]) (hg : rt0 h)
    (hk : ∀ h1 ab, Ext h h1 → h.size ≤ ab → Blk h1 ab #[.pointer (some ⟨tb, 0, none⟩)] → C_errors_as er (.iface T_Papi_Errno (.pointer (some ⟨tb, 0, none⟩))) (hdP T_Papi_Errno) (some ⟨ab, 0, none⟩) 150 (rty T_api_Errno) h1 K) : C_errors_As er (.iface T_Papi_Errno (.pointer (some ⟨tb, 0, none⟩))) h K := by
  refine F_errors_As_ok _ _ _ _ ?_
  obtain ⟨t0, v0, rfl⟩ := her
  unfold F_errors_As
  refine ifc_some ?_
  refine cnd_no rfl ?_
  rw [Jn_eq]
  refine ifc_some ?_
  refine cnd_no rfl ?_
  unfold J1_errors_As
  refine E_internal_reflectlite_ValueOf_ok _ _ _ ((vo_PE _ _ _).mpr ⟨((_, _, _, ()), ()), rfl, ?_⟩)
  dsimp only
  have k1 : Blk (h.push (.cells #[.pointer (some ⟨tb, 0, none⟩)] T_Papi_Errno)) h.size #[.pointer (some ⟨tb, 0, none⟩)] := Blk.new _ _ _
  have x1 : Ext h (h.push (.cells #[.pointer (some ⟨tb, 0, none⟩)] T_Papi_Errno)) := Ext.push _ _
  generalize h.push (.cells #[.pointer (some ⟨tb, 0, none⟩)] T_Papi_Errno) = h1 at k1 x1
  refine box_to [hdl T_Papi_Errno, .pointer (some ⟨h.size, 0, none⟩), .int .u64 150] rfl fun h2 b2 x2 z2 => ?_
  refine ldA_blk b2 (i := 0) rfl (ldA_blk b2 (i := 1) rfl (ldA_blk b2 (i := 2) rfl ?_))
  refine E_internal_reflectlite_Value_Type_ok _ _ _ _ _ ((ty_PE _ _ _).mpr ⟨(_, ()), rfl, ?_⟩)
  dsimp only
  rw [Jn_eq, Jn_eq]
  refine inv_ext rfl (m_Kind _) n_Kind (x_kind_PE ?_)
  refine cnd_no rfl ?_
  refine ldA_blk b2 (i := 0) rfl (ldA_blk b2 (i := 1) rfl (ldA_blk b2 (i := 2) rfl ?_))
  have k2 := k1.ext x2
  refine E_internal_reflectlite_Value_IsNil_ok _ _ _ _ _ (wp_ld (k2.cell 0) (in_PE _ _ _ _) ⟨(false, ()), rfl, ?_⟩)
  unfold J4_errors_As
  refine cnd_no rfl ?_
  unfold J2_errors_As
  refine inv_ext rfl (m_Elem _) n_Elem (x_elem_PE ?_)
  dsimp only
  rw [Jn_eq]
  refine inv_ext rfl (m_Kind _) n_Kind (x_kind_E ?_)
  refine cnd_yes rfl ?_
  refine ⟨rty T_error, (x1.trans x2).cell hg, ?_⟩
  refine inv_ext rfl (m_Implements _) n_Implements (x_impl_E ?_)
  unfold J3_errors_As
  refine cnd_no rfl ?_
  refine ldA_blk b2 (i := 0) rfl (ldA_blk b2 (i := 1) rfl (ldA_blk b2 (i := 2) rfl ?_))
  exact hk _ _ (x1.trans x2) (Nat.le_refl _) k2

end Go.Proofs.YtlkaipmhjgfkpaaDoorF
