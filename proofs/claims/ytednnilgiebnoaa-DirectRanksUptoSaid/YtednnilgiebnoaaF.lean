/- The formulas of the seat's functions and the proofs that they are enough, printed by gen.py of this session. No condition. -/
import Derived.Test.YtednnilgiebnoaaProg
import Derived.Test.YtednnilgiebnoaaK7
namespace Go.Proofs.YtednnilgiebnoaaF
open Go Go.Proofs.YtednnilgiebnoaaK Go.Proofs
set_option linter.unusedVariables false
set_option maxRecDepth 100000
theorem mixed : Try.prog.follows .mixedOrders = true := by kernel_rfl
def C_gosem_cut  (h : Hp) (K : Hp → Prop) : Prop :=
  ExtT Try.prog 1 [] [] h fun s h => K h
def C_gosem_cut_init  (h : Hp) (K : Hp → Prop) : Prop :=
  CallT Try.prog 2 [] [] h fun s h => K h
def C_law14_DirectRanks (a0_l : Sl) (h : Hp) (K : Bool → Hp → Prop) : Prop :=
  CallT Try.prog 3 [.slice a0_l.a a0_l.len a0_l.cap] [.at .bool] h fun s h => K s.1 h
def C_law14_DirectDoes (a0_l : Sl) (a1_at : Int) (h : Hp) (K : Bool → Hp → Prop) : Prop :=
  CallT Try.prog 4 [.slice a0_l.a a0_l.len a0_l.cap, .int .i64 a1_at] [.at .bool] h fun s h => K s.1 h
def C_law14_DirectNone (a0_id : Int) (a1_at : Int) (h : Hp) (K : Bool → Hp → Prop) : Prop :=
  CallT Try.prog 5 [.int .u64 a0_id, .int .i64 a1_at] [.at .bool] h fun s h => K s.1 h
def C_direct_New  (h : Hp) (K : Option Addr → Hp → Prop) : Prop :=
  CallT Try.prog 6 [] [.at .ptr] h fun s h => K s.1 h
def C_direct_Dir_Put (a0_d : Option Addr) (a1_id : Int) (a2_slot : Int) (h : Hp) (K : Bool → Hp → Prop) : Prop :=
  CallT Try.prog 7 [.pointer a0_d, .int .u64 a1_id, .int .i64 a2_slot] [.at .bool] h fun s h => K s.1 h
def C_direct_Dir_At (a0_d : Option Addr) (a1_i : Int) (h : Hp) (K : Int → Bool → Hp → Prop) : Prop :=
  CallT Try.prog 8 [.pointer a0_d, .int .i64 a1_i] [.at (.int .u64), .at .bool] h fun s h => K s.1 s.2.1 h
def C_direct_Dir_Rank (a0_d : Option Addr) (a1_id : Int) (h : Hp) (K : Int → Hp → Prop) : Prop :=
  CallT Try.prog 9 [.pointer a0_d, .int .u64 a1_id] [.at (.int .i64)] h fun s h => K s.1 h
def C_law14_lives  (h : Hp) (K : Bool → Hp → Prop) : Prop :=
  CallT Try.prog 10 [] [.at .bool] h fun s h => K s.1 h
def C_direct_Dir_Cut (a0_d : Option Addr) (a1_id : Int) (h : Hp) (K : Bool → Hp → Prop) : Prop :=
  CallT Try.prog 11 [.pointer a0_d, .int .u64 a1_id] [.at .bool] h fun s h => K s.1 h
def C_ref14_Cut (a0_l : Sl) (a1_id : Int) (h : Hp) (K : Sl → Bool → Hp → Prop) : Prop :=
  CallT Try.prog 12 [.slice a0_l.a a0_l.len a0_l.cap, .int .u64 a1_id] [.at .sl, .at .bool] h fun s h => K s.1 s.2.1 h
def C_ref14_Put (a0_l : Sl) (a1_id : Int) (a2_slot : Int) (h : Hp) (K : Sl → Bool → Hp → Prop) : Prop :=
  CallT Try.prog 13 [.slice a0_l.a a0_l.len a0_l.cap, .int .u64 a1_id, .int .i64 a2_slot] [.at .sl, .at .bool] h fun s h => K s.1 s.2.1 h
def C_direct_Dir_Find (a0_d : Option Addr) (a1_id : Int) (h : Hp) (K : Int → Bool → Hp → Prop) : Prop :=
  CallT Try.prog 14 [.pointer a0_d, .int .u64 a1_id] [.at (.int .i64), .at .bool] h fun s h => K s.1 s.2.1 h
def C_ref14_Find (a0_l : Sl) (a1_id : Int) (h : Hp) (K : Int → Bool → Hp → Prop) : Prop :=
  CallT Try.prog 15 [.slice a0_l.a a0_l.len a0_l.cap, .int .u64 a1_id] [.at (.int .i64), .at .bool] h fun s h => K s.1 s.2.1 h
def C_ref14_Ids (a0_l : Sl) (h : Hp) (K : Sl → Hp → Prop) : Prop :=
  CallT Try.prog 16 [.slice a0_l.a a0_l.len a0_l.cap] [.at .sl] h fun s h => K s.1 h
def C_direct_Dir_Len (a0_d : Option Addr) (h : Hp) (K : Int → Hp → Prop) : Prop :=
  CallT Try.prog 17 [.pointer a0_d] [.at (.int .i64)] h fun s h => K s.1 h
def C_ref14_Same (a0_a : Sl) (a1_b : Sl) (h : Hp) (K : Bool → Hp → Prop) : Prop :=
  CallT Try.prog 18 [.slice a0_a.a a0_a.len a0_a.cap, .slice a1_b.a a1_b.len a1_b.cap] [.at .bool] h fun s h => K s.1 h
def C_direct_Dir_Ids (a0_d : Option Addr) (h : Hp) (K : Sl → Hp → Prop) : Prop :=
  CallT Try.prog 19 [.pointer a0_d] [.at .sl] h fun s h => K s.1 h
def C_ref14_Rank (a0_l : Sl) (a1_id : Int) (h : Hp) (K : Int → Hp → Prop) : Prop :=
  CallT Try.prog 20 [.slice a0_l.a a0_l.len a0_l.cap, .int .u64 a1_id] [.at (.int .i64)] h fun s h => K s.1 h
def C_direct_Dir_place (a0_d : Option Addr) (a1_id : Int) (h : Hp) (K : Int → Bool → Hp → Prop) : Prop :=
  CallT Try.prog 21 [.pointer a0_d, .int .u64 a1_id] [.at (.int .i64), .at .bool] h fun s h => K s.1 s.2.1 h
def C_slices_Insert_direct_row_direct_row (a0_s : Sl) (a1_i : Int) (a2_v : Sl) (h : Hp) (K : Sl → Hp → Prop) : Prop :=
  CallT Try.prog 22 [.slice a0_s.a a0_s.len a0_s.cap, .int .i64 a1_i, .slice a2_v.a a2_v.len a2_v.cap] [.at .sl] h fun s h => K s.1 h
def C_slices_Delete_direct_row_direct_row (a0_s : Sl) (a1_i : Int) (a2_j : Int) (h : Hp) (K : Sl → Hp → Prop) : Prop :=
  CallT Try.prog 23 [.slice a0_s.a a0_s.len a0_s.cap, .int .i64 a1_i, .int .i64 a2_j] [.at .sl] h fun s h => K s.1 h
def C_slices_BinarySearchFunc_direct_row_direct_row_uint64 (a0_x : Sl) (a1_target : Int) (a2_cmp : Value) (h : Hp) (K : Int → Bool → Hp → Prop) : Prop :=
  CallT Try.prog 24 [.slice a0_x.a a0_x.len a0_x.cap, .int .u64 a1_target, a2_cmp] [.at (.int .i64), .at .bool] h fun s h => K s.1 s.2.1 h
def C_direct_Dir_place_1 (a0_r : Int) (a1_r : Int) (a2_id : Int) (h : Hp) (K : Int → Hp → Prop) : Prop :=
  CallT Try.prog 25 [.agg #[.int .u64 a0_r, .int .i64 a1_r], .int .u64 a2_id] [.at (.int .i64)] h fun s h => K s.1 h
def C_cmp_Compare_uint64 (a0_x : Int) (a1_y : Int) (h : Hp) (K : Int → Hp → Prop) : Prop :=
  CallT Try.prog 26 [.int .u64 a0_x, .int .u64 a1_y] [.at (.int .i64)] h fun s h => K s.1 h
def C_slices_overlaps_direct_row (a0_t : Sl) (a1_t : Sl) (h : Hp) (K : Bool → Hp → Prop) : Prop :=
  ExtT Try.prog 27 [.slice a0_t.a a0_t.len a0_t.cap, .slice a1_t.a a1_t.len a1_t.cap] [.at .bool] h fun s h => K s.1 h
def C_slices_rotateRight_direct_row (a0_s : Sl) (a1_r : Int) (h : Hp) (K : Hp → Prop) : Prop :=
  CallT Try.prog 28 [.slice a0_s.a a0_s.len a0_s.cap, .int .i64 a1_r] [] h fun s h => K h
def C_cmp_isNaN_uint64 (a0_x : Int) (h : Hp) (K : Bool → Hp → Prop) : Prop :=
  CallT Try.prog 29 [.int .u64 a0_x] [.at .bool] h fun s h => K s.1 h
def C_slices_rotateLeft_direct_row (a0_s : Sl) (a1_r : Int) (h : Hp) (K : Hp → Prop) : Prop :=
  CallT Try.prog 30 [.slice a0_s.a a0_s.len a0_s.cap, .int .i64 a1_r] [] h fun s h => K h
def C_slices_Reverse_direct_row_direct_row (a0_s : Sl) (h : Hp) (K : Hp → Prop) : Prop :=
  CallT Try.prog 31 [.slice a0_s.a a0_s.len a0_s.cap] [] h fun s h => K h
abbrev T_ : TypeId := 0
abbrev T_func : TypeId := 1
abbrev T_int64 : TypeId := 2
abbrev T_int : TypeId := 3
abbrev T_bool : TypeId := 4
abbrev T_uint8 : TypeId := 5
abbrev T_abi_BoundsErrorCode : TypeId := 6
abbrev T_struct_x_int64_y_int_signed_bool_code_abi_BoundsErrorCode : TypeId := 7
abbrev T_runtime_boundsError : TypeId := 8
abbrev T_string : TypeId := 9
abbrev T_runtime_errorString : TypeId := 10
abbrev T_runtime_plainError : TypeId := 11
abbrev T_uintptr : TypeId := 12
abbrev T_struct_msg_string_addr_uintptr : TypeId := 13
abbrev T_runtime_errorAddressString : TypeId := 14
abbrev T_Pruntime_TypeAssertionError : TypeId := 15
abbrev T_Pruntime_PanicNilError : TypeId := 16
abbrev T_Pabi_Type : TypeId := 17
abbrev T_struct_typ_Pabi_Type : TypeId := 18
abbrev T_maps_unhashableTypeError : TypeId := 19
abbrev T_interface : TypeId := 20
abbrev T_int32 : TypeId := 21
abbrev T_Suint64 : TypeId := 22
abbrev T_Pdirect_Dir : TypeId := 23
abbrev T_func_Pdirect_Dir : TypeId := 24
abbrev T_func_uint64_int_bool : TypeId := 25
abbrev T_uint64 : TypeId := 26
abbrev T_uint64_bool : TypeId := 27
abbrev T_func_int_uint64_bool : TypeId := 28
abbrev T_func_uint64_int : TypeId := 29
abbrev T_func_bool : TypeId := 30
abbrev T_func_Suint64_bool : TypeId := 31
abbrev T_Swaywiserlaw14_Deed : TypeId := 32
abbrev T_Swaywiserref14_Row : TypeId := 33
abbrev T_struct_Cut_bool_Id_uint64_Slot_int : TypeId := 34
abbrev T_waywiserlaw14_Deed : TypeId := 35
abbrev T_func_uint64_bool : TypeId := 36
abbrev T_Swaywiserref14_Row_bool : TypeId := 37
abbrev T_func_Swaywiserref14_Row_uint64_Swaywiserref14_Row_bool : TypeId := 38
abbrev T_int_bool : TypeId := 40
abbrev T_func_Swaywiserref14_Row_uint64_int_bool : TypeId := 42
abbrev T_func_Swaywiserref14_Row_Suint64 : TypeId := 43
abbrev T_func_int : TypeId := 44
abbrev T_func_Suint64_Suint64_bool : TypeId := 45
abbrev T_func_Suint64 : TypeId := 46
abbrev T_func_Swaywiserref14_Row_uint64_int : TypeId := 47
abbrev T_func_Swaywiserlaw14_Deed_int_bool : TypeId := 48
abbrev T_Sdirect_row : TypeId := 49
abbrev T_struct_l_Sdirect_row : TypeId := 50
abbrev T_direct_Dir : TypeId := 51
abbrev T_func_Sdirect_row_int_direct_row_Sdirect_row : TypeId := 52
abbrev T_struct_id_uint64_slot_int : TypeId := 53
abbrev T_direct_row : TypeId := 54
abbrev T_func_Sdirect_row_int_int_Sdirect_row : TypeId := 55
abbrev T_struct_Id_uint64_Slot_int : TypeId := 56
abbrev T_waywiserref14_Row : TypeId := 57
abbrev T_func_uint64_uint64_int : TypeId := 59
abbrev T_func_direct_row_uint64_int : TypeId := 60
abbrev T_func_Sdirect_row_Sdirect_row_bool : TypeId := 61
abbrev T_func_Sdirect_row_int : TypeId := 62
abbrev T_uint : TypeId := 63
abbrev T_func_Sdirect_row : TypeId := 64
abbrev T_func_string : TypeId := 65
abbrev T_runtime_TypeAssertionError : TypeId := 67
abbrev T_0_Pruntime_PanicNilError : TypeId := 68
abbrev T_struct_0_Pruntime_PanicNilError : TypeId := 69
abbrev T_runtime_PanicNilError : TypeId := 70
abbrev T_uint32 : TypeId := 71
abbrev T_abi_TFlag : TypeId := 72
abbrev T_abi_Kind : TypeId := 73
abbrev T_func_unsafe_Pointer_unsafe_Pointer_bool : TypeId := 74
abbrev T_Puint8 : TypeId := 75
abbrev T_abi_NameOff : TypeId := 76
abbrev T_abi_TypeOff : TypeId := 77
abbrev T_abi_Type : TypeId := 79
abbrev T_unsafe_Pointer : TypeId := 80
theorem E_slices_overlaps_direct_row_ok (a0_t : Sl) (a1_t : Sl) (h : Hp) (K : Bool → Hp → Prop) (hk : wpS Try.prog (Extern.SlicesOverlaps.overlaps #[49, 49] #[4] #[.slice a0_t.a a0_t.len a0_t.cap, .slice a1_t.a a1_t.len a1_t.cap]) h fun v h => ∃ s : St [.at .bool], v = mkRes [.at .bool] s ∧ K s.1 h) : C_slices_overlaps_direct_row a0_t a1_t h K := ext_to Try.func27 rfl rfl (by kernel_rfl) (by kernel_rfl) hk

def F_gosem_cut_init  (h : Hp) (K : Hp → Prop) : Prop :=
C_gosem_cut  h fun  (h1 : Hp) =>
K h1

theorem F_gosem_cut_init_ok  (h : Hp) (K : Hp → Prop) (hF : F_gosem_cut_init  h K) : C_gosem_cut_init  h K := by
  have e : bodyVC Try.prog Try.f2 .no (Option.getD Try.f2.body .skip) [] h [] (fun s h => K h) = F_gosem_cut_init  h K := by kernel_rfl
  exact fun_sound mixed Try.func2 rfl (e.mpr hF)

def L1_law14_DirectRanks (a0_l : Sl) (K : Bool → Hp → Prop) (t1 : Option Addr) (sL1 : (Int × Unit) × Hp) (R1 : (Int × Unit) × Hp → Prop) : Prop :=
cnd (decide (sL1.1.1 < (a0_l.len : Int))) (
idxS a0_l.a a0_l.len sL1.1.1 1 fun (p3 : Addr) =>
ldA (.int .u64) sL1.2 p3 fun (t4 : Int) =>
C_direct_Dir_Rank t1 t4 sL1.2 fun (t5 : Int) (h6 : Hp) =>
C_direct_Dir_At t1 t5 h6 fun (t7 : Int) (t8 : Bool) (h9 : Hp) =>
cnd (!t8) (
K false h9) (
idxS a0_l.a a0_l.len sL1.1.1 1 fun (p10 : Addr) =>
ldA (.int .u64) h9 p10 fun (t11 : Int) =>
cnd (t7 != t11) (
K false h9) (
Let (IntKind.wrap .i64 (sL1.1.1 + 1) : Int) fun (t12 : Int) =>
R1 ((t12, ()), h9)))) (
C_law14_lives  sL1.2 fun (t13 : Bool) (h14 : Hp) =>
K t13 h14)
def J1_law14_DirectRanks (a0_l : Sl) (K : Bool → Hp → Prop) (t1 : Option Addr) (sJ1 : Unit) (hJ1 : Hp) : Prop :=
∃ n, Lp (L1_law14_DirectRanks a0_l K t1) n ((0, ()), hJ1)
def L2_law14_DirectRanks (a0_l : Sl) (t1 : Option Addr) (J1 : Unit → Hp → Prop) (sL2 : (Int × Unit) × Hp) (R2 : (Int × Unit) × Hp → Prop) : Prop :=
cnd (decide (sL2.1.1 < (a0_l.len : Int))) (
idxS a0_l.a a0_l.len sL2.1.1 1 fun (p15 : Addr) =>
ldA (.int .u64) sL2.2 p15 fun (t16 : Int) =>
C_direct_Dir_Put t1 t16 sL2.1.1 sL2.2 fun (t17 : Bool) (h18 : Hp) =>
Let (IntKind.wrap .i64 (sL2.1.1 + 1) : Int) fun (t19 : Int) =>
R2 ((t19, ()), h18)) (
J1 (()) sL2.2)
def F_law14_DirectRanks (a0_l : Sl) (h : Hp) (K : Bool → Hp → Prop) : Prop :=
C_direct_New  h fun (t1 : Option Addr) (h2 : Hp) =>
Jn (J1_law14_DirectRanks a0_l K t1) fun (J1 : Unit → Hp → Prop) =>
∃ n, Lp (L2_law14_DirectRanks a0_l t1 J1) n ((0, ()), h2)

theorem F_law14_DirectRanks_ok (a0_l : Sl) (h : Hp) (K : Bool → Hp → Prop) (hF : F_law14_DirectRanks a0_l h K) : C_law14_DirectRanks a0_l h K := by
  have e : bodyVC Try.prog Try.f3 (.seq .no (.seq .no (.join [] (.seq .no (.block (.loop [(4, .at (.int .i64))] (.seq (.seq .no (.cond .no .no)) (.seq (.block .no) .no))))) (.seq (.seq .no (.block (.loop [(5, .at (.int .i64))] (.seq (.seq .no (.cond .no .no)) (.seq (.block (.seq .no (.seq .no (.cond (.seq .no .no) .no)))) .no))))) (.seq .no .no))))) (Option.getD Try.f3.body .skip) [.slice a0_l.a a0_l.len a0_l.cap] h [.at .bool] (fun s h => K s.1 h) = F_law14_DirectRanks a0_l h K := by kernel_rfl
  exact fun_sound mixed Try.func3 rfl (e.mpr hF)

def J2_law14_DirectDoes (a0_l : Sl) (K : Bool → Hp → Prop) (t1 : Option Addr) (sL1 : (Sl × Int × Unit) × Hp) (R1 : (Sl × Int × Unit) × Hp → Prop) (sJ1 : Sl × Bool × Bool × Unit) (t5 : Int) (t6 : Bool) (t10 : Int) (t11 : Bool) (t13 : Sl) (sJ2 : Unit) (hJ2 : Hp) : Prop :=
cnd (!(sJ1.2.1 == sJ1.2.2.1)) (
K false hJ2) (
cnd (t5 != t10) (
K false hJ2) (
cnd (!(t6 == t11)) (
K false hJ2) (
C_direct_Dir_Len t1 hJ2 fun (t18 : Int) (h19 : Hp) =>
cnd (t18 != (sJ1.1.len : Int)) (
K false h19) (
C_direct_Dir_Ids t1 h19 fun (t20 : Sl) (h21 : Hp) =>
C_ref14_Same t20 t13 h21 fun (t22 : Bool) (h23 : Hp) =>
cnd (!t22) (
K false h23) (
idxS a0_l.a a0_l.len sL1.1.2.1 3 fun (p24 : Addr) =>
ldA (.int .u64) h23 (Addr.add p24 1) fun (t25 : Int) =>
C_direct_Dir_Rank t1 t25 h23 fun (t26 : Int) (h27 : Hp) =>
Ext h23 h27 ∧ (
idxS a0_l.a a0_l.len sL1.1.2.1 3 fun (p28 : Addr) =>
ldA (.int .u64) h23 (Addr.add p28 1) fun (t29 : Int) =>
C_ref14_Rank (Sl.mk sJ1.1.a sJ1.1.len sJ1.1.cap) t29 h27 fun (t30 : Int) (h31 : Hp) =>
cnd (t26 != t30) (
K false h31) (
Let (IntKind.wrap .i64 (sL1.1.2.1 + 1) : Int) fun (t32 : Int) =>
R1 (((Sl.mk sJ1.1.a sJ1.1.len sJ1.1.cap), t32, ()), h31))))))))
def J1_law14_DirectDoes (a0_l : Sl) (a1_at : Int) (K : Bool → Hp → Prop) (t1 : Option Addr) (sL1 : (Sl × Int × Unit) × Hp) (R1 : (Sl × Int × Unit) × Hp → Prop) (sJ1 : Sl × Bool × Bool × Unit) (hJ1 : Hp) : Prop :=
idxS a0_l.a a0_l.len sL1.1.2.1 3 fun (p3 : Addr) =>
ldA (.int .u64) hJ1 (Addr.add p3 1) fun (t4 : Int) =>
C_direct_Dir_Find t1 t4 hJ1 fun (t5 : Int) (t6 : Bool) (h7 : Hp) =>
idxS a0_l.a a0_l.len sL1.1.2.1 3 fun (p8 : Addr) =>
ldA (.int .u64) h7 (Addr.add p8 1) fun (t9 : Int) =>
C_ref14_Find (Sl.mk sJ1.1.a sJ1.1.len sJ1.1.cap) t9 h7 fun (t10 : Int) (t11 : Bool) (h12 : Hp) =>
C_ref14_Ids (Sl.mk sJ1.1.a sJ1.1.len sJ1.1.cap) h12 fun (t13 : Sl) (h14 : Hp) =>
C_direct_Dir_At t1 a1_at h14 fun (t15 : Int) (t16 : Bool) (h17 : Hp) =>
Jn (J2_law14_DirectDoes a0_l K t1 sL1 R1 sJ1 t5 t6 t10 t11 t13) fun (J2 : Unit → Hp → Prop) =>
cnd (decide (a1_at ≥ 0)) (
cnd (!(t16 == (decide (a1_at < (t13.len : Int))))) (
K false h17) (
cnd t16 (
idxS t13.a t13.len a1_at 1 fun (p33 : Addr) =>
ldA (.int .u64) h17 p33 fun (t34 : Int) =>
cnd (t15 != t34) (
K false h17) (
cnd (!t16) (
cnd (t15 != 0) (
K false h17) (
J2 (()) h17)) (
J2 (()) h17))) (
cnd (!t16) (
cnd (t15 != 0) (
K false h17) (
J2 (()) h17)) (
J2 (()) h17)))) (
cnd (!(t16 == false)) (
K false h17) (
cnd t16 (
idxS t13.a t13.len a1_at 1 fun (p35 : Addr) =>
ldA (.int .u64) h17 p35 fun (t36 : Int) =>
cnd (t15 != t36) (
K false h17) (
cnd (!t16) (
cnd (t15 != 0) (
K false h17) (
J2 (()) h17)) (
J2 (()) h17))) (
cnd (!t16) (
cnd (t15 != 0) (
K false h17) (
J2 (()) h17)) (
J2 (()) h17))))
def L1_law14_DirectDoes (a0_l : Sl) (a1_at : Int) (K : Bool → Hp → Prop) (t1 : Option Addr) (sL1 : (Sl × Int × Unit) × Hp) (R1 : (Sl × Int × Unit) × Hp → Prop) : Prop :=
cnd (decide (sL1.1.2.1 < (a0_l.len : Int))) (
Jn (J1_law14_DirectDoes a0_l a1_at K t1 sL1 R1) fun (J1 : Sl × Bool × Bool × Unit → Hp → Prop) =>
idxS a0_l.a a0_l.len sL1.1.2.1 3 fun (p37 : Addr) =>
ldA .bool sL1.2 p37 fun (t38 : Bool) =>
cnd t38 (
idxS a0_l.a a0_l.len sL1.1.2.1 3 fun (p39 : Addr) =>
ldA (.int .u64) sL1.2 (Addr.add p39 1) fun (t40 : Int) =>
C_direct_Dir_Cut t1 t40 sL1.2 fun (t41 : Bool) (h42 : Hp) =>
idxS a0_l.a a0_l.len sL1.1.2.1 3 fun (p43 : Addr) =>
ldA (.int .u64) h42 (Addr.add p43 1) fun (t44 : Int) =>
C_ref14_Cut (Sl.mk sL1.1.1.a sL1.1.1.len sL1.1.1.cap) t44 h42 fun (t45 : Sl) (t46 : Bool) (h47 : Hp) =>
J1 (t45, t41, t46, ()) h47) (
idxS a0_l.a a0_l.len sL1.1.2.1 3 fun (p48 : Addr) =>
ldA (.int .u64) sL1.2 (Addr.add p48 1) fun (t49 : Int) =>
idxS a0_l.a a0_l.len sL1.1.2.1 3 fun (p50 : Addr) =>
ldA (.int .i64) sL1.2 (Addr.add p50 2) fun (t51 : Int) =>
C_direct_Dir_Put t1 t49 t51 sL1.2 fun (t52 : Bool) (h53 : Hp) =>
idxS a0_l.a a0_l.len sL1.1.2.1 3 fun (p54 : Addr) =>
ldA (.int .u64) h53 (Addr.add p54 1) fun (t55 : Int) =>
idxS a0_l.a a0_l.len sL1.1.2.1 3 fun (p56 : Addr) =>
ldA (.int .i64) h53 (Addr.add p56 2) fun (t57 : Int) =>
C_ref14_Put (Sl.mk sL1.1.1.a sL1.1.1.len sL1.1.1.cap) t55 t57 h53 fun (t58 : Sl) (t59 : Bool) (h60 : Hp) =>
J1 (t58, t52, t59, ()) h60)) (
C_law14_lives  sL1.2 fun (t61 : Bool) (h62 : Hp) =>
K t61 h62)
def F_law14_DirectDoes (a0_l : Sl) (a1_at : Int) (h : Hp) (K : Bool → Hp → Prop) : Prop :=
C_direct_New  h fun (t1 : Option Addr) (h2 : Hp) =>
∃ n, Lp (L1_law14_DirectDoes a0_l a1_at K t1) n (((Sl.mk none 0 0), 0, ()), h2)

theorem F_law14_DirectDoes_ok (a0_l : Sl) (a1_at : Int) (h : Hp) (K : Bool → Hp → Prop) (hF : F_law14_DirectDoes a0_l a1_at h K) : C_law14_DirectDoes a0_l a1_at h K := by
  have e : bodyVC Try.prog Try.f4 (.seq .no (.seq .no (.seq .no (.seq (.seq .no (.block (.loop [(6, .at .sl), (7, .at (.int .i64))] (.seq (.seq .no (.cond .no .no)) (.seq (.block (.seq .no (.join [(6, .at .sl), (8, .at .bool), (9, .at .bool)] (.seq .no (.cond (.seq .no .no) (.seq .no .no))) (.seq .no (.seq .no (.seq .no (.seq .no (.join [] (.seq .no (.cond (.seq .no .no) .no)) (.seq .no (.cond (.seq .no .no) .no)))))))))) .no))))) (.seq .no .no))))) (Option.getD Try.f4.body .skip) [.slice a0_l.a a0_l.len a0_l.cap, .int .i64 a1_at] h [.at .bool] (fun s h => K s.1 h) = F_law14_DirectDoes a0_l a1_at h K := by kernel_rfl
  exact fun_sound mixed Try.func4 rfl (e.mpr hF)

def F_law14_DirectNone (a0_id : Int) (a1_at : Int) (h : Hp) (K : Bool → Hp → Prop) : Prop :=
C_direct_Dir_Find none a0_id h fun (t1 : Int) (t2 : Bool) (h3 : Hp) =>
C_direct_Dir_At none a1_at h3 fun (t4 : Int) (t5 : Bool) (h6 : Hp) =>
C_direct_Dir_Put none a0_id a1_at h6 fun (t7 : Bool) (h8 : Hp) =>
cnd (!t7) (
cnd (t1 == 0) (
cnd (!t2) (
C_direct_Dir_Cut none a0_id h8 fun (t9 : Bool) (h10 : Hp) =>
cnd (!t9) (
C_direct_Dir_Len none h10 fun (t11 : Int) (h12 : Hp) =>
cnd (t11 == 0) (
C_direct_Dir_Ids none h12 fun (t13 : Sl) (h14 : Hp) =>
cnd ((t13.len : Int) == 0) (
C_direct_Dir_Rank none a0_id h14 fun (t15 : Int) (h16 : Hp) =>
cnd (t15 == 0) (
cnd (t4 == 0) (
cnd (!t5) (
C_law14_lives  h16 fun (t17 : Bool) (h18 : Hp) =>
K t17 h18) (
K false h16)) (
K false h16)) (
K false h16)) (
K false h14)) (
K false h12)) (
K false h10)) (
K false h8)) (
K false h8)) (
K false h8)

theorem F_law14_DirectNone_ok (a0_id : Int) (a1_at : Int) (h : Hp) (K : Bool → Hp → Prop) (hF : F_law14_DirectNone a0_id a1_at h K) : C_law14_DirectNone a0_id a1_at h K := by
  have e : bodyVC Try.prog Try.f5 (.seq .no (.seq .no (.seq .no (.seq .no (.seq .no .no))))) (Option.getD Try.f5.body .skip) [.int .u64 a0_id, .int .i64 a1_at] h [.at .bool] (fun s h => K s.1 h) = F_law14_DirectNone a0_id a1_at h K := by kernel_rfl
  exact fun_sound mixed Try.func5 rfl (e.mpr hF)

def F_direct_New  (h : Hp) (K : Option Addr → Hp → Prop) : Prop :=
Let (Array.push h (Obj.cells #[.slice none 0 0] 51)) fun (h1 : Hp) =>
Let (Addr.mk (Array.size h) 0 none) fun (p2 : Addr) =>
K (some p2) h1

theorem F_direct_New_ok  (h : Hp) (K : Option Addr → Hp → Prop) (hF : F_direct_New  h K) : C_direct_New  h K := by
  have e : bodyVC Try.prog Try.f6 (.seq .no (.seq .no .no)) (Option.getD Try.f6.body .skip) [] h [.at .ptr] (fun s h => K s.1 h) = F_direct_New  h K := by kernel_rfl
  exact fun_sound mixed Try.func6 rfl (e.mpr hF)

def J1_direct_Dir_Put (a0_d : Option Addr) (a1_id : Int) (a2_slot : Int) (K : Bool → Hp → Prop) (t1 : Int) (sJ1 : Unit) (hJ1 : Hp) : Prop :=
someA a0_d fun (p4 : Addr) =>
ldA .sl hJ1 p4 fun (t5 : Sl) =>
Let (Array.push hJ1 (Obj.cells #[.int .u64 a1_id, .int .i64 a2_slot] 54)) fun (h6 : Hp) =>
Let (Addr.mk (Array.size hJ1) 0 none) fun (p7 : Addr) =>
C_slices_Insert_direct_row_direct_row t5 t1 (Sl.mk (some p7) 1 1) h6 fun (t8 : Sl) (h9 : Hp) =>
someA a0_d fun (p10 : Addr) =>
((1 : Nat) = 1) ∧ (
stC h9 p10 (
Let (hset h9 p10 (.slice t8.a t8.len t8.cap)) fun (h11 : Hp) =>
K true h11))
def F_direct_Dir_Put (a0_d : Option Addr) (a1_id : Int) (a2_slot : Int) (h : Hp) (K : Bool → Hp → Prop) : Prop :=
C_direct_Dir_place a0_d a1_id h fun (t1 : Int) (t2 : Bool) (h3 : Hp) =>
Jn (J1_direct_Dir_Put a0_d a1_id a2_slot K t1) fun (J1 : Unit → Hp → Prop) =>
cnd (Option.isNone a0_d) (
K false h3) (
cnd t2 (
K false h3) (
J1 (()) h3))

theorem F_direct_Dir_Put_ok (a0_d : Option Addr) (a1_id : Int) (a2_slot : Int) (h : Hp) (K : Bool → Hp → Prop) (hF : F_direct_Dir_Put a0_d a1_id a2_slot h K) : C_direct_Dir_Put a0_d a1_id a2_slot h K := by
  have e : bodyVC Try.prog Try.f7 (.seq .no (.seq .no (.join [] (.seq .no (.cond (.seq .no .no) .no)) (.seq .no (.seq .no .no))))) (Option.getD Try.f7.body .skip) [.pointer a0_d, .int .u64 a1_id, .int .i64 a2_slot] h [.at .bool] (fun s h => K s.1 h) = F_direct_Dir_Put a0_d a1_id a2_slot h K := by kernel_rfl
  exact fun_sound mixed Try.func7 rfl (e.mpr hF)

def J1_direct_Dir_At (a0_d : Option Addr) (a1_i : Int) (K : Int → Bool → Hp → Prop) (sJ1 : Unit) (hJ1 : Hp) : Prop :=
someA a0_d fun (p1 : Addr) =>
ldA .sl hJ1 p1 fun (t2 : Sl) =>
idxS t2.a t2.len a1_i 2 fun (p3 : Addr) =>
ldA (.int .u64) hJ1 p3 fun (t4 : Int) =>
K t4 true hJ1
def F_direct_Dir_At (a0_d : Option Addr) (a1_i : Int) (h : Hp) (K : Int → Bool → Hp → Prop) : Prop :=
Jn (J1_direct_Dir_At a0_d a1_i K) fun (J1 : Unit → Hp → Prop) =>
cnd (decide (a1_i < 0)) (
K 0 false h) (
C_direct_Dir_Len a0_d h fun (t5 : Int) (h6 : Hp) =>
cnd (decide (a1_i ≥ t5)) (
K 0 false h6) (
J1 (()) h6))

theorem F_direct_Dir_At_ok (a0_d : Option Addr) (a1_i : Int) (h : Hp) (K : Int → Bool → Hp → Prop) (hF : F_direct_Dir_At a0_d a1_i h K) : C_direct_Dir_At a0_d a1_i h K := by
  have e : bodyVC Try.prog Try.f8 (.seq .no (.join [] (.seq .no (.cond (.seq .no .no) .no)) (.seq .no .no))) (Option.getD Try.f8.body .skip) [.pointer a0_d, .int .i64 a1_i] h [.at (.int .u64), .at .bool] (fun s h => K s.1 s.2.1 h) = F_direct_Dir_At a0_d a1_i h K := by kernel_rfl
  exact fun_sound mixed Try.func8 rfl (e.mpr hF)

def F_direct_Dir_Rank (a0_d : Option Addr) (a1_id : Int) (h : Hp) (K : Int → Hp → Prop) : Prop :=
C_direct_Dir_place a0_d a1_id h fun (t1 : Int) (t2 : Bool) (h3 : Hp) =>
K t1 h3

theorem F_direct_Dir_Rank_ok (a0_d : Option Addr) (a1_id : Int) (h : Hp) (K : Int → Hp → Prop) (hF : F_direct_Dir_Rank a0_d a1_id h K) : C_direct_Dir_Rank a0_d a1_id h K := by
  have e : bodyVC Try.prog Try.f9 (.seq .no (.seq .no (.seq .no .no))) (Option.getD Try.f9.body .skip) [.pointer a0_d, .int .u64 a1_id] h [.at (.int .i64)] (fun s h => K s.1 h) = F_direct_Dir_Rank a0_d a1_id h K := by kernel_rfl
  exact fun_sound mixed Try.func9 rfl (e.mpr hF)

def F_law14_lives  (h : Hp) (K : Bool → Hp → Prop) : Prop :=
C_direct_New  h fun (t1 : Option Addr) (h2 : Hp) =>
C_direct_Dir_Put t1 9 1 h2 fun (t3 : Bool) (h4 : Hp) =>
C_direct_Dir_Put t1 4 2 h4 fun (t5 : Bool) (h6 : Hp) =>
C_direct_Dir_Find t1 4 h6 fun (t7 : Int) (t8 : Bool) (h9 : Hp) =>
cnd (t7 == 2) (
cnd t8 (
C_direct_Dir_Rank t1 5 h9 fun (t10 : Int) (h11 : Hp) =>
cnd (t10 == 1) (
C_direct_Dir_Len t1 h11 fun (t12 : Int) (h13 : Hp) =>
K (t12 == 2) h13) (
K false h11)) (
K false h9)) (
K false h9)

theorem F_law14_lives_ok  (h : Hp) (K : Bool → Hp → Prop) (hF : F_law14_lives  h K) : C_law14_lives  h K := by
  have e : bodyVC Try.prog Try.f10 (.seq .no (.seq .no (.seq .no (.seq .no (.seq .no (.seq .no .no)))))) (Option.getD Try.f10.body .skip) [] h [.at .bool] (fun s h => K s.1 h) = F_law14_lives  h K := by kernel_rfl
  exact fun_sound mixed Try.func10 rfl (e.mpr hF)

def F_direct_Dir_Cut (a0_d : Option Addr) (a1_id : Int) (h : Hp) (K : Bool → Hp → Prop) : Prop :=
C_direct_Dir_place a0_d a1_id h fun (t1 : Int) (t2 : Bool) (h3 : Hp) =>
cnd t2 (
someA a0_d fun (p4 : Addr) =>
ldA .sl h3 p4 fun (t5 : Sl) =>
Let (IntKind.wrap .i64 (t1 + 1) : Int) fun (t6 : Int) =>
C_slices_Delete_direct_row_direct_row t5 t1 t6 h3 fun (t7 : Sl) (h8 : Hp) =>
someA a0_d fun (p9 : Addr) =>
((1 : Nat) = 1) ∧ (
stC h8 p9 (
Let (hset h8 p9 (.slice t7.a t7.len t7.cap)) fun (h10 : Hp) =>
K t2 h10))) (
K t2 h3)

theorem F_direct_Dir_Cut_ok (a0_d : Option Addr) (a1_id : Int) (h : Hp) (K : Bool → Hp → Prop) (hF : F_direct_Dir_Cut a0_d a1_id h K) : C_direct_Dir_Cut a0_d a1_id h K := by
  have e : bodyVC Try.prog Try.f11 (.seq .no (.seq .no (.seq (.seq .no (.cond .no .no)) (.seq .no .no)))) (Option.getD Try.f11.body .skip) [.pointer a0_d, .int .u64 a1_id] h [.at .bool] (fun s h => K s.1 h) = F_direct_Dir_Cut a0_d a1_id h K := by kernel_rfl
  exact fun_sound mixed Try.func11 rfl (e.mpr hF)

def J1_ref14_Cut (a0_l : Sl) (K : Sl → Bool → Hp → Prop) (sJ1 : Sl × Unit) (hJ1 : Hp) : Prop :=
K (Sl.mk sJ1.1.a sJ1.1.len sJ1.1.cap) (decide ((sJ1.1.len : Int) < (a0_l.len : Int))) hJ1
def L1_ref14_Cut (a0_l : Sl) (a1_id : Int) (J1 : Sl × Unit → Hp → Prop) (sL1 : (Sl × Int × Unit) × Hp) (R1 : (Sl × Int × Unit) × Hp → Prop) : Prop :=
cnd (decide (sL1.1.2.1 < (a0_l.len : Int))) (
idxS a0_l.a a0_l.len sL1.1.2.1 2 fun (p1 : Addr) =>
ldA (.int .u64) sL1.2 p1 fun (t2 : Int) =>
cnd (t2 != a1_id) (
idxS a0_l.a a0_l.len sL1.1.2.1 2 fun (p3 : Addr) =>
ldA (.int .u64) sL1.2 p3 fun (t4 : Int) =>
ldA (.int .i64) sL1.2 (Addr.add p3 1) fun (t5 : Int) =>
Let (Array.push sL1.2 (Obj.cells #[.int .u64 t4, .int .i64 t5] 57)) fun (h6 : Hp) =>
Let (Addr.mk (Array.size sL1.2) 0 none) fun (p7 : Addr) =>
appS 57 2 16 [.int .u64 0, .int .i64 0] sL1.1.1.a sL1.1.1.len sL1.1.1.cap (.slice (some p7) 1 1) h6 fun (t8 : Sl) (h9 : Hp) =>
Let (IntKind.wrap .i64 (sL1.1.2.1 + 1) : Int) fun (t10 : Int) =>
R1 ((t8, t10, ()), h9)) (
Let (IntKind.wrap .i64 (sL1.1.2.1 + 1) : Int) fun (t11 : Int) =>
R1 (((Sl.mk sL1.1.1.a sL1.1.1.len sL1.1.1.cap), t11, ()), sL1.2))) (
J1 ((Sl.mk sL1.1.1.a sL1.1.1.len sL1.1.1.cap), ()) sL1.2)
def F_ref14_Cut (a0_l : Sl) (a1_id : Int) (h : Hp) (K : Sl → Bool → Hp → Prop) : Prop :=
Jn (J1_ref14_Cut a0_l K) fun (J1 : Sl × Unit → Hp → Prop) =>
∃ n, Lp (L1_ref14_Cut a0_l a1_id J1) n (((Sl.mk none 0 0), 0, ()), h)

theorem F_ref14_Cut_ok (a0_l : Sl) (a1_id : Int) (h : Hp) (K : Sl → Bool → Hp → Prop) (hF : F_ref14_Cut a0_l a1_id h K) : C_ref14_Cut a0_l a1_id h K := by
  have e : bodyVC Try.prog Try.f12 (.seq .no (.seq .no (.join [(6, .at .sl)] (.seq .no (.block (.loop [(6, .at .sl), (7, .at (.int .i64))] (.seq (.seq .no (.cond .no .no)) (.seq (.block (.seq .no (.cond .no .no))) .no))))) (.seq .no .no)))) (Option.getD Try.f12.body .skip) [.slice a0_l.a a0_l.len a0_l.cap, .int .u64 a1_id] h [.at .sl, .at .bool] (fun s h => K s.1 s.2.1 h) = F_ref14_Cut a0_l a1_id h K := by kernel_rfl
  exact fun_sound mixed Try.func12 rfl (e.mpr hF)

def F_ref14_Put (a0_l : Sl) (a1_id : Int) (a2_slot : Int) (h : Hp) (K : Sl → Bool → Hp → Prop) : Prop :=
C_ref14_Find a0_l a1_id h fun (t1 : Int) (t2 : Bool) (h3 : Hp) =>
cnd t2 (
K a0_l false h3) (
appS 57 2 16 [.int .u64 0, .int .i64 0] none 0 0 (.slice a0_l.a a0_l.len a0_l.cap) h3 fun (t4 : Sl) (h5 : Hp) =>
Let (Array.push h5 (Obj.cells #[.int .u64 a1_id, .int .i64 a2_slot] 57)) fun (h6 : Hp) =>
Let (Addr.mk (Array.size h5) 0 none) fun (p7 : Addr) =>
appS 57 2 16 [.int .u64 0, .int .i64 0] t4.a t4.len t4.cap (.slice (some p7) 1 1) h6 fun (t8 : Sl) (h9 : Hp) =>
K t8 true h9)

theorem F_ref14_Put_ok (a0_l : Sl) (a1_id : Int) (a2_slot : Int) (h : Hp) (K : Sl → Bool → Hp → Prop) (hF : F_ref14_Put a0_l a1_id a2_slot h K) : C_ref14_Put a0_l a1_id a2_slot h K := by
  have e : bodyVC Try.prog Try.f13 (.seq .no (.seq .no (.seq (.seq .no (.cond (.seq .no .no) .no)) (.seq .no .no)))) (Option.getD Try.f13.body .skip) [.slice a0_l.a a0_l.len a0_l.cap, .int .u64 a1_id, .int .i64 a2_slot] h [.at .sl, .at .bool] (fun s h => K s.1 s.2.1 h) = F_ref14_Put a0_l a1_id a2_slot h K := by kernel_rfl
  exact fun_sound mixed Try.func13 rfl (e.mpr hF)

def F_direct_Dir_Find (a0_d : Option Addr) (a1_id : Int) (h : Hp) (K : Int → Bool → Hp → Prop) : Prop :=
C_direct_Dir_place a0_d a1_id h fun (t1 : Int) (t2 : Bool) (h3 : Hp) =>
cnd (!t2) (
K 0 false h3) (
someA a0_d fun (p4 : Addr) =>
ldA .sl h3 p4 fun (t5 : Sl) =>
idxS t5.a t5.len t1 2 fun (p6 : Addr) =>
ldA (.int .i64) h3 (Addr.add p6 1) fun (t7 : Int) =>
K t7 true h3)

theorem F_direct_Dir_Find_ok (a0_d : Option Addr) (a1_id : Int) (h : Hp) (K : Int → Bool → Hp → Prop) (hF : F_direct_Dir_Find a0_d a1_id h K) : C_direct_Dir_Find a0_d a1_id h K := by
  have e : bodyVC Try.prog Try.f14 (.seq .no (.seq .no (.seq (.seq .no (.cond (.seq .no .no) .no)) (.seq .no .no)))) (Option.getD Try.f14.body .skip) [.pointer a0_d, .int .u64 a1_id] h [.at (.int .i64), .at .bool] (fun s h => K s.1 s.2.1 h) = F_direct_Dir_Find a0_d a1_id h K := by kernel_rfl
  exact fun_sound mixed Try.func14 rfl (e.mpr hF)

def L1_ref14_Find (a0_l : Sl) (a1_id : Int) (K : Int → Bool → Hp → Prop) (sL1 : (Int × Unit) × Hp) (R1 : (Int × Unit) × Hp → Prop) : Prop :=
cnd (decide (sL1.1.1 < (a0_l.len : Int))) (
idxS a0_l.a a0_l.len sL1.1.1 2 fun (p1 : Addr) =>
ldA (.int .u64) sL1.2 p1 fun (t2 : Int) =>
cnd (t2 == a1_id) (
idxS a0_l.a a0_l.len sL1.1.1 2 fun (p3 : Addr) =>
ldA (.int .i64) sL1.2 (Addr.add p3 1) fun (t4 : Int) =>
K t4 true sL1.2) (
Let (IntKind.wrap .i64 (sL1.1.1 + 1) : Int) fun (t5 : Int) =>
R1 ((t5, ()), sL1.2))) (
K 0 false sL1.2)
def F_ref14_Find (a0_l : Sl) (a1_id : Int) (h : Hp) (K : Int → Bool → Hp → Prop) : Prop :=
∃ n, Lp (L1_ref14_Find a0_l a1_id K) n ((0, ()), h)

theorem F_ref14_Find_ok (a0_l : Sl) (a1_id : Int) (h : Hp) (K : Int → Bool → Hp → Prop) (hF : F_ref14_Find a0_l a1_id h K) : C_ref14_Find a0_l a1_id h K := by
  have e : bodyVC Try.prog Try.f15 (.seq .no (.seq (.seq .no (.block (.loop [(6, .at (.int .i64))] (.seq (.seq .no (.cond .no .no)) (.seq (.block (.seq .no (.cond (.seq .no .no) .no))) .no))))) (.seq .no .no))) (Option.getD Try.f15.body .skip) [.slice a0_l.a a0_l.len a0_l.cap, .int .u64 a1_id] h [.at (.int .i64), .at .bool] (fun s h => K s.1 s.2.1 h) = F_ref14_Find a0_l a1_id h K := by kernel_rfl
  exact fun_sound mixed Try.func15 rfl (e.mpr hF)

def L1_ref14_Ids (a0_l : Sl) (K : Sl → Hp → Prop) (t1 : Sl) (sL1 : (Int × Unit) × Hp) (R1 : (Int × Unit) × Hp → Prop) : Prop :=
cnd (decide (sL1.1.1 < (a0_l.len : Int))) (
idxS a0_l.a a0_l.len sL1.1.1 2 fun (p3 : Addr) =>
ldA (.int .u64) sL1.2 p3 fun (t4 : Int) =>
C_ref14_Rank a0_l t4 sL1.2 fun (t5 : Int) (h6 : Hp) =>
Ext sL1.2 h6 ∧ (
idxS a0_l.a a0_l.len sL1.1.1 2 fun (p7 : Addr) =>
ldA (.int .u64) sL1.2 p7 fun (t8 : Int) =>
idxS t1.a t1.len t5 1 fun (p9 : Addr) =>
((1 : Nat) = 1) ∧ (
stC h6 p9 (
Let (hset h6 p9 (.int .u64 t8)) fun (h10 : Hp) =>
Let (IntKind.wrap .i64 (sL1.1.1 + 1) : Int) fun (t11 : Int) =>
R1 ((t11, ()), h10))))) (
K t1 sL1.2)
def F_ref14_Ids (a0_l : Sl) (h : Hp) (K : Sl → Hp → Prop) : Prop :=
mkS 26 1 8 [.int .u64 0] (a0_l.len : Int) (a0_l.len : Int) h fun (t1 : Sl) (h2 : Hp) =>
∃ n, Lp (L1_ref14_Ids a0_l K t1) n ((0, ()), h2)

theorem F_ref14_Ids_ok (a0_l : Sl) (h : Hp) (K : Sl → Hp → Prop) (hF : F_ref14_Ids a0_l h K) : C_ref14_Ids a0_l h K := by
  have e : bodyVC Try.prog Try.f16 (.seq .no (.seq .no (.seq (.seq .no (.block (.loop [(4, .at (.int .i64))] (.seq (.seq .no (.cond .no .no)) (.seq (.block .no) .no))))) (.seq .no .no)))) (Option.getD Try.f16.body .skip) [.slice a0_l.a a0_l.len a0_l.cap] h [.at .sl] (fun s h => K s.1 h) = F_ref14_Ids a0_l h K := by kernel_rfl
  exact fun_sound mixed Try.func16 rfl (e.mpr hF)

def F_direct_Dir_Len (a0_d : Option Addr) (h : Hp) (K : Int → Hp → Prop) : Prop :=
cnd (Option.isNone a0_d) (
K 0 h) (
someA a0_d fun (p1 : Addr) =>
ldA .sl h p1 fun (t2 : Sl) =>
K (t2.len : Int) h)

theorem F_direct_Dir_Len_ok (a0_d : Option Addr) (h : Hp) (K : Int → Hp → Prop) (hF : F_direct_Dir_Len a0_d h K) : C_direct_Dir_Len a0_d h K := by
  have e : bodyVC Try.prog Try.f17 (.seq .no (.seq (.seq .no (.cond (.seq .no .no) .no)) (.seq .no .no))) (Option.getD Try.f17.body .skip) [.pointer a0_d] h [.at (.int .i64)] (fun s h => K s.1 h) = F_direct_Dir_Len a0_d h K := by kernel_rfl
  exact fun_sound mixed Try.func17 rfl (e.mpr hF)

def L1_ref14_Same (a0_a : Sl) (a1_b : Sl) (K : Bool → Hp → Prop) (sL1 : (Int × Unit) × Hp) (R1 : (Int × Unit) × Hp → Prop) : Prop :=
cnd (decide (sL1.1.1 < (a0_a.len : Int))) (
idxS a0_a.a a0_a.len sL1.1.1 1 fun (p1 : Addr) =>
ldA (.int .u64) sL1.2 p1 fun (t2 : Int) =>
idxS a1_b.a a1_b.len sL1.1.1 1 fun (p3 : Addr) =>
ldA (.int .u64) sL1.2 p3 fun (t4 : Int) =>
cnd (t2 != t4) (
K false sL1.2) (
Let (IntKind.wrap .i64 (sL1.1.1 + 1) : Int) fun (t5 : Int) =>
R1 ((t5, ()), sL1.2))) (
K true sL1.2)
def F_ref14_Same (a0_a : Sl) (a1_b : Sl) (h : Hp) (K : Bool → Hp → Prop) : Prop :=
cnd ((a0_a.len : Int) != (a1_b.len : Int)) (
K false h) (
∃ n, Lp (L1_ref14_Same a0_a a1_b K) n ((0, ()), h))

theorem F_ref14_Same_ok (a0_a : Sl) (a1_b : Sl) (h : Hp) (K : Bool → Hp → Prop) (hF : F_ref14_Same a0_a a1_b h K) : C_ref14_Same a0_a a1_b h K := by
  have e : bodyVC Try.prog Try.f18 (.seq .no (.seq (.seq .no (.cond (.seq .no .no) .no)) (.seq (.seq .no (.block (.loop [(5, .at (.int .i64))] (.seq (.seq .no (.cond .no .no)) (.seq (.block (.seq .no (.cond (.seq .no .no) .no))) .no))))) (.seq .no .no)))) (Option.getD Try.f18.body .skip) [.slice a0_a.a a0_a.len a0_a.cap, .slice a1_b.a a1_b.len a1_b.cap] h [.at .bool] (fun s h => K s.1 h) = F_ref14_Same a0_a a1_b h K := by kernel_rfl
  exact fun_sound mixed Try.func18 rfl (e.mpr hF)

def L1_direct_Dir_Ids (a0_d : Option Addr) (K : Sl → Hp → Prop) (t1 : Int) (sL1 : (Sl × Int × Unit) × Hp) (R1 : (Sl × Int × Unit) × Hp → Prop) : Prop :=
cnd (decide (sL1.1.2.1 < t1)) (
someA a0_d fun (p3 : Addr) =>
ldA .sl sL1.2 p3 fun (t4 : Sl) =>
idxS t4.a t4.len sL1.1.2.1 2 fun (p5 : Addr) =>
ldA (.int .u64) sL1.2 p5 fun (t6 : Int) =>
Let (Array.push sL1.2 (Obj.cells #[.int .u64 t6] 26)) fun (h7 : Hp) =>
Let (Addr.mk (Array.size sL1.2) 0 none) fun (p8 : Addr) =>
appS 26 1 8 [.int .u64 0] sL1.1.1.a sL1.1.1.len sL1.1.1.cap (.slice (some p8) 1 1) h7 fun (t9 : Sl) (h10 : Hp) =>
Let (IntKind.wrap .i64 (sL1.1.2.1 + 1) : Int) fun (t11 : Int) =>
R1 ((t9, t11, ()), h10)) (
K (Sl.mk sL1.1.1.a sL1.1.1.len sL1.1.1.cap) sL1.2)
def F_direct_Dir_Ids (a0_d : Option Addr) (h : Hp) (K : Sl → Hp → Prop) : Prop :=
C_direct_Dir_Len a0_d h fun (t1 : Int) (h2 : Hp) =>
∃ n, Lp (L1_direct_Dir_Ids a0_d K t1) n (((Sl.mk none 0 0), 0, ()), h2)

theorem F_direct_Dir_Ids_ok (a0_d : Option Addr) (h : Hp) (K : Sl → Hp → Prop) (hF : F_direct_Dir_Ids a0_d h K) : C_direct_Dir_Ids a0_d h K := by
  have e : bodyVC Try.prog Try.f19 (.seq .no (.seq .no (.seq (.seq .no (.block (.loop [(3, .at .sl), (7, .at (.int .i64))] (.seq .no (.seq (.cond .no .no) (.seq (.block (.seq .no .no)) .no)))))) (.seq .no .no)))) (Option.getD Try.f19.body .skip) [.pointer a0_d] h [.at .sl] (fun s h => K s.1 h) = F_direct_Dir_Ids a0_d h K := by kernel_rfl
  exact fun_sound mixed Try.func19 rfl (e.mpr hF)

def L1_ref14_Rank (a0_l : Sl) (a1_id : Int) (K : Int → Hp → Prop) (sL1 : (Int × Int × Unit) × Hp) (R1 : (Int × Int × Unit) × Hp → Prop) : Prop :=
cnd (decide (sL1.1.2.1 < (a0_l.len : Int))) (
idxS a0_l.a a0_l.len sL1.1.2.1 2 fun (p1 : Addr) =>
ldA (.int .u64) sL1.2 p1 fun (t2 : Int) =>
cnd (decide (t2 < a1_id)) (
Let (IntKind.wrap .i64 (sL1.1.1 + 1) : Int) fun (t3 : Int) =>
Let (IntKind.wrap .i64 (sL1.1.2.1 + 1) : Int) fun (t4 : Int) =>
R1 ((t3, t4, ()), sL1.2)) (
Let (IntKind.wrap .i64 (sL1.1.2.1 + 1) : Int) fun (t5 : Int) =>
R1 ((sL1.1.1, t5, ()), sL1.2))) (
K sL1.1.1 sL1.2)
def F_ref14_Rank (a0_l : Sl) (a1_id : Int) (h : Hp) (K : Int → Hp → Prop) : Prop :=
∃ n, Lp (L1_ref14_Rank a0_l a1_id K) n ((0, 0, ()), h)

theorem F_ref14_Rank_ok (a0_l : Sl) (a1_id : Int) (h : Hp) (K : Int → Hp → Prop) (hF : F_ref14_Rank a0_l a1_id h K) : C_ref14_Rank a0_l a1_id h K := by
  have e : bodyVC Try.prog Try.f20 (.seq .no (.seq .no (.seq (.seq .no (.block (.loop [(5, .at (.int .i64)), (6, .at (.int .i64))] (.seq (.seq .no (.cond .no .no)) (.seq (.block (.seq .no (.cond .no .no))) .no))))) (.seq .no .no)))) (Option.getD Try.f20.body .skip) [.slice a0_l.a a0_l.len a0_l.cap, .int .u64 a1_id] h [.at (.int .i64)] (fun s h => K s.1 h) = F_ref14_Rank a0_l a1_id h K := by kernel_rfl
  exact fun_sound mixed Try.func20 rfl (e.mpr hF)

def F_direct_Dir_place (a0_d : Option Addr) (a1_id : Int) (h : Hp) (K : Int → Bool → Hp → Prop) : Prop :=
cnd (Option.isNone a0_d) (
K 0 false h) (
someA a0_d fun (p1 : Addr) =>
ldA .sl h p1 fun (t2 : Sl) =>
C_slices_BinarySearchFunc_direct_row_direct_row_uint64 t2 a1_id (.func (.func 25) #[] #[]) h fun (t3 : Int) (t4 : Bool) (h5 : Hp) =>
K t3 t4 h5)

theorem F_direct_Dir_place_ok (a0_d : Option Addr) (a1_id : Int) (h : Hp) (K : Int → Bool → Hp → Prop) (hF : F_direct_Dir_place a0_d a1_id h K) : C_direct_Dir_place a0_d a1_id h K := by
  have e : bodyVC Try.prog Try.f21 (.seq .no (.seq (.seq .no (.cond (.seq .no .no) .no)) (.seq .no .no))) (Option.getD Try.f21.body .skip) [.pointer a0_d, .int .u64 a1_id] h [.at (.int .i64), .at .bool] (fun s h => K s.1 s.2.1 h) = F_direct_Dir_place a0_d a1_id h K := by kernel_rfl
  exact fun_sound mixed Try.func21 rfl (e.mpr hF)

def F_slices_Insert_direct_row_direct_row (a0_s : Sl) (a1_i : Int) (a2_v : Sl) (h : Hp) (K : Sl → Hp → Prop) : Prop :=
slcS a0_s.a a0_s.len a0_s.cap (some a1_i) none 2 fun (t1 : Option Addr) (l2 c3 : Nat) =>
cnd ((a2_v.len : Int) == 0) (
K a0_s h) (
cnd (a1_i == (a0_s.len : Int)) (
appS 54 2 16 [.int .u64 0, .int .i64 0] a0_s.a a0_s.len a0_s.cap (.slice a2_v.a a2_v.len a2_v.cap) h fun (t4 : Sl) (h5 : Hp) =>
K t4 h5) (
Let (IntKind.wrap .i64 ((a0_s.len : Int) + (a2_v.len : Int)) : Int) fun (t6 : Int) =>
cnd (decide (t6 > (a0_s.cap : Int))) (
slcS a0_s.a a0_s.len a0_s.cap none (some a1_i) 2 fun (t7 : Option Addr) (l8 c9 : Nat) =>
Let (IntKind.wrap .i64 ((a0_s.len : Int) + (a2_v.len : Int)) : Int) fun (t10 : Int) =>
Let (IntKind.wrap .i64 (t10 - a1_i) : Int) fun (t11 : Int) =>
appZ 54 2 16 [.int .u64 0, .int .i64 0] t7 l8 c9 t11 h fun (t12 : Sl) (h13 : Hp) =>
slcS t12.a t12.len t12.cap (some a1_i) none 2 fun (t14 : Option Addr) (l15 c16 : Nat) =>
cpS 2 t14 l15 (.slice a2_v.a a2_v.len a2_v.cap) h13 fun (t17 : Nat) (h18 : Hp) =>
Let (IntKind.wrap .i64 (a1_i + (a2_v.len : Int)) : Int) fun (t19 : Int) =>
slcS t12.a t12.len t12.cap (some t19) none 2 fun (t20 : Option Addr) (l21 c22 : Nat) =>
slcS a0_s.a a0_s.len a0_s.cap (some a1_i) none 2 fun (t23 : Option Addr) (l24 c25 : Nat) =>
cpS 2 t20 l21 (.slice t23 l24 c25) h18 fun (t26 : Nat) (h27 : Hp) =>
K t12 h27) (
Let (IntKind.wrap .i64 ((a0_s.len : Int) + (a2_v.len : Int)) : Int) fun (t28 : Int) =>
slcS a0_s.a a0_s.len a0_s.cap none (some t28) 2 fun (t29 : Option Addr) (l30 c31 : Nat) =>
Let (IntKind.wrap .i64 (a1_i + (a2_v.len : Int)) : Int) fun (t32 : Int) =>
slcS t29 l30 c31 (some t32) none 2 fun (t33 : Option Addr) (l34 c35 : Nat) =>
C_slices_overlaps_direct_row a2_v (Sl.mk t33 l34 c35) h fun (t36 : Bool) (h37 : Hp) =>
cnd (!t36) (
Let (IntKind.wrap .i64 (a1_i + (a2_v.len : Int)) : Int) fun (t38 : Int) =>
slcS t29 l30 c31 (some t38) none 2 fun (t39 : Option Addr) (l40 c41 : Nat) =>
slcS t29 l30 c31 (some a1_i) none 2 fun (t42 : Option Addr) (l43 c44 : Nat) =>
cpS 2 t39 l40 (.slice t42 l43 c44) h37 fun (t45 : Nat) (h46 : Hp) =>
slcS t29 l30 c31 (some a1_i) none 2 fun (t47 : Option Addr) (l48 c49 : Nat) =>
cpS 2 t47 l48 (.slice a2_v.a a2_v.len a2_v.cap) h46 fun (t50 : Nat) (h51 : Hp) =>
K (Sl.mk t29 l30 c31) h51) (
slcS t29 l30 c31 (some (a0_s.len : Int)) none 2 fun (t52 : Option Addr) (l53 c54 : Nat) =>
cpS 2 t52 l53 (.slice a2_v.a a2_v.len a2_v.cap) h37 fun (t55 : Nat) (h56 : Hp) =>
slcS t29 l30 c31 (some a1_i) none 2 fun (t57 : Option Addr) (l58 c59 : Nat) =>
C_slices_rotateRight_direct_row (Sl.mk t57 l58 c59) (a2_v.len : Int) h56 fun  (h60 : Hp) =>
K (Sl.mk t29 l30 c31) h60))))

theorem F_slices_Insert_direct_row_direct_row_ok (a0_s : Sl) (a1_i : Int) (a2_v : Sl) (h : Hp) (K : Sl → Hp → Prop) (hF : F_slices_Insert_direct_row_direct_row a0_s a1_i a2_v h K) : C_slices_Insert_direct_row_direct_row a0_s a1_i a2_v h K := by
  have e : bodyVC Try.prog Try.f22 (.seq .no (.seq .no (.seq .no (.seq (.seq .no (.cond (.seq .no .no) .no)) (.seq .no (.seq (.seq .no (.cond (.seq .no .no) .no)) (.seq (.seq .no (.cond (.seq .no (.seq .no (.seq .no (.seq .no .no)))) .no)) (.seq .no (.seq (.seq .no (.cond (.seq .no (.seq .no (.seq .no .no))) .no)) (.seq .no (.seq .no (.seq .no .no)))))))))))) (Option.getD Try.f22.body .skip) [.slice a0_s.a a0_s.len a0_s.cap, .int .i64 a1_i, .slice a2_v.a a2_v.len a2_v.cap] h [.at .sl] (fun s h => K s.1 h) = F_slices_Insert_direct_row_direct_row a0_s a1_i a2_v h K := by kernel_rfl
  exact fun_sound mixed Try.func22 rfl (e.mpr hF)

def F_slices_Delete_direct_row_direct_row (a0_s : Sl) (a1_i : Int) (a2_j : Int) (h : Hp) (K : Sl → Hp → Prop) : Prop :=
slc3 a0_s.a a0_s.len a0_s.cap (some a1_i) a2_j (a0_s.len : Int) 2 fun (t1 : Option Addr) (l2 c3 : Nat) =>
cnd (a1_i == a2_j) (
K a0_s h) (
slcS a0_s.a a0_s.len a0_s.cap none (some a1_i) 2 fun (t4 : Option Addr) (l5 c6 : Nat) =>
slcS a0_s.a a0_s.len a0_s.cap (some a2_j) none 2 fun (t7 : Option Addr) (l8 c9 : Nat) =>
appS 54 2 16 [.int .u64 0, .int .i64 0] t4 l5 c6 (.slice t7 l8 c9) h fun (t10 : Sl) (h11 : Hp) =>
slcS t10.a t10.len t10.cap (some (t10.len : Int)) (some (a0_s.len : Int)) 2 fun (t12 : Option Addr) (l13 c14 : Nat) =>
smU Try.prog (Builtin.clear_ #[49] 0 #[.slice t12 l13 c14]) h11 fun (h15 : Hp) =>
K t10 h15)

theorem F_slices_Delete_direct_row_direct_row_ok (a0_s : Sl) (a1_i : Int) (a2_j : Int) (h : Hp) (K : Sl → Hp → Prop) (hF : F_slices_Delete_direct_row_direct_row a0_s a1_i a2_j h K) : C_slices_Delete_direct_row_direct_row a0_s a1_i a2_j h K := by
  have e : bodyVC Try.prog Try.f23 (.seq .no (.seq .no (.seq (.seq .no (.cond (.seq .no .no) .no)) (.seq .no (.seq .no (.seq .no (.seq .no .no))))))) (Option.getD Try.f23.body .skip) [.slice a0_s.a a0_s.len a0_s.cap, .int .i64 a1_i, .int .i64 a2_j] h [.at .sl] (fun s h => K s.1 h) = F_slices_Delete_direct_row_direct_row a0_s a1_i a2_j h K := by kernel_rfl
  exact fun_sound mixed Try.func23 rfl (e.mpr hF)

def J1_slices_BinarySearchFunc_direct_row_direct_row_uint64 (a0_x : Sl) (a1_target : Int) (a2_cmp : Value) (K : Int → Bool → Hp → Prop) (sJ1 : Int × Unit) (hJ1 : Hp) : Prop :=
cnd (decide (sJ1.1 < (a0_x.len : Int))) (
idxS a0_x.a a0_x.len sJ1.1 2 fun (p1 : Addr) =>
ldA (.int .u64) hJ1 p1 fun (t2 : Int) =>
ldA (.int .i64) hJ1 (Addr.add p1 1) fun (t3 : Int) =>
callV Try.prog a2_cmp [.agg #[.int .u64 t2, .int .i64 t3], .int .u64 a1_target] [.at (.int .i64)] hJ1 fun (s : Int × Unit) (h5 : Hp) =>
K sJ1.1 (s.1 == 0) h5) (
K sJ1.1 false hJ1)
def L1_slices_BinarySearchFunc_direct_row_direct_row_uint64 (a0_x : Sl) (a1_target : Int) (a2_cmp : Value) (J1 : Int × Unit → Hp → Prop) (sL1 : (Int × Int × Unit) × Hp) (R1 : (Int × Int × Unit) × Hp → Prop) : Prop :=
cnd (decide (sL1.1.1 < sL1.1.2.1)) (
Let (IntKind.wrap .i64 (sL1.1.1 + sL1.1.2.1) : Int) fun (t6 : Int) =>
Let (IntKind.wrap .u64 (t6) : Int) fun (t7 : Int) =>
((0 : Int) ≤ 1) ∧ (
Let (Int.fdiv t7 (2 ^ min (Int.toNat 1) (IntKind.bits .u64)) : Int) fun (t8 : Int) =>
Let (IntKind.wrap .i64 (t8) : Int) fun (t9 : Int) =>
idxS a0_x.a a0_x.len t9 2 fun (p10 : Addr) =>
ldA (.int .u64) sL1.2 p10 fun (t11 : Int) =>
ldA (.int .i64) sL1.2 (Addr.add p10 1) fun (t12 : Int) =>
callV Try.prog a2_cmp [.agg #[.int .u64 t11, .int .i64 t12], .int .u64 a1_target] [.at (.int .i64)] sL1.2 fun (s : Int × Unit) (h14 : Hp) =>
cnd (decide (s.1 < 0)) (
Let (IntKind.wrap .i64 (t9 + 1) : Int) fun (t15 : Int) =>
R1 ((t15, sL1.1.2.1, ()), h14)) (
R1 ((sL1.1.1, t9, ()), h14)))) (
J1 (sL1.1.1, ()) sL1.2)
def F_slices_BinarySearchFunc_direct_row_direct_row_uint64 (a0_x : Sl) (a1_target : Int) (a2_cmp : Value) (h : Hp) (K : Int → Bool → Hp → Prop) : Prop :=
Jn (J1_slices_BinarySearchFunc_direct_row_direct_row_uint64 a0_x a1_target a2_cmp K) fun (J1 : Int × Unit → Hp → Prop) =>
∃ n, Lp (L1_slices_BinarySearchFunc_direct_row_direct_row_uint64 a0_x a1_target a2_cmp J1) n ((0, (a0_x.len : Int), ()), h)

theorem F_slices_BinarySearchFunc_direct_row_direct_row_uint64_ok (a0_x : Sl) (a1_target : Int) (a2_cmp : Value) (h : Hp) (K : Int → Bool → Hp → Prop) (hF : F_slices_BinarySearchFunc_direct_row_direct_row_uint64 a0_x a1_target a2_cmp h K) : C_slices_BinarySearchFunc_direct_row_direct_row_uint64 a0_x a1_target a2_cmp h K := by
  have e : bodyVC Try.prog Try.f24 (.seq .no (.seq .no (.seq .no (.join [(9, .at (.int .i64))] (.block (.loop [(9, .at (.int .i64)), (10, .at (.int .i64))] (.seq (.seq .no (.cond .no .no)) (.block (.seq .no (.seq .no (.cond .no .no))))))) (.seq .no .no))))) (Option.getD Try.f24.body .skip) [.slice a0_x.a a0_x.len a0_x.cap, .int .u64 a1_target, a2_cmp] h [.at (.int .i64), .at .bool] (fun s h => K s.1 s.2.1 h) = F_slices_BinarySearchFunc_direct_row_direct_row_uint64 a0_x a1_target a2_cmp h K := by kernel_rfl
  exact fun_sound mixed Try.func24 rfl (e.mpr hF)

def F_direct_Dir_place_1 (a0_r : Int) (a1_r : Int) (a2_id : Int) (h : Hp) (K : Int → Hp → Prop) : Prop :=
Let (Array.push h (Obj.cells #[.int .u64 a0_r, .int .i64 a1_r] 54)) fun (h1 : Hp) =>
Let (Addr.mk (Array.size h) 0 none) fun (p2 : Addr) =>
ldA (.int .u64) h1 p2 fun (t3 : Int) =>
C_cmp_Compare_uint64 t3 a2_id h1 fun (t4 : Int) (h5 : Hp) =>
K t4 h5

theorem F_direct_Dir_place_1_ok (a0_r : Int) (a1_r : Int) (a2_id : Int) (h : Hp) (K : Int → Hp → Prop) (hF : F_direct_Dir_place_1 a0_r a1_r a2_id h K) : C_direct_Dir_place_1 a0_r a1_r a2_id h K := by
  have e : bodyVC Try.prog Try.f25 (.seq .no (.seq .no .no)) (Option.getD Try.f25.body .skip) [.agg #[.int .u64 a0_r, .int .i64 a1_r], .int .u64 a2_id] h [.at (.int .i64)] (fun s h => K s.1 h) = F_direct_Dir_place_1 a0_r a1_r a2_id h K := by kernel_rfl
  exact fun_sound mixed Try.func25 rfl (e.mpr hF)

def F_cmp_Compare_uint64 (a0_x : Int) (a1_y : Int) (h : Hp) (K : Int → Hp → Prop) : Prop :=
C_cmp_isNaN_uint64 a0_x h fun (t1 : Bool) (h2 : Hp) =>
C_cmp_isNaN_uint64 a1_y h2 fun (t3 : Bool) (h4 : Hp) =>
cnd t1 (
cnd t3 (
K 0 h4) (
K (-1) h4)) (
cnd t3 (
K 1 h4) (
cnd (decide (a0_x < a1_y)) (
K (-1) h4) (
cnd (decide (a0_x > a1_y)) (
K 1 h4) (
K 0 h4))))

theorem F_cmp_Compare_uint64_ok (a0_x : Int) (a1_y : Int) (h : Hp) (K : Int → Hp → Prop) (hF : F_cmp_Compare_uint64 a0_x a1_y h K) : C_cmp_Compare_uint64 a0_x a1_y h K := by
  have e : bodyVC Try.prog Try.f26 (.seq .no (.seq .no (.seq .no (.seq (.seq .no (.cond (.seq (.seq .no (.cond (.seq .no .no) .no)) (.seq .no .no)) .no)) (.seq (.seq .no (.cond (.seq .no .no) .no)) (.seq (.seq .no (.cond (.seq .no .no) .no)) (.seq (.seq .no (.cond (.seq .no .no) .no)) (.seq .no .no)))))))) (Option.getD Try.f26.body .skip) [.int .u64 a0_x, .int .u64 a1_y] h [.at (.int .i64)] (fun s h => K s.1 h) = F_cmp_Compare_uint64 a0_x a1_y h K := by kernel_rfl
  exact fun_sound mixed Try.func26 rfl (e.mpr hF)

def F_slices_rotateRight_direct_row (a0_s : Sl) (a1_r : Int) (h : Hp) (K : Hp → Prop) : Prop :=
Let (IntKind.wrap .i64 ((a0_s.len : Int) - a1_r) : Int) fun (t1 : Int) =>
C_slices_rotateLeft_direct_row a0_s t1 h fun  (h2 : Hp) =>
K h2

theorem F_slices_rotateRight_direct_row_ok (a0_s : Sl) (a1_r : Int) (h : Hp) (K : Hp → Prop) (hF : F_slices_rotateRight_direct_row a0_s a1_r h K) : C_slices_rotateRight_direct_row a0_s a1_r h K := by
  have e : bodyVC Try.prog Try.f28 .no (Option.getD Try.f28.body .skip) [.slice a0_s.a a0_s.len a0_s.cap, .int .i64 a1_r] h [] (fun s h => K h) = F_slices_rotateRight_direct_row a0_s a1_r h K := by kernel_rfl
  exact fun_sound mixed Try.func28 rfl (e.mpr hF)

def F_cmp_isNaN_uint64 (a0_x : Int) (h : Hp) (K : Bool → Hp → Prop) : Prop :=
K (a0_x != a0_x) h

theorem F_cmp_isNaN_uint64_ok (a0_x : Int) (h : Hp) (K : Bool → Hp → Prop) (hF : F_cmp_isNaN_uint64 a0_x h K) : C_cmp_isNaN_uint64 a0_x h K := by
  have e : bodyVC Try.prog Try.f29 (.seq .no (.seq .no .no)) (Option.getD Try.f29.body .skip) [.int .u64 a0_x] h [.at .bool] (fun s h => K s.1 h) = F_cmp_isNaN_uint64 a0_x h K := by kernel_rfl
  exact fun_sound mixed Try.func29 rfl (e.mpr hF)

def F_slices_rotateLeft_direct_row (a0_s : Sl) (a1_r : Int) (h : Hp) (K : Hp → Prop) : Prop :=
slcS a0_s.a a0_s.len a0_s.cap none (some a1_r) 2 fun (t1 : Option Addr) (l2 c3 : Nat) =>
C_slices_Reverse_direct_row_direct_row (Sl.mk t1 l2 c3) h fun  (h4 : Hp) =>
slcS a0_s.a a0_s.len a0_s.cap (some a1_r) none 2 fun (t5 : Option Addr) (l6 c7 : Nat) =>
C_slices_Reverse_direct_row_direct_row (Sl.mk t5 l6 c7) h4 fun  (h8 : Hp) =>
C_slices_Reverse_direct_row_direct_row a0_s h8 fun  (h9 : Hp) =>
K h9

theorem F_slices_rotateLeft_direct_row_ok (a0_s : Sl) (a1_r : Int) (h : Hp) (K : Hp → Prop) (hF : F_slices_rotateLeft_direct_row a0_s a1_r h K) : C_slices_rotateLeft_direct_row a0_s a1_r h K := by
  have e : bodyVC Try.prog Try.f30 (.seq .no (.seq .no .no)) (Option.getD Try.f30.body .skip) [.slice a0_s.a a0_s.len a0_s.cap, .int .i64 a1_r] h [] (fun s h => K h) = F_slices_rotateLeft_direct_row a0_s a1_r h K := by kernel_rfl
  exact fun_sound mixed Try.func30 rfl (e.mpr hF)

def L1_slices_Reverse_direct_row_direct_row (a0_s : Sl) (K : Hp → Prop) (sL1 : (Int × Int × Unit) × Hp) (R1 : (Int × Int × Unit) × Hp → Prop) : Prop :=
cnd (decide (sL1.1.1 < sL1.1.2.1)) (
idxS a0_s.a a0_s.len sL1.1.2.1 2 fun (p2 : Addr) =>
ldA (.int .u64) sL1.2 p2 fun (t3 : Int) =>
ldA (.int .i64) sL1.2 (Addr.add p2 1) fun (t4 : Int) =>
idxS a0_s.a a0_s.len sL1.1.1 2 fun (p5 : Addr) =>
ldA (.int .u64) sL1.2 p5 fun (t6 : Int) =>
ldA (.int .i64) sL1.2 (Addr.add p5 1) fun (t7 : Int) =>
idxS a0_s.a a0_s.len sL1.1.1 2 fun (p8 : Addr) =>
stC sL1.2 p8 (
Let (hset sL1.2 p8 (.int .u64 t3)) fun (h9 : Hp) =>
stC h9 (Addr.add p8 1) (
Let (hset h9 (Addr.add p8 1) (.int .i64 t4)) fun (h10 : Hp) =>
idxS a0_s.a a0_s.len sL1.1.2.1 2 fun (p11 : Addr) =>
stC h10 p11 (
Let (hset h10 p11 (.int .u64 t6)) fun (h12 : Hp) =>
stC h12 (Addr.add p11 1) (
Let (hset h12 (Addr.add p11 1) (.int .i64 t7)) fun (h13 : Hp) =>
Let (IntKind.wrap .i64 (sL1.1.1 + 1) : Int) fun (t14 : Int) =>
Let (IntKind.wrap .i64 (sL1.1.2.1 - 1) : Int) fun (t15 : Int) =>
R1 ((t14, t15, ()), h13)))))) (
K sL1.2)
def F_slices_Reverse_direct_row_direct_row (a0_s : Sl) (h : Hp) (K : Hp → Prop) : Prop :=
Let (IntKind.wrap .i64 ((a0_s.len : Int) - 1) : Int) fun (t1 : Int) =>
∃ n, Lp (L1_slices_Reverse_direct_row_direct_row a0_s K) n ((0, t1, ()), h)

theorem F_slices_Reverse_direct_row_direct_row_ok (a0_s : Sl) (h : Hp) (K : Hp → Prop) (hF : F_slices_Reverse_direct_row_direct_row a0_s h K) : C_slices_Reverse_direct_row_direct_row a0_s h K := by
  have e : bodyVC Try.prog Try.f31 (.seq .no (.block (.loop [(2, .at (.int .i64)), (3, .at (.int .i64))] (.seq (.seq .no (.cond .no .no)) (.seq (.block .no) .no))))) (Option.getD Try.f31.body .skip) [.slice a0_s.a a0_s.len a0_s.cap] h [] (fun s h => K h) = F_slices_Reverse_direct_row_direct_row a0_s h K := by kernel_rfl
  exact fun_sound mixed Try.func31 rfl (e.mpr hF)

end Go.Proofs.YtednnilgiebnoaaF
