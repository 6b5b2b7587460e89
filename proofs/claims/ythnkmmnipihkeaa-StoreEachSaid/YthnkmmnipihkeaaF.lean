/- The formulas of the seat's functions and the proofs that they are enough, printed by gen.py of this session. No condition. -/
import Derived.Test.YthnkmmnipihkeaaProg
import Derived.Test.YthnkmmnipihkeaaK7
namespace Go.Proofs.YthnkmmnipihkeaaF
open Go Go.Proofs.YthnkmmnipihkeaaK Go.Proofs
set_option linter.unusedVariables false
set_option maxRecDepth 100000
theorem mixed : Try.prog.follows .mixedOrders = true := by kernel_rfl
def C_gosem_cut  (h : Hp) (K : Hp → Prop) : Prop :=
  ExtT Try.prog 1 [] [] h fun s h => K h
def C_gosem_cut_init  (h : Hp) (K : Hp → Prop) : Prop :=
  CallT Try.prog 2 [] [] h fun s h => K h
def C_law15_StoreOwn (a0_id : Int) (a1_vec : Sl) (a2_by : Int) (h : Hp) (K : Bool → Hp → Prop) : Prop :=
  CallT Try.prog 3 [.int .u64 a0_id, .slice a1_vec.a a1_vec.len a1_vec.cap, .int .i32 a2_by] [.at .bool] h fun s h => K s.1 h
def C_law15_StoreEach (a0_l : Sl) (a1_most : Int) (h : Hp) (K : Bool → Hp → Prop) : Prop :=
  CallT Try.prog 4 [.slice a0_l.a a0_l.len a0_l.cap, .int .i64 a1_most] [.at .bool] h fun s h => K s.1 h
def C_law15_StoreDoes (a0_l : Sl) (h : Hp) (K : Bool → Hp → Prop) : Prop :=
  CallT Try.prog 5 [.slice a0_l.a a0_l.len a0_l.cap] [.at .bool] h fun s h => K s.1 h
def C_law15_StoreNone (a0_x : Int) (a1_x : Int) (a2_x : Sl) (a3_x : ByteArray) (h : Hp) (K : Bool → Hp → Prop) : Prop :=
  CallT Try.prog 6 [.agg #[.int .u64 a0_x, .int .i64 a1_x, .slice a2_x.a a2_x.len a2_x.cap, .string a3_x]] [.at .bool] h fun s h => K s.1 h
def C_store_New  (h : Hp) (K : Option Addr → Hp → Prop) : Prop :=
  CallT Try.prog 7 [] [.at .ptr] h fun s h => K s.1 h
def C_store_Store_Put (a0_s : Option Addr) (a1_x : Int) (a2_x : Int) (a3_x : Sl) (a4_x : ByteArray) (h : Hp) (K : Int → Hp → Prop) : Prop :=
  CallT Try.prog 8 [.pointer a0_s, .agg #[.int .u64 a1_x, .int .i64 a2_x, .slice a3_x.a a3_x.len a3_x.cap, .string a4_x]] [.at (.int .i64)] h fun s h => K s.1 h
def C_store_Store_Get (a0_s : Option Addr) (a1_id : Int) (h : Hp) (K : Int → Sl → ByteArray → Bool → Hp → Prop) : Prop :=
  CallT Try.prog 9 [.pointer a0_s, .int .u64 a1_id] [.agg [(.int .i64), .sl, .str], .at .bool] h fun s h => K s.1.1 s.1.2.1 s.1.2.2.1 s.2.1 h
def C_ref05_Same (a0_x : Int) (a1_x : Sl) (a2_x : ByteArray) (a3_y : Int) (a4_y : Sl) (a5_y : ByteArray) (h : Hp) (K : Bool → Hp → Prop) : Prop :=
  CallT Try.prog 10 [.agg #[.int .i64 a0_x, .slice a1_x.a a1_x.len a1_x.cap, .string a2_x], .agg #[.int .i64 a3_y, .slice a4_y.a a4_y.len a4_y.cap, .string a5_y]] [.at .bool] h fun s h => K s.1 h
def C_law15_lives  (h : Hp) (K : Bool → Hp → Prop) : Prop :=
  CallT Try.prog 11 [] [.at .bool] h fun s h => K s.1 h
def C_ref15_Put (a0_l : Sl) (a1_x : Int) (a2_x : Int) (a3_x : Sl) (a4_x : ByteArray) (h : Hp) (K : Sl → Int → Hp → Prop) : Prop :=
  CallT Try.prog 12 [.slice a0_l.a a0_l.len a0_l.cap, .agg #[.int .u64 a1_x, .int .i64 a2_x, .slice a3_x.a a3_x.len a3_x.cap, .string a4_x]] [.at .sl, .at (.int .i64)] h fun s h => K s.1 s.2.1 h
def C_store_Store_Each (a0_s : Option Addr) (h : Hp) (K : Value → Hp → Prop) : Prop :=
  CallT Try.prog 13 [.pointer a0_s] [.at .raw] h fun s h => K s.1 h
def C_store_Store_Cut (a0_s : Option Addr) (a1_id : Int) (h : Hp) (K : Int → Hp → Prop) : Prop :=
  CallT Try.prog 14 [.pointer a0_s, .int .u64 a1_id] [.at (.int .i64)] h fun s h => K s.1 h
def C_ref15_Cut (a0_l : Sl) (a1_id : Int) (h : Hp) (K : Sl → Int → Hp → Prop) : Prop :=
  CallT Try.prog 15 [.slice a0_l.a a0_l.len a0_l.cap, .int .u64 a1_id] [.at .sl, .at (.int .i64)] h fun s h => K s.1 s.2.1 h
def C_ref15_Get (a0_l : Sl) (a1_id : Int) (h : Hp) (K : Int → Sl → ByteArray → Bool → Hp → Prop) : Prop :=
  CallT Try.prog 16 [.slice a0_l.a a0_l.len a0_l.cap, .int .u64 a1_id] [.agg [(.int .i64), .sl, .str], .at .bool] h fun s h => K s.1.1 s.1.2.1 s.1.2.2.1 s.2.1 h
def C_store_Store_Has (a0_s : Option Addr) (a1_id : Int) (h : Hp) (K : Bool → Hp → Prop) : Prop :=
  CallT Try.prog 17 [.pointer a0_s, .int .u64 a1_id] [.at .bool] h fun s h => K s.1 h
def C_store_Store_Len (a0_s : Option Addr) (h : Hp) (K : Int → Hp → Prop) : Prop :=
  CallT Try.prog 18 [.pointer a0_s] [.at (.int .i64)] h fun s h => K s.1 h
def C_ref15_Same (a0_a : Sl) (a1_b : Sl) (h : Hp) (K : Bool → Hp → Prop) : Prop :=
  CallT Try.prog 19 [.slice a0_a.a a0_a.len a0_a.cap, .slice a1_b.a a1_b.len a1_b.cap] [.at .bool] h fun s h => K s.1 h
def C_store_Store_Items (a0_s : Option Addr) (h : Hp) (K : Sl → Hp → Prop) : Prop :=
  CallT Try.prog 20 [.pointer a0_s] [.at .sl] h fun s h => K s.1 h
def C_arena_New_api_Object  (h : Hp) (K : Option Addr → Hp → Prop) : Prop :=
  CallT Try.prog 21 [] [.at .ptr] h fun s h => K s.1 h
def C_direct_New  (h : Hp) (K : Option Addr → Hp → Prop) : Prop :=
  CallT Try.prog 22 [] [.at .ptr] h fun s h => K s.1 h
def C_direct_Dir_Put (a0_d : Option Addr) (a1_id : Int) (a2_slot : Int) (h : Hp) (K : Bool → Hp → Prop) : Prop :=
  CallT Try.prog 23 [.pointer a0_d, .int .u64 a1_id, .int .i64 a2_slot] [.at .bool] h fun s h => K s.1 h
def C_arena_Arena_api_Object_Put (a0_a : Option Addr) (a1_x : Int) (a2_x : Sl) (a3_x : ByteArray) (h : Hp) (K : Int → Hp → Prop) : Prop :=
  CallT Try.prog 24 [.pointer a0_a, .agg #[.int .i64 a1_x, .slice a2_x.a a2_x.len a2_x.cap, .string a3_x]] [.at (.int .i64)] h fun s h => K s.1 h
def C_object_Clone (a0_x : Int) (a1_x : Sl) (a2_x : ByteArray) (h : Hp) (K : Int → Sl → ByteArray → Hp → Prop) : Prop :=
  CallT Try.prog 25 [.agg #[.int .i64 a0_x, .slice a1_x.a a1_x.len a1_x.cap, .string a2_x]] [.agg [(.int .i64), .sl, .str]] h fun s h => K s.1.1 s.1.2.1 s.1.2.2.1 h
def C_direct_Dir_Find (a0_d : Option Addr) (a1_id : Int) (h : Hp) (K : Int → Bool → Hp → Prop) : Prop :=
  CallT Try.prog 26 [.pointer a0_d, .int .u64 a1_id] [.at (.int .i64), .at .bool] h fun s h => K s.1 s.2.1 h
def C_arena_Arena_api_Object_Get (a0_a : Option Addr) (a1_i : Int) (h : Hp) (K : Int → Sl → ByteArray → Bool → Hp → Prop) : Prop :=
  CallT Try.prog 27 [.pointer a0_a, .int .i64 a1_i] [.agg [(.int .i64), .sl, .str], .at .bool] h fun s h => K s.1.1 s.1.2.1 s.1.2.2.1 s.2.1 h
def C_ref05_Less (a0_x : Int) (a1_x : Sl) (a2_x : ByteArray) (a3_y : Int) (a4_y : Sl) (a5_y : ByteArray) (h : Hp) (K : Bool → Hp → Prop) : Prop :=
  CallT Try.prog 28 [.agg #[.int .i64 a0_x, .slice a1_x.a a1_x.len a1_x.cap, .string a2_x], .agg #[.int .i64 a3_y, .slice a4_y.a a4_y.len a4_y.cap, .string a5_y]] [.at .bool] h fun s h => K s.1 h
def C_store_Store_Each_1 (a0_yield : Value) (a1_t : Option Addr) (h : Hp) (K : Hp → Prop) : Prop :=
  CallT Try.prog 29 [a0_yield, .pointer a1_t] [] h fun s h => K h
def C_store_Store_all (a0_s : Option Addr) (h : Hp) (K : Sl → Hp → Prop) : Prop :=
  CallT Try.prog 30 [.pointer a0_s] [.at .sl] h fun s h => K s.1 h
def C_arena_Arena_api_Object_Cut (a0_a : Option Addr) (a1_i : Int) (h : Hp) (K : Bool → Hp → Prop) : Prop :=
  CallT Try.prog 31 [.pointer a0_a, .int .i64 a1_i] [.at .bool] h fun s h => K s.1 h
def C_direct_Dir_Cut (a0_d : Option Addr) (a1_id : Int) (h : Hp) (K : Bool → Hp → Prop) : Prop :=
  CallT Try.prog 32 [.pointer a0_d, .int .u64 a1_id] [.at .bool] h fun s h => K s.1 h
def C_direct_Dir_Len (a0_d : Option Addr) (h : Hp) (K : Int → Hp → Prop) : Prop :=
  CallT Try.prog 33 [.pointer a0_d] [.at (.int .i64)] h fun s h => K s.1 h
def C_direct_Dir_place (a0_d : Option Addr) (a1_id : Int) (h : Hp) (K : Int → Bool → Hp → Prop) : Prop :=
  CallT Try.prog 34 [.pointer a0_d, .int .u64 a1_id] [.at (.int .i64), .at .bool] h fun s h => K s.1 s.2.1 h
def C_slices_Insert_direct_row_direct_row (a0_s : Sl) (a1_i : Int) (a2_v : Sl) (h : Hp) (K : Sl → Hp → Prop) : Prop :=
  CallT Try.prog 35 [.slice a0_s.a a0_s.len a0_s.cap, .int .i64 a1_i, .slice a2_v.a a2_v.len a2_v.cap] [.at .sl] h fun s h => K s.1 h
def C_slices_Clone_int32_int32 (a0_s : Sl) (h : Hp) (K : Sl → Hp → Prop) : Prop :=
  CallT Try.prog 36 [.slice a0_s.a a0_s.len a0_s.cap] [.at .sl] h fun s h => K s.1 h
def C_arena_Arena_api_Object_has (a0_a : Option Addr) (a1_i : Int) (h : Hp) (K : Bool → Hp → Prop) : Prop :=
  CallT Try.prog 37 [.pointer a0_a, .int .i64 a1_i] [.at .bool] h fun s h => K s.1 h
def C_direct_Dir_Ids (a0_d : Option Addr) (h : Hp) (K : Sl → Hp → Prop) : Prop :=
  CallT Try.prog 38 [.pointer a0_d] [.at .sl] h fun s h => K s.1 h
def C_slices_Delete_direct_row_direct_row (a0_s : Sl) (a1_i : Int) (a2_j : Int) (h : Hp) (K : Sl → Hp → Prop) : Prop :=
  CallT Try.prog 39 [.slice a0_s.a a0_s.len a0_s.cap, .int .i64 a1_i, .int .i64 a2_j] [.at .sl] h fun s h => K s.1 h
def C_slices_BinarySearchFunc_direct_row_direct_row_uint64 (a0_x : Sl) (a1_target : Int) (a2_cmp : Value) (h : Hp) (K : Int → Bool → Hp → Prop) : Prop :=
  CallT Try.prog 40 [.slice a0_x.a a0_x.len a0_x.cap, .int .u64 a1_target, a2_cmp] [.at (.int .i64), .at .bool] h fun s h => K s.1 s.2.1 h
def C_direct_Dir_place_1 (a0_r : Int) (a1_r : Int) (a2_id : Int) (h : Hp) (K : Int → Hp → Prop) : Prop :=
  CallT Try.prog 41 [.agg #[.int .u64 a0_r, .int .i64 a1_r], .int .u64 a2_id] [.at (.int .i64)] h fun s h => K s.1 h
def C_cmp_Compare_uint64 (a0_x : Int) (a1_y : Int) (h : Hp) (K : Int → Hp → Prop) : Prop :=
  CallT Try.prog 42 [.int .u64 a0_x, .int .u64 a1_y] [.at (.int .i64)] h fun s h => K s.1 h
def C_slices_overlaps_direct_row (a0_t : Sl) (a1_t : Sl) (h : Hp) (K : Bool → Hp → Prop) : Prop :=
  ExtT Try.prog 43 [.slice a0_t.a a0_t.len a0_t.cap, .slice a1_t.a a1_t.len a1_t.cap] [.at .bool] h fun s h => K s.1 h
def C_slices_rotateRight_direct_row (a0_s : Sl) (a1_r : Int) (h : Hp) (K : Hp → Prop) : Prop :=
  CallT Try.prog 44 [.slice a0_s.a a0_s.len a0_s.cap, .int .i64 a1_r] [] h fun s h => K h
def C_cmp_isNaN_uint64 (a0_x : Int) (h : Hp) (K : Bool → Hp → Prop) : Prop :=
  CallT Try.prog 45 [.int .u64 a0_x] [.at .bool] h fun s h => K s.1 h
def C_slices_rotateLeft_direct_row (a0_s : Sl) (a1_r : Int) (h : Hp) (K : Hp → Prop) : Prop :=
  CallT Try.prog 46 [.slice a0_s.a a0_s.len a0_s.cap, .int .i64 a1_r] [] h fun s h => K h
def C_slices_Reverse_direct_row_direct_row (a0_s : Sl) (h : Hp) (K : Hp → Prop) : Prop :=
  CallT Try.prog 47 [.slice a0_s.a a0_s.len a0_s.cap] [] h fun s h => K h
abbrev T_ : TypeId := 0
abbrev T_func : TypeId := 1
abbrev T_int64 : TypeId := 2
abbrev T_int : TypeId := 3
abbrev T_bool : TypeId := 4
abbrev T_uint8 : TypeId := 5
abbrev T_abi_BoundsErrorCode : TypeId := 6
abbrev T_struct_x_int64_y_int_signed_bool_code_abi_BoundsErrorCode : TypeId := 7
abbrev T_runtime_boundsError : TypeId := 8
abbrev T_string : TypeId := 9
abbrev T_runtime_errorString : TypeId := 10
abbrev T_runtime_plainError : TypeId := 11
abbrev T_uintptr : TypeId := 12
abbrev T_struct_msg_string_addr_uintptr : TypeId := 13
abbrev T_runtime_errorAddressString : TypeId := 14
abbrev T_Pruntime_TypeAssertionError : TypeId := 15
abbrev T_Pruntime_PanicNilError : TypeId := 16
abbrev T_Pabi_Type : TypeId := 17
abbrev T_struct_typ_Pabi_Type : TypeId := 18
abbrev T_maps_unhashableTypeError : TypeId := 19
abbrev T_interface : TypeId := 20
abbrev T_int32 : TypeId := 21
abbrev T_uint64 : TypeId := 22
abbrev T_Sint32 : TypeId := 23
abbrev T_Pstore_Store : TypeId := 24
abbrev T_func_Pstore_Store : TypeId := 25
abbrev T_struct_Tag_int_Vec_Sint32_Str_string : TypeId := 26
abbrev T_api_Object : TypeId := 27
abbrev T_struct_Id_uint64_Obj_api_Object : TypeId := 28
abbrev T_api_Item : TypeId := 29
abbrev T_api_Errno : TypeId := 30
abbrev T_func_api_Item_api_Errno : TypeId := 31
abbrev T_api_Object_bool : TypeId := 32
abbrev T_func_uint64_api_Object_bool : TypeId := 33
abbrev T_func_api_Object_api_Object_bool : TypeId := 34
abbrev T_func_bool : TypeId := 35
abbrev T_func_uint64_Sint32_int32_bool : TypeId := 36
abbrev T_Sapi_Item : TypeId := 37
abbrev T_Sapi_Item_int : TypeId := 38
abbrev T_func_Sapi_Item_api_Item_Sapi_Item_int : TypeId := 39
abbrev T_func_func_api_Item_bool : TypeId := 40
abbrev T_iter_Seq_api_Item : TypeId := 41
abbrev T_func_iter_Seq_api_Item : TypeId := 42
abbrev T_func_Sapi_Item_int_bool : TypeId := 43
abbrev T_Swaywiserlaw15_Deed : TypeId := 44
abbrev T_struct_Cut_bool_Item_api_Item : TypeId := 45
abbrev T_waywiserlaw15_Deed : TypeId := 46
abbrev T_func_uint64_api_Errno : TypeId := 47
abbrev T_func_Sapi_Item_uint64_Sapi_Item_int : TypeId := 48
abbrev T_func_Sapi_Item_uint64_api_Object_bool : TypeId := 49
abbrev T_func_uint64_bool : TypeId := 50
abbrev T_func_int : TypeId := 51
abbrev T_func_Sapi_Item_Sapi_Item_bool : TypeId := 52
abbrev T_func_Sapi_Item : TypeId := 53
abbrev T_func_Swaywiserlaw15_Deed_bool : TypeId := 54
abbrev T_func_api_Item_bool : TypeId := 55
abbrev T_Parena_Arena_api_Object : TypeId := 56
abbrev T_func_Parena_Arena_api_Object : TypeId := 57
abbrev T_Pdirect_Dir : TypeId := 58
abbrev T_func_Pdirect_Dir : TypeId := 59
abbrev T_struct_l_Parena_Arena_api_Object_dir_Pdirect_Dir : TypeId := 60
abbrev T_store_Store : TypeId := 61
abbrev T_func_uint64_int_bool : TypeId := 62
abbrev T_func_api_Object_int : TypeId := 63
abbrev T_func_api_Object_api_Object : TypeId := 64
abbrev T_int_bool : TypeId := 65
abbrev T_func_int_api_Object_bool : TypeId := 67
abbrev T_func_int_bool : TypeId := 68
abbrev T_Sarena_slot_api_Object : TypeId := 69
abbrev T_Sint : TypeId := 70
abbrev T_struct_l_Sarena_slot_api_Object_free_Sint : TypeId := 71
abbrev T_arena_Arena_api_Object : TypeId := 72
abbrev T_Sdirect_row : TypeId := 73
abbrev T_struct_l_Sdirect_row : TypeId := 74
abbrev T_direct_Dir : TypeId := 75
abbrev T_func_Sdirect_row_int_direct_row_Sdirect_row : TypeId := 76
abbrev T_struct_id_uint64_slot_int : TypeId := 77
abbrev T_direct_row : TypeId := 78
abbrev T_struct_used_bool_x_api_Object : TypeId := 79
abbrev T_arena_slot_api_Object : TypeId := 80
abbrev T_func_Sint32_Sint32 : TypeId := 81
abbrev T_Suint64 : TypeId := 82
abbrev T_func_Suint64 : TypeId := 83
abbrev T_func_Sdirect_row_int_int_Sdirect_row : TypeId := 84
abbrev T_func_uint64_uint64_int : TypeId := 86
abbrev T_func_direct_row_uint64_int : TypeId := 87
abbrev T_func_Sdirect_row_Sdirect_row_bool : TypeId := 88
abbrev T_func_Sdirect_row_int : TypeId := 89
abbrev T_uint : TypeId := 90
abbrev T_func_Sdirect_row : TypeId := 91
abbrev T_func_string : TypeId := 92
abbrev T_runtime_TypeAssertionError : TypeId := 94
abbrev T_0_Pruntime_PanicNilError : TypeId := 95
abbrev T_struct_0_Pruntime_PanicNilError : TypeId := 96
abbrev T_runtime_PanicNilError : TypeId := 97
abbrev T_uint32 : TypeId := 98
abbrev T_abi_TFlag : TypeId := 99
abbrev T_abi_Kind : TypeId := 100
abbrev T_func_unsafe_Pointer_unsafe_Pointer_bool : TypeId := 101
abbrev T_Puint8 : TypeId := 102
abbrev T_abi_NameOff : TypeId := 103
abbrev T_abi_TypeOff : TypeId := 104
abbrev T_abi_Type : TypeId := 106
abbrev T_unsafe_Pointer : TypeId := 107
theorem E_slices_overlaps_direct_row_ok (a0_t : Sl) (a1_t : Sl) (h : Hp) (K : Bool → Hp → Prop) (hk : wpS Try.prog (Extern.SlicesOverlaps.overlaps #[73, 73] #[4] #[.slice a0_t.a a0_t.len a0_t.cap, .slice a1_t.a a1_t.len a1_t.cap]) h fun v h => ∃ s : St [.at .bool], v = mkRes [.at .bool] s ∧ K s.1 h) : C_slices_overlaps_direct_row a0_t a1_t h K := ext_to Try.func43 rfl rfl (by kernel_rfl) (by kernel_rfl) hk

def F_gosem_cut_init  (h : Hp) (K : Hp → Prop) : Prop :=
C_gosem_cut  h fun  (h1 : Hp) =>
K h1

theorem F_gosem_cut_init_ok  (h : Hp) (K : Hp → Prop) (hF : F_gosem_cut_init  h K) : C_gosem_cut_init  h K := by
  have e : bodyVC Try.prog Try.f2 .no (Option.getD Try.f2.body .skip) [] h [] (fun s h => K h) = F_gosem_cut_init  h K := by kernel_rfl
  exact fun_sound mixed Try.func2 rfl (e.mpr hF)

def J2_law15_StoreOwn (a0_id : Int) (a1_vec : Sl) (K : Bool → Hp → Prop) (t1 : Option Addr) (sJ2 : Unit) (hJ2 : Hp) : Prop :=
C_store_Store_Get t1 a0_id hJ2 fun (t29 : Int) (t30 : Sl) (t31 : ByteArray) (t32 : Bool) (h33 : Hp) =>
Let (Array.push h33 (Obj.cells #[.int .i64 0, .slice none 0 0, .string (ByteArray.mk #[])] 27)) fun (h34 : Hp) =>
Let (Addr.mk (Array.size h33) 0 none) fun (p35 : Addr) =>
stC h34 p35 (
Let (hset h34 p35 (.int .i64 t29)) fun (h36 : Hp) =>
stC h36 (Addr.add p35 1) (
Let (hset h36 (Addr.add p35 1) (.slice t30.a t30.len t30.cap)) fun (h37 : Hp) =>
stC h37 (Addr.add p35 2) (
Let (hset h37 (Addr.add p35 2) (.string t31)) fun (h38 : Hp) =>
cnd t32 (
ldA (.int .i64) h38 p35 fun (t39 : Int) =>
ldA .sl h38 (Addr.add p35 1) fun (t40 : Sl) =>
ldA .str h38 (Addr.add p35 2) fun (t41 : ByteArray) =>
C_ref05_Same t39 t40 t41 1 a1_vec (ByteArray.mk #[]) h38 fun (t42 : Bool) (h43 : Hp) =>
cnd t42 (
C_law15_lives  h43 fun (t44 : Bool) (h45 : Hp) =>
K t44 h45) (
K false h43)) (
K false h38))))
def L1_law15_StoreOwn (a2_by : Int) (p25 : Addr) (J2 : Unit → Hp → Prop) (sL1 : (Int × Unit) × Hp) (R1 : (Int × Unit) × Hp → Prop) : Prop :=
ldA .sl sL1.2 (Addr.add p25 1) fun (t46 : Sl) =>
cnd (decide (sL1.1.1 < (t46.len : Int))) (
ldA .sl sL1.2 (Addr.add p25 1) fun (t47 : Sl) =>
idxS t47.a t47.len sL1.1.1 1 fun (p48 : Addr) =>
ldA (.int .i32) sL1.2 p48 fun (t49 : Int) =>
Let (IntKind.wrap .i32 (t49 + a2_by) : Int) fun (t50 : Int) =>
idxS t47.a t47.len sL1.1.1 1 fun (p51 : Addr) =>
((1 : Nat) = 1) ∧ (
stC sL1.2 p51 (
Let (hset sL1.2 p51 (.int .i32 t50)) fun (h52 : Hp) =>
Let (IntKind.wrap .i64 (sL1.1.1 + 1) : Int) fun (t53 : Int) =>
R1 ((t53, ()), h52)))) (
J2 (()) sL1.2)
def J1_law15_StoreOwn (a0_id : Int) (a1_vec : Sl) (a2_by : Int) (K : Bool → Hp → Prop) (t1 : Option Addr) (sJ1 : Unit) (hJ1 : Hp) : Prop :=
C_store_Store_Get t1 a0_id hJ1 fun (t19 : Int) (t20 : Sl) (t21 : ByteArray) (t22 : Bool) (h23 : Hp) =>
Let (Array.push h23 (Obj.cells #[.int .i64 0, .slice none 0 0, .string (ByteArray.mk #[])] 27)) fun (h24 : Hp) =>
Let (Addr.mk (Array.size h23) 0 none) fun (p25 : Addr) =>
stC h24 p25 (
Let (hset h24 p25 (.int .i64 t19)) fun (h26 : Hp) =>
stC h26 (Addr.add p25 1) (
Let (hset h26 (Addr.add p25 1) (.slice t20.a t20.len t20.cap)) fun (h27 : Hp) =>
stC h27 (Addr.add p25 2) (
Let (hset h27 (Addr.add p25 2) (.string t21)) fun (h28 : Hp) =>
Jn (J2_law15_StoreOwn a0_id a1_vec K t1) fun (J2 : Unit → Hp → Prop) =>
∃ n, Lp (L1_law15_StoreOwn a2_by p25 J2) n ((0, ()), h28))))
def L2_law15_StoreOwn (a1_vec : Sl) (a2_by : Int) (p8 : Addr) (J1 : Unit → Hp → Prop) (sL2 : (Int × Unit) × Hp) (R2 : (Int × Unit) × Hp → Prop) : Prop :=
cnd (decide (sL2.1.1 < (a1_vec.len : Int))) (
ldA .sl sL2.2 (Addr.add (Addr.add p8 1) 1) fun (t54 : Sl) =>
idxS t54.a t54.len sL2.1.1 1 fun (p55 : Addr) =>
ldA (.int .i32) sL2.2 p55 fun (t56 : Int) =>
Let (IntKind.wrap .i32 (t56 + a2_by) : Int) fun (t57 : Int) =>
idxS t54.a t54.len sL2.1.1 1 fun (p58 : Addr) =>
((1 : Nat) = 1) ∧ (
stC sL2.2 p58 (
Let (hset sL2.2 p58 (.int .i32 t57)) fun (h59 : Hp) =>
Let (IntKind.wrap .i64 (sL2.1.1 + 1) : Int) fun (t60 : Int) =>
R2 ((t60, ()), h59)))) (
J1 (()) sL2.2)
def F_law15_StoreOwn (a0_id : Int) (a1_vec : Sl) (a2_by : Int) (h : Hp) (K : Bool → Hp → Prop) : Prop :=
C_store_New  h fun (t1 : Option Addr) (h2 : Hp) =>
Let (Array.push h2 (Obj.cells #[] 21)) fun (h3 : Hp) =>
Let (Addr.mk (Array.size h2) 0 none) fun (p4 : Addr) =>
appS 21 1 4 [.int .i32 0] (some p4) 0 0 (.slice a1_vec.a a1_vec.len a1_vec.cap) h3 fun (t5 : Sl) (h6 : Hp) =>
Let (Array.push h6 (Obj.cells #[.int .u64 0, .int .i64 0, .slice none 0 0, .string (ByteArray.mk #[])] 29)) fun (h7 : Hp) =>
Let (Addr.mk (Array.size h6) 0 none) fun (p8 : Addr) =>
stC h7 p8 (
Let (hset h7 p8 (.int .u64 a0_id)) fun (h9 : Hp) =>
stC h9 (Addr.add p8 1) (
Let (hset h9 (Addr.add p8 1) (.int .i64 1)) fun (h10 : Hp) =>
stC h10 (Addr.add p8 2) (
Let (hset h10 (Addr.add p8 2) (.slice t5.a t5.len t5.cap)) fun (h11 : Hp) =>
stC h11 (Addr.add p8 3) (
Let (hset h11 (Addr.add p8 3) (.string (ByteArray.mk #[]))) fun (h12 : Hp) =>
ldA (.int .u64) h12 p8 fun (t13 : Int) =>
ldA (.int .i64) h12 (Addr.add p8 1) fun (t14 : Int) =>
ldA .sl h12 (Addr.add p8 2) fun (t15 : Sl) =>
ldA .str h12 (Addr.add p8 3) fun (t16 : ByteArray) =>
C_store_Store_Put t1 t13 t14 t15 t16 h12 fun (t17 : Int) (h18 : Hp) =>
Jn (J1_law15_StoreOwn a0_id a1_vec a2_by K t1) fun (J1 : Unit → Hp → Prop) =>
∃ n, Lp (L2_law15_StoreOwn a1_vec a2_by p8 J1) n ((0, ()), h18)))))

theorem F_law15_StoreOwn_ok (a0_id : Int) (a1_vec : Sl) (a2_by : Int) (h : Hp) (K : Bool → Hp → Prop) (hF : F_law15_StoreOwn a0_id a1_vec a2_by h K) : C_law15_StoreOwn a0_id a1_vec a2_by h K := by
  have e : bodyVC Try.prog Try.f3 (.seq .no (.seq .no (.seq .no (.seq .no (.join [] (.seq .no (.block (.loop [(9, .at (.int .i64))] (.seq (.seq .no (.cond .no .no)) (.seq (.block .no) .no))))) (.seq .no (.join [] (.seq .no (.block (.loop [(12, .at (.int .i64))] (.seq (.seq .no (.cond .no .no)) (.seq (.block .no) .no))))) (.seq .no (.seq .no .no))))))))) (Option.getD Try.f3.body .skip) [.int .u64 a0_id, .slice a1_vec.a a1_vec.len a1_vec.cap, .int .i32 a2_by] h [.at .bool] (fun s h => K s.1 h) = F_law15_StoreOwn a0_id a1_vec a2_by h K := by kernel_rfl
  exact fun_sound mixed Try.func3 rfl (e.mpr hF)

def J2_law15_StoreEach (h : Hp) (K : Bool → Hp → Prop) (p2 : Addr) (p4 : Addr) (p8 : Addr) (p16 : Addr) (sJ2 : Unit) (hJ2 : Hp) : Prop :=
ldA (.int .i64) hJ2 p16 fun (t18 : Int) =>
ldA .sl hJ2 p8 fun (t19 : Sl) =>
cnd (t18 == (t19.len : Int)) (
C_law15_lives  hJ2 fun (t20 : Bool) (h21 : Hp) =>
((1 : Nat) = 1) ∧ (
stC h21 p4 (
Let (hset h21 p4 (.bool t20)) fun (h22 : Hp) =>
∀ (h23 : Hp), Stp (Array.size h) h22 h23 → (
ldA .bool h23 p4 fun (r24 : Bool) =>
K r24 h23)))) (
ldA (.int .i64) hJ2 p16 fun (t25 : Int) =>
ldA (.int .i64) hJ2 p2 fun (t26 : Int) =>
Let (if 1 > t26 then 1 else t26 : Int) fun (t27 : Int) =>
cnd (t25 == t27) (
C_law15_lives  hJ2 fun (t28 : Bool) (h29 : Hp) =>
((1 : Nat) = 1) ∧ (
stC h29 p4 (
Let (hset h29 p4 (.bool t28)) fun (h30 : Hp) =>
∀ (h31 : Hp), Stp (Array.size h) h30 h31 → (
ldA .bool h31 p4 fun (r32 : Bool) =>
K r32 h31)))) (
((1 : Nat) = 1) ∧ (
stC hJ2 p4 (
Let (hset hJ2 p4 (.bool false)) fun (h33 : Hp) =>
∀ (h34 : Hp), Stp (Array.size h) h33 h34 → (
ldA .bool h34 p4 fun (r35 : Bool) =>
K r35 h34)))))
def J3_law15_StoreEach (p2 : Addr) (p4 : Addr) (p16 : Addr) (Kn38 : Hp → Prop) (Kx39 : Option Nat → Hp → Prop) (h46 : Hp) (sJ3 : Bool × Unit) (hJ3 : Hp) : Prop :=
cnd sJ3.1 (
((1 : Nat) = 1) ∧ (
stC hJ3 p4 (
Let (hset hJ3 p4 (.bool false)) fun (h47 : Hp) =>
RKeep h46 h47 ∧ Kx39 none h47))) (
ldA (.int .i64) hJ3 p16 fun (t48 : Int) =>
Let (IntKind.wrap .i64 (t48 + 1) : Int) fun (t49 : Int) =>
((1 : Nat) = 1) ∧ (
stC hJ3 p16 (
Let (hset hJ3 p16 (.int .i64 t49)) fun (h50 : Hp) =>
ldA (.int .i64) h50 p16 fun (t51 : Int) =>
ldA (.int .i64) h50 p2 fun (t52 : Int) =>
cnd (decide (t51 ≥ t52)) (
RKeep h46 h50 ∧ Kx39 (some 2) h50) (
RKeep h46 h50 ∧ Kn38 h50))))
def J1_law15_StoreEach (h : Hp) (K : Bool → Hp → Prop) (p2 : Addr) (p4 : Addr) (t5 : Option Addr) (p8 : Addr) (sJ1 : Unit) (hJ1 : Hp) : Prop :=
C_store_Store_Each t5 hJ1 fun (t9 : Value) (h10 : Hp) =>
funNil t9 fun (t11 : Bool) =>
cnd t11 (
((1 : Nat) = 1) ∧ (
stC h10 p4 (
Let (hset h10 p4 (.bool false)) fun (h12 : Hp) =>
∀ (h13 : Hp), Stp (Array.size h) h12 h13 → (
ldA .bool h13 p4 fun (r14 : Bool) =>
K r14 h13)))) (
Let (Array.push h10 (Obj.cells #[.int .i64 0] 3)) fun (h15 : Hp) =>
Let (Addr.mk (Array.size h10) 0 none) fun (p16 : Addr) =>
((1 : Nat) = 1) ∧ (
stC h15 p16 (
Let (hset h15 p16 (.int .i64 0)) fun (h17 : Hp) =>
Jn (J2_law15_StoreEach h K p2 p4 p8 p16) fun (J2 : Unit → Hp → Prop) =>
rngF Try.prog t9 (.agg [(.int .u64), (.int .i64), .sl, .str]) h17 (fun (t36 : Int × Int × Sl × ByteArray × Unit) (h37 : Hp) (Kn38 : Hp → Prop) (Kx39 : Option Nat → Hp → Prop) =>
Let (Array.push h37 (Obj.cells #[.int .u64 0, .int .i64 0, .slice none 0 0, .string (ByteArray.mk #[])] 29)) fun (h40 : Hp) =>
Let (Addr.mk (Array.size h37) 0 none) fun (p41 : Addr) =>
stC h40 p41 (
Let (hset h40 p41 (.int .u64 t36.1)) fun (h42 : Hp) =>
stC h42 (Addr.add p41 1) (
Let (hset h42 (Addr.add p41 1) (.int .i64 t36.2.1)) fun (h43 : Hp) =>
stC h43 (Addr.add p41 2) (
Let (hset h43 (Addr.add p41 2) (.slice t36.2.2.1.a t36.2.2.1.len t36.2.2.1.cap)) fun (h44 : Hp) =>
stC h44 (Addr.add p41 3) (
Let (hset h44 (Addr.add p41 3) (.string t36.2.2.2.1)) fun (h45 : Hp) =>
Rb (Array.size h17) h37 h45 fun (h46 : Hp) =>
Jn (J3_law15_StoreEach p2 p4 p16 Kn38 Kx39 h46) fun (J3 : Bool × Unit → Hp → Prop) =>
ldA (.int .i64) h46 p16 fun (t53 : Int) =>
ldA .sl h46 p8 fun (t54 : Sl) =>
cnd (decide (t53 ≥ (t54.len : Int))) (
J3 (true, ()) h46) (
ldA (.int .u64) h46 p41 fun (t55 : Int) =>
ldA .sl h46 p8 fun (t56 : Sl) =>
ldA (.int .i64) h46 p16 fun (t57 : Int) =>
idxS t56.a t56.len t57 4 fun (p58 : Addr) =>
ldA (.int .u64) h46 p58 fun (t59 : Int) =>
cnd (t55 != t59) (
J3 (true, ()) h46) (
ldA (.int .i64) h46 (Addr.add p41 1) fun (t60 : Int) =>
ldA .sl h46 (Addr.add (Addr.add p41 1) 1) fun (t61 : Sl) =>
ldA .str h46 (Addr.add (Addr.add p41 1) 2) fun (t62 : ByteArray) =>
ldA .sl h46 p8 fun (t63 : Sl) =>
ldA (.int .i64) h46 p16 fun (t64 : Int) =>
idxS t63.a t63.len t64 4 fun (p65 : Addr) =>
ldA (.int .i64) h46 (Addr.add p65 1) fun (t66 : Int) =>
ldA .sl h46 (Addr.add (Addr.add p65 1) 1) fun (t67 : Sl) =>
ldA .str h46 (Addr.add (Addr.add p65 1) 2) fun (t68 : ByteArray) =>
C_ref05_Same t60 t61 t62 t66 t67 t68 h46 fun (t69 : Bool) (h70 : Hp) =>
J3 (!t69, ()) h70))))))) (fun (h71 : Hp) =>
J2 (()) h71) (StopL (fun (h72 : Hp) =>
∀ (h73 : Hp), Stp (Array.size h) h72 h73 → (
ldA .bool h73 p4 fun (r74 : Bool) =>
K r74 h73)) [(2, fun (h75 : Hp) =>
J2 (()) h75)]))))
def L1_law15_StoreEach (a0_l : Sl) (t5 : Option Addr) (p8 : Addr) (J1 : Unit → Hp → Prop) (sL1 : (Int × Unit) × Hp) (R1 : (Int × Unit) × Hp → Prop) : Prop :=
cnd (decide (sL1.1.1 < (a0_l.len : Int))) (
idxS a0_l.a a0_l.len sL1.1.1 4 fun (p76 : Addr) =>
ldA (.int .u64) sL1.2 p76 fun (t77 : Int) =>
ldA (.int .i64) sL1.2 (Addr.add p76 1) fun (t78 : Int) =>
ldA .sl sL1.2 (Addr.add p76 2) fun (t79 : Sl) =>
ldA .str sL1.2 (Addr.add p76 3) fun (t80 : ByteArray) =>
C_store_Store_Put t5 t77 t78 t79 t80 sL1.2 fun (t81 : Int) (h82 : Hp) =>
ldA .sl h82 p8 fun (t83 : Sl) =>
idxS a0_l.a a0_l.len sL1.1.1 4 fun (p84 : Addr) =>
ldA (.int .u64) h82 p84 fun (t85 : Int) =>
ldA (.int .i64) h82 (Addr.add p84 1) fun (t86 : Int) =>
ldA .sl h82 (Addr.add p84 2) fun (t87 : Sl) =>
ldA .str h82 (Addr.add p84 3) fun (t88 : ByteArray) =>
C_ref15_Put t83 t85 t86 t87 t88 h82 fun (t89 : Sl) (t90 : Int) (h91 : Hp) =>
((1 : Nat) = 1) ∧ (
stC h91 p8 (
Let (hset h91 p8 (.slice t89.a t89.len t89.cap)) fun (h92 : Hp) =>
Let (IntKind.wrap .i64 (sL1.1.1 + 1) : Int) fun (t93 : Int) =>
R1 ((t93, ()), h92)))) (
J1 (()) sL1.2)
def F_law15_StoreEach (a0_l : Sl) (a1_most : Int) (h : Hp) (K : Bool → Hp → Prop) : Prop :=
Let (Array.push h (Obj.cells #[.int .i64 a1_most] 3)) fun (h1 : Hp) =>
Let (Addr.mk (Array.size h) 0 none) fun (p2 : Addr) =>
Let (Array.push h1 (Obj.cells #[.bool false] 4)) fun (h3 : Hp) =>
Let (Addr.mk (Array.size h1) 0 none) fun (p4 : Addr) =>
C_store_New  h3 fun (t5 : Option Addr) (h6 : Hp) =>
Let (Array.push h6 (Obj.cells #[.slice none 0 0] 37)) fun (h7 : Hp) =>
Let (Addr.mk (Array.size h6) 0 none) fun (p8 : Addr) =>
Jn (J1_law15_StoreEach h K p2 p4 t5 p8) fun (J1 : Unit → Hp → Prop) =>
∃ n, Lp (L1_law15_StoreEach a0_l t5 p8 J1) n ((0, ()), h7)

theorem F_law15_StoreEach_ok (a0_l : Sl) (a1_most : Int) (h : Hp) (K : Bool → Hp → Prop) (hF : F_law15_StoreEach a0_l a1_most h K) : C_law15_StoreEach a0_l a1_most h K := by
  have e : bodyVC Try.prog Try.f4 (.seq .no (.seq .no (.seq .no (.join [] (.seq .no (.block (.loop [(7, .at (.int .i64))] (.seq (.seq .no (.cond .no .no)) (.seq (.block (.seq .no .no)) .no))))) (.seq .no (.seq (.seq .no (.cond (.seq .no .no) .no)) (.seq .no (.join [] (.seq .no (.block (.rng (38, .agg [(.int .u64), (.int .i64), .sl, .str]) .no (.block (.seq (.join [(63, .at .bool)] .no (.cond (.seq .no .no) .no)) (.seq .no (.seq .no (.cond .no .no)))))))) (.seq .no .no))))))))) (Option.getD Try.f4.body .skip) [.slice a0_l.a a0_l.len a0_l.cap, .int .i64 a1_most] h [.at .bool] (fun s h => K s.1 h) = F_law15_StoreEach a0_l a1_most h K := by kernel_rfl
  exact fun_sound mixed Try.func4 rfl (e.mpr hF)

def J1_law15_StoreDoes (K : Bool → Hp → Prop) (t1 : Option Addr) (sL1 : (Sl × Int × Unit) × Hp) (R1 : (Sl × Int × Unit) × Hp → Prop) (t4 : Int) (sJ1 : Sl × Int × Int × Unit) (hJ1 : Hp) : Prop :=
C_store_Store_Get t1 t4 hJ1 fun (t5 : Int) (t6 : Sl) (t7 : ByteArray) (t8 : Bool) (h9 : Hp) =>
Let (Array.push h9 (Obj.cells #[.int .i64 0, .slice none 0 0, .string (ByteArray.mk #[])] 27)) fun (h10 : Hp) =>
Let (Addr.mk (Array.size h9) 0 none) fun (p11 : Addr) =>
stC h10 p11 (
Let (hset h10 p11 (.int .i64 t5)) fun (h12 : Hp) =>
stC h12 (Addr.add p11 1) (
Let (hset h12 (Addr.add p11 1) (.slice t6.a t6.len t6.cap)) fun (h13 : Hp) =>
stC h13 (Addr.add p11 2) (
Let (hset h13 (Addr.add p11 2) (.string t7)) fun (h14 : Hp) =>
C_ref15_Get (Sl.mk sJ1.1.a sJ1.1.len sJ1.1.cap) t4 h14 fun (t15 : Int) (t16 : Sl) (t17 : ByteArray) (t18 : Bool) (h19 : Hp) =>
Let (Array.push h19 (Obj.cells #[.int .i64 0, .slice none 0 0, .string (ByteArray.mk #[])] 27)) fun (h20 : Hp) =>
Let (Addr.mk (Array.size h19) 0 none) fun (p21 : Addr) =>
stC h20 p21 (
Let (hset h20 p21 (.int .i64 t15)) fun (h22 : Hp) =>
stC h22 (Addr.add p21 1) (
Let (hset h22 (Addr.add p21 1) (.slice t16.a t16.len t16.cap)) fun (h23 : Hp) =>
stC h23 (Addr.add p21 2) (
Let (hset h23 (Addr.add p21 2) (.string t17)) fun (h24 : Hp) =>
cnd (sJ1.2.1 != sJ1.2.2.1) (
K false h24) (
cnd (!(t8 == t18)) (
K false h24) (
C_store_Store_Has t1 t4 h24 fun (t25 : Bool) (h26 : Hp) =>
cnd (!(t25 == t18)) (
K false h26) (
ldA (.int .i64) h26 p11 fun (t27 : Int) =>
ldA .sl h26 (Addr.add p11 1) fun (t28 : Sl) =>
ldA .str h26 (Addr.add p11 2) fun (t29 : ByteArray) =>
ldA (.int .i64) h26 p21 fun (t30 : Int) =>
ldA .sl h26 (Addr.add p21 1) fun (t31 : Sl) =>
ldA .str h26 (Addr.add p21 2) fun (t32 : ByteArray) =>
C_ref05_Same t27 t28 t29 t30 t31 t32 h26 fun (t33 : Bool) (h34 : Hp) =>
cnd (!t33) (
K false h34) (
C_store_Store_Len t1 h34 fun (t35 : Int) (h36 : Hp) =>
cnd (t35 != (sJ1.1.len : Int)) (
K false h36) (
C_store_Store_Items t1 h36 fun (t37 : Sl) (h38 : Hp) =>
C_ref15_Same t37 (Sl.mk sJ1.1.a sJ1.1.len sJ1.1.cap) h38 fun (t39 : Bool) (h40 : Hp) =>
cnd (!t39) (
K false h40) (
Let (IntKind.wrap .i64 (sL1.1.2.1 + 1) : Int) fun (t41 : Int) =>
R1 (((Sl.mk sJ1.1.a sJ1.1.len sJ1.1.cap), t41, ()), h40)))))))))))))
def L1_law15_StoreDoes (a0_l : Sl) (K : Bool → Hp → Prop) (t1 : Option Addr) (sL1 : (Sl × Int × Unit) × Hp) (R1 : (Sl × Int × Unit) × Hp → Prop) : Prop :=
cnd (decide (sL1.1.2.1 < (a0_l.len : Int))) (
idxS a0_l.a a0_l.len sL1.1.2.1 5 fun (p3 : Addr) =>
ldA (.int .u64) sL1.2 (Addr.add p3 1) fun (t4 : Int) =>
Jn (J1_law15_StoreDoes K t1 sL1 R1 t4) fun (J1 : Sl × Int × Int × Unit → Hp → Prop) =>
idxS a0_l.a a0_l.len sL1.1.2.1 5 fun (p42 : Addr) =>
ldA .bool sL1.2 p42 fun (t43 : Bool) =>
cnd t43 (
C_store_Store_Cut t1 t4 sL1.2 fun (t44 : Int) (h45 : Hp) =>
C_ref15_Cut (Sl.mk sL1.1.1.a sL1.1.1.len sL1.1.1.cap) t4 h45 fun (t46 : Sl) (t47 : Int) (h48 : Hp) =>
J1 (t46, t44, t47, ()) h48) (
idxS a0_l.a a0_l.len sL1.1.2.1 5 fun (p49 : Addr) =>
ldA (.int .u64) sL1.2 (Addr.add p49 1) fun (t50 : Int) =>
ldA (.int .i64) sL1.2 (Addr.add (Addr.add p49 1) 1) fun (t51 : Int) =>
ldA .sl sL1.2 (Addr.add (Addr.add p49 1) 2) fun (t52 : Sl) =>
ldA .str sL1.2 (Addr.add (Addr.add p49 1) 3) fun (t53 : ByteArray) =>
C_store_Store_Put t1 t50 t51 t52 t53 sL1.2 fun (t54 : Int) (h55 : Hp) =>
idxS a0_l.a a0_l.len sL1.1.2.1 5 fun (p56 : Addr) =>
ldA (.int .u64) h55 (Addr.add p56 1) fun (t57 : Int) =>
ldA (.int .i64) h55 (Addr.add (Addr.add p56 1) 1) fun (t58 : Int) =>
ldA .sl h55 (Addr.add (Addr.add p56 1) 2) fun (t59 : Sl) =>
ldA .str h55 (Addr.add (Addr.add p56 1) 3) fun (t60 : ByteArray) =>
C_ref15_Put (Sl.mk sL1.1.1.a sL1.1.1.len sL1.1.1.cap) t57 t58 t59 t60 h55 fun (t61 : Sl) (t62 : Int) (h63 : Hp) =>
J1 (t61, t54, t62, ()) h63)) (
C_law15_lives  sL1.2 fun (t64 : Bool) (h65 : Hp) =>
K t64 h65)
def F_law15_StoreDoes (a0_l : Sl) (h : Hp) (K : Bool → Hp → Prop) : Prop :=
C_store_New  h fun (t1 : Option Addr) (h2 : Hp) =>
∃ n, Lp (L1_law15_StoreDoes a0_l K t1) n (((Sl.mk none 0 0), 0, ()), h2)

theorem F_law15_StoreDoes_ok (a0_l : Sl) (h : Hp) (K : Bool → Hp → Prop) (hF : F_law15_StoreDoes a0_l h K) : C_law15_StoreDoes a0_l h K := by
  have e : bodyVC Try.prog Try.f5 (.seq .no (.seq .no (.seq .no (.seq (.seq .no (.block (.loop [(4, .at .sl), (5, .at (.int .i64))] (.seq (.seq .no (.cond .no .no)) (.seq (.block (.seq .no (.seq .no (.join [(4, .at .sl), (7, .at (.int .i64)), (8, .at (.int .i64))] (.seq .no (.cond (.seq .no .no) (.seq .no .no))) (.seq .no (.seq .no (.seq .no (.cond (.seq .no .no) .no)))))))) .no))))) (.seq .no .no))))) (Option.getD Try.f5.body .skip) [.slice a0_l.a a0_l.len a0_l.cap] h [.at .bool] (fun s h => K s.1 h) = F_law15_StoreDoes a0_l h K := by kernel_rfl
  exact fun_sound mixed Try.func5 rfl (e.mpr hF)

def J1_law15_StoreNone (h : Hp) (K : Bool → Hp → Prop) (p2 : Addr) (t7 : Bool) (p10 : Addr) (p19 : Addr) (sJ1 : Unit) (hJ1 : Hp) : Prop :=
ldA (.int .u64) hJ1 p2 fun (t21 : Int) =>
ldA (.int .i64) hJ1 (Addr.add p2 1) fun (t22 : Int) =>
ldA .sl hJ1 (Addr.add p2 2) fun (t23 : Sl) =>
ldA .str hJ1 (Addr.add p2 3) fun (t24 : ByteArray) =>
C_store_Store_Put none t21 t22 t23 t24 hJ1 fun (t25 : Int) (h26 : Hp) =>
cnd (t25 == 1) (
ldA (.int .u64) h26 p2 fun (t27 : Int) =>
C_store_Store_Cut none t27 h26 fun (t28 : Int) (h29 : Hp) =>
cnd (t28 == 1) (
cnd (!t7) (
ldA (.int .i64) h29 p10 fun (t30 : Int) =>
ldA .sl h29 (Addr.add p10 1) fun (t31 : Sl) =>
ldA .str h29 (Addr.add p10 2) fun (t32 : ByteArray) =>
C_ref05_Same t30 t31 t32 0 (Sl.mk none 0 0) (ByteArray.mk #[]) h29 fun (t33 : Bool) (h34 : Hp) =>
cnd t33 (
ldA (.int .u64) h34 p2 fun (t35 : Int) =>
C_store_Store_Has none t35 h34 fun (t36 : Bool) (h37 : Hp) =>
cnd (!t36) (
C_store_Store_Len none h37 fun (t38 : Int) (h39 : Hp) =>
cnd (t38 == 0) (
C_store_Store_Items none h39 fun (t40 : Sl) (h41 : Hp) =>
cnd ((t40.len : Int) == 0) (
ldA (.int .i64) h41 p19 fun (t42 : Int) =>
cnd (t42 == 0) (
C_law15_lives  h41 fun (t43 : Bool) (h44 : Hp) =>
∀ (h45 : Hp), Stp (Array.size h) h44 h45 → (
K t43 h45)) (
∀ (h46 : Hp), Stp (Array.size h) h41 h46 → (
K false h46))) (
∀ (h47 : Hp), Stp (Array.size h) h41 h47 → (
K false h47))) (
∀ (h48 : Hp), Stp (Array.size h) h39 h48 → (
K false h48))) (
∀ (h49 : Hp), Stp (Array.size h) h37 h49 → (
K false h49))) (
∀ (h50 : Hp), Stp (Array.size h) h34 h50 → (
K false h50))) (
∀ (h51 : Hp), Stp (Array.size h) h29 h51 → (
K false h51))) (
∀ (h52 : Hp), Stp (Array.size h) h29 h52 → (
K false h52))) (
∀ (h53 : Hp), Stp (Array.size h) h26 h53 → (
K false h53))
def F_law15_StoreNone (a0_x : Int) (a1_x : Int) (a2_x : Sl) (a3_x : ByteArray) (h : Hp) (K : Bool → Hp → Prop) : Prop :=
Let (Array.push h (Obj.cells #[.int .u64 a0_x, .int .i64 a1_x, .slice a2_x.a a2_x.len a2_x.cap, .string a3_x] 29)) fun (h1 : Hp) =>
Let (Addr.mk (Array.size h) 0 none) fun (p2 : Addr) =>
ldA (.int .u64) h1 p2 fun (t3 : Int) =>
C_store_Store_Get none t3 h1 fun (t4 : Int) (t5 : Sl) (t6 : ByteArray) (t7 : Bool) (h8 : Hp) =>
Let (Array.push h8 (Obj.cells #[.int .i64 0, .slice none 0 0, .string (ByteArray.mk #[])] 27)) fun (h9 : Hp) =>
Let (Addr.mk (Array.size h8) 0 none) fun (p10 : Addr) =>
stC h9 p10 (
Let (hset h9 p10 (.int .i64 t4)) fun (h11 : Hp) =>
stC h11 (Addr.add p10 1) (
Let (hset h11 (Addr.add p10 1) (.slice t5.a t5.len t5.cap)) fun (h12 : Hp) =>
stC h12 (Addr.add p10 2) (
Let (hset h12 (Addr.add p10 2) (.string t6)) fun (h13 : Hp) =>
C_store_Store_Each none h13 fun (t14 : Value) (h15 : Hp) =>
funNil t14 fun (t16 : Bool) =>
cnd t16 (
∀ (h17 : Hp), Stp (Array.size h) h15 h17 → (
K false h17)) (
Let (Array.push h15 (Obj.cells #[.int .i64 0] 3)) fun (h18 : Hp) =>
Let (Addr.mk (Array.size h15) 0 none) fun (p19 : Addr) =>
((1 : Nat) = 1) ∧ (
stC h18 p19 (
Let (hset h18 p19 (.int .i64 0)) fun (h20 : Hp) =>
Jn (J1_law15_StoreNone h K p2 t7 p10 p19) fun (J1 : Unit → Hp → Prop) =>
rngF Try.prog t14 (.agg [(.int .u64), (.int .i64), .sl, .str]) h20 (fun (t54 : Int × Int × Sl × ByteArray × Unit) (h55 : Hp) (Kn56 : Hp → Prop) (Kx57 : Option Nat → Hp → Prop) =>
Rb (Array.size h20) h55 h55 fun (h58 : Hp) =>
ldA (.int .i64) h58 p19 fun (t59 : Int) =>
Let (IntKind.wrap .i64 (t59 + 1) : Int) fun (t60 : Int) =>
((1 : Nat) = 1) ∧ (
stC h58 p19 (
Let (hset h58 p19 (.int .i64 t60)) fun (h61 : Hp) =>
RKeep h58 h61 ∧ Kn56 h61))) (fun (h62 : Hp) =>
J1 (()) h62) (StopL (fun (h63 : Hp) =>
∀ (h64 : Hp), Stp (Array.size h) h63 h64 → (
K false h64)) [(0, fun (h65 : Hp) =>
J1 (()) h65)])))))))

theorem F_law15_StoreNone_ok (a0_x : Int) (a1_x : Int) (a2_x : Sl) (a3_x : ByteArray) (h : Hp) (K : Bool → Hp → Prop) (hF : F_law15_StoreNone a0_x a1_x a2_x a3_x h K) : C_law15_StoreNone a0_x a1_x a2_x a3_x h K := by
  have e : bodyVC Try.prog Try.f6 (.seq .no (.seq .no (.seq .no (.seq .no (.seq (.seq .no (.cond (.seq .no .no) .no)) (.seq .no (.join [] (.seq .no (.block (.rng (20, .agg [(.int .u64), (.int .i64), .sl, .str]) .no (.block .no)))) (.seq .no .no)))))))) (Option.getD Try.f6.body .skip) [.agg #[.int .u64 a0_x, .int .i64 a1_x, .slice a2_x.a a2_x.len a2_x.cap, .string a3_x]] h [.at .bool] (fun s h => K s.1 h) = F_law15_StoreNone a0_x a1_x a2_x a3_x h K := by kernel_rfl
  exact fun_sound mixed Try.func6 rfl (e.mpr hF)

def F_store_New  (h : Hp) (K : Option Addr → Hp → Prop) : Prop :=
C_arena_New_api_Object  h fun (t1 : Option Addr) (h2 : Hp) =>
C_direct_New  h2 fun (t3 : Option Addr) (h4 : Hp) =>
Let (Array.push h4 (Obj.cells #[.pointer t1, .pointer t3] 61)) fun (h5 : Hp) =>
Let (Addr.mk (Array.size h4) 0 none) fun (p6 : Addr) =>
K (some p6) h5

theorem F_store_New_ok  (h : Hp) (K : Option Addr → Hp → Prop) (hF : F_store_New  h K) : C_store_New  h K := by
  have e : bodyVC Try.prog Try.f7 (.seq .no (.seq .no .no)) (Option.getD Try.f7.body .skip) [] h [.at .ptr] (fun s h => K s.1 h) = F_store_New  h K := by kernel_rfl
  exact fun_sound mixed Try.func7 rfl (e.mpr hF)

def F_store_Store_Put (a0_s : Option Addr) (a1_x : Int) (a2_x : Int) (a3_x : Sl) (a4_x : ByteArray) (h : Hp) (K : Int → Hp → Prop) : Prop :=
Let (Array.push h (Obj.cells #[.int .u64 a1_x, .int .i64 a2_x, .slice a3_x.a a3_x.len a3_x.cap, .string a4_x] 29)) fun (h1 : Hp) =>
Let (Addr.mk (Array.size h) 0 none) fun (p2 : Addr) =>
cnd (Option.isNone a0_s) (
K 1 h1) (
ldA (.int .u64) h1 p2 fun (t3 : Int) =>
C_store_Store_Has a0_s t3 h1 fun (t4 : Bool) (h5 : Hp) =>
cnd t4 (
K 4 h5) (
∃ (S6 : List Nat),
someA a0_s fun (p7 : Addr) =>
(Addr.block (Addr.add p7 1) ∉ S6) ∧ (
ldA .ptr h5 (Addr.add p7 1) fun (t8 : Option Addr) =>
(Addr.block p2 ∉ S6) ∧ (
ldA (.int .u64) h5 p2 fun (t9 : Int) =>
someA a0_s fun (p10 : Addr) =>
(Addr.block p10 ∉ S6) ∧ (
ldA .ptr h5 p10 fun (t11 : Option Addr) =>
(Addr.block (Addr.add p2 1) ∉ S6) ∧ (
ldA (.int .i64) h5 (Addr.add p2 1) fun (t12 : Int) =>
ldA .sl h5 (Addr.add (Addr.add p2 1) 1) fun (t13 : Sl) =>
ldA .str h5 (Addr.add (Addr.add p2 1) 2) fun (t14 : ByteArray) =>
C_object_Clone t12 t13 t14 h5 fun (t15 : Int) (t16 : Sl) (t17 : ByteArray) (h18 : Hp) =>
ExtS S6 h5 h18 ∧ (
C_arena_Arena_api_Object_Put t11 t15 t16 t17 h18 fun (t19 : Int) (h20 : Hp) =>
ExtS S6 h18 h20 ∧ (
C_direct_Dir_Put t8 t9 t19 h20 fun (t21 : Bool) (h22 : Hp) =>
K 0 h22))))))))

theorem F_store_Store_Put_ok (a0_s : Option Addr) (a1_x : Int) (a2_x : Int) (a3_x : Sl) (a4_x : ByteArray) (h : Hp) (K : Int → Hp → Prop) (hF : F_store_Store_Put a0_s a1_x a2_x a3_x a4_x h K) : C_store_Store_Put a0_s a1_x a2_x a3_x a4_x h K := by
  have e : bodyVC Try.prog Try.f8 (.seq .no (.seq (.block (.seq .no (.cond (.seq .no .no) (.seq .no (.cond (.seq .no .no) .no))))) (.seq .dr (.seq .no .no)))) (Option.getD Try.f8.body .skip) [.pointer a0_s, .agg #[.int .u64 a1_x, .int .i64 a2_x, .slice a3_x.a a3_x.len a3_x.cap, .string a4_x]] h [.at (.int .i64)] (fun s h => K s.1 h) = F_store_Store_Put a0_s a1_x a2_x a3_x a4_x h K := by kernel_rfl
  exact fun_sound mixed Try.func8 rfl (e.mpr hF)

def F_store_Store_Get (a0_s : Option Addr) (a1_id : Int) (h : Hp) (K : Int → Sl → ByteArray → Bool → Hp → Prop) : Prop :=
Let (Array.push h (Obj.cells #[.int .i64 0, .slice none 0 0, .string (ByteArray.mk #[])] 27)) fun (h1 : Hp) =>
Let (Addr.mk (Array.size h) 0 none) fun (p2 : Addr) =>
cnd (Option.isNone a0_s) (
stC h1 p2 (
Let (hset h1 p2 (.int .i64 0)) fun (h3 : Hp) =>
stC h3 (Addr.add p2 1) (
Let (hset h3 (Addr.add p2 1) (.slice none 0 0)) fun (h4 : Hp) =>
stC h4 (Addr.add p2 2) (
Let (hset h4 (Addr.add p2 2) (.string (ByteArray.mk #[]))) fun (h5 : Hp) =>
ldA (.int .i64) h5 p2 fun (r6 : Int) =>
ldA .sl h5 (Addr.add p2 1) fun (r7 : Sl) =>
ldA .str h5 (Addr.add p2 2) fun (r8 : ByteArray) =>
K r6 r7 r8 false h5)))) (
someA a0_s fun (p9 : Addr) =>
ldA .ptr h1 (Addr.add p9 1) fun (t10 : Option Addr) =>
C_direct_Dir_Find t10 a1_id h1 fun (t11 : Int) (t12 : Bool) (h13 : Hp) =>
cnd (!t12) (
stC h13 p2 (
Let (hset h13 p2 (.int .i64 0)) fun (h14 : Hp) =>
stC h14 (Addr.add p2 1) (
Let (hset h14 (Addr.add p2 1) (.slice none 0 0)) fun (h15 : Hp) =>
stC h15 (Addr.add p2 2) (
Let (hset h15 (Addr.add p2 2) (.string (ByteArray.mk #[]))) fun (h16 : Hp) =>
ldA (.int .i64) h16 p2 fun (r17 : Int) =>
ldA .sl h16 (Addr.add p2 1) fun (r18 : Sl) =>
ldA .str h16 (Addr.add p2 2) fun (r19 : ByteArray) =>
K r17 r18 r19 false h16)))) (
someA a0_s fun (p20 : Addr) =>
ldA .ptr h13 p20 fun (t21 : Option Addr) =>
C_arena_Arena_api_Object_Get t21 t11 h13 fun (t22 : Int) (t23 : Sl) (t24 : ByteArray) (t25 : Bool) (h26 : Hp) =>
Let (Array.push h26 (Obj.cells #[.int .i64 0, .slice none 0 0, .string (ByteArray.mk #[])] 27)) fun (h27 : Hp) =>
Let (Addr.mk (Array.size h26) 0 none) fun (p28 : Addr) =>
stC h27 p28 (
Let (hset h27 p28 (.int .i64 t22)) fun (h29 : Hp) =>
stC h29 (Addr.add p28 1) (
Let (hset h29 (Addr.add p28 1) (.slice t23.a t23.len t23.cap)) fun (h30 : Hp) =>
stC h30 (Addr.add p28 2) (
Let (hset h30 (Addr.add p28 2) (.string t24)) fun (h31 : Hp) =>
ldA (.int .i64) h31 p28 fun (t32 : Int) =>
ldA .sl h31 (Addr.add p28 1) fun (t33 : Sl) =>
ldA .str h31 (Addr.add p28 2) fun (t34 : ByteArray) =>
C_object_Clone t32 t33 t34 h31 fun (t35 : Int) (t36 : Sl) (t37 : ByteArray) (h38 : Hp) =>
stC h38 p2 (
Let (hset h38 p2 (.int .i64 t35)) fun (h39 : Hp) =>
stC h39 (Addr.add p2 1) (
Let (hset h39 (Addr.add p2 1) (.slice t36.a t36.len t36.cap)) fun (h40 : Hp) =>
stC h40 (Addr.add p2 2) (
Let (hset h40 (Addr.add p2 2) (.string t37)) fun (h41 : Hp) =>
ldA (.int .i64) h41 p2 fun (r42 : Int) =>
ldA .sl h41 (Addr.add p2 1) fun (r43 : Sl) =>
ldA .str h41 (Addr.add p2 2) fun (r44 : ByteArray) =>
K r42 r43 r44 true h41))))))))

theorem F_store_Store_Get_ok (a0_s : Option Addr) (a1_id : Int) (h : Hp) (K : Int → Sl → ByteArray → Bool → Hp → Prop) (hF : F_store_Store_Get a0_s a1_id h K) : C_store_Store_Get a0_s a1_id h K := by
  have e : bodyVC Try.prog Try.f9 (.seq .no (.seq (.seq .no (.cond (.seq .no .no) .no)) (.seq .no (.seq (.seq .no (.cond (.seq .no .no) .no)) (.seq .no (.seq .no .no)))))) (Option.getD Try.f9.body .skip) [.pointer a0_s, .int .u64 a1_id] h [.agg [(.int .i64), .sl, .str], .at .bool] (fun s h => K s.1.1 s.1.2.1 s.1.2.2.1 s.2.1 h) = F_store_Store_Get a0_s a1_id h K := by kernel_rfl
  exact fun_sound mixed Try.func9 rfl (e.mpr hF)

def F_ref05_Same (a0_x : Int) (a1_x : Sl) (a2_x : ByteArray) (a3_y : Int) (a4_y : Sl) (a5_y : ByteArray) (h : Hp) (K : Bool → Hp → Prop) : Prop :=
Let (Array.push h (Obj.cells #[.int .i64 a0_x, .slice a1_x.a a1_x.len a1_x.cap, .string a2_x] 27)) fun (h1 : Hp) =>
Let (Addr.mk (Array.size h) 0 none) fun (p2 : Addr) =>
Let (Array.push h1 (Obj.cells #[.int .i64 a3_y, .slice a4_y.a a4_y.len a4_y.cap, .string a5_y] 27)) fun (h3 : Hp) =>
Let (Addr.mk (Array.size h1) 0 none) fun (p4 : Addr) =>
ldA (.int .i64) h3 p2 fun (t5 : Int) =>
ldA .sl h3 (Addr.add p2 1) fun (t6 : Sl) =>
ldA .str h3 (Addr.add p2 2) fun (t7 : ByteArray) =>
ldA (.int .i64) h3 p4 fun (t8 : Int) =>
ldA .sl h3 (Addr.add p4 1) fun (t9 : Sl) =>
ldA .str h3 (Addr.add p4 2) fun (t10 : ByteArray) =>
C_ref05_Less t5 t6 t7 t8 t9 t10 h3 fun (t11 : Bool) (h12 : Hp) =>
cnd (!t11) (
ldA (.int .i64) h12 p4 fun (t13 : Int) =>
ldA .sl h12 (Addr.add p4 1) fun (t14 : Sl) =>
ldA .str h12 (Addr.add p4 2) fun (t15 : ByteArray) =>
ldA (.int .i64) h12 p2 fun (t16 : Int) =>
ldA .sl h12 (Addr.add p2 1) fun (t17 : Sl) =>
ldA .str h12 (Addr.add p2 2) fun (t18 : ByteArray) =>
C_ref05_Less t13 t14 t15 t16 t17 t18 h12 fun (t19 : Bool) (h20 : Hp) =>
K (!t19) h20) (
K false h12)

theorem F_ref05_Same_ok (a0_x : Int) (a1_x : Sl) (a2_x : ByteArray) (a3_y : Int) (a4_y : Sl) (a5_y : ByteArray) (h : Hp) (K : Bool → Hp → Prop) (hF : F_ref05_Same a0_x a1_x a2_x a3_y a4_y a5_y h K) : C_ref05_Same a0_x a1_x a2_x a3_y a4_y a5_y h K := by
  have e : bodyVC Try.prog Try.f10 (.seq .no (.seq .no .no)) (Option.getD Try.f10.body .skip) [.agg #[.int .i64 a0_x, .slice a1_x.a a1_x.len a1_x.cap, .string a2_x], .agg #[.int .i64 a3_y, .slice a4_y.a a4_y.len a4_y.cap, .string a5_y]] h [.at .bool] (fun s h => K s.1 h) = F_ref05_Same a0_x a1_x a2_x a3_y a4_y a5_y h K := by kernel_rfl
  exact fun_sound mixed Try.func10 rfl (e.mpr hF)

def F_law15_lives  (h : Hp) (K : Bool → Hp → Prop) : Prop :=
C_store_New  h fun (t1 : Option Addr) (h2 : Hp) =>
Let (Array.push h2 (Obj.cells #[.int .u64 0, .int .i64 0, .slice none 0 0, .string (ByteArray.mk #[])] 29)) fun (h3 : Hp) =>
Let (Addr.mk (Array.size h2) 0 none) fun (p4 : Addr) =>
stC h3 p4 (
Let (hset h3 p4 (.int .u64 3)) fun (h5 : Hp) =>
stC h5 (Addr.add p4 1) (
Let (hset h5 (Addr.add p4 1) (.int .i64 2)) fun (h6 : Hp) =>
stC h6 (Addr.add p4 2) (
Let (hset h6 (Addr.add p4 2) (.slice none 0 0)) fun (h7 : Hp) =>
stC h7 (Addr.add p4 3) (
Let (hset h7 (Addr.add p4 3) (.string (ByteArray.mk #[97]))) fun (h8 : Hp) =>
ldA (.int .u64) h8 p4 fun (t9 : Int) =>
ldA (.int .i64) h8 (Addr.add p4 1) fun (t10 : Int) =>
ldA .sl h8 (Addr.add p4 2) fun (t11 : Sl) =>
ldA .str h8 (Addr.add p4 3) fun (t12 : ByteArray) =>
C_store_Store_Put t1 t9 t10 t11 t12 h8 fun (t13 : Int) (h14 : Hp) =>
cnd (t13 == 0) (
ldA (.int .u64) h14 p4 fun (t15 : Int) =>
ldA (.int .i64) h14 (Addr.add p4 1) fun (t16 : Int) =>
ldA .sl h14 (Addr.add p4 2) fun (t17 : Sl) =>
ldA .str h14 (Addr.add p4 3) fun (t18 : ByteArray) =>
C_store_Store_Put t1 t15 t16 t17 t18 h14 fun (t19 : Int) (h20 : Hp) =>
cnd (t19 == 4) (
C_store_Store_Len t1 h20 fun (t21 : Int) (h22 : Hp) =>
cnd (t21 == 1) (
C_store_Store_Has t1 3 h22 fun (t23 : Bool) (h24 : Hp) =>
K t23 h24) (
K false h22)) (
K false h20)) (
K false h14)))))

theorem F_law15_lives_ok  (h : Hp) (K : Bool → Hp → Prop) (hF : F_law15_lives  h K) : C_law15_lives  h K := by
  have e : bodyVC Try.prog Try.f11 (.seq .no (.seq .no (.seq .no (.seq .no .no)))) (Option.getD Try.f11.body .skip) [] h [.at .bool] (fun s h => K s.1 h) = F_law15_lives  h K := by kernel_rfl
  exact fun_sound mixed Try.func11 rfl (e.mpr hF)

def J1_ref15_Put (K : Sl → Int → Hp → Prop) (p2 : Addr) (sJ1 : Sl × Bool × Unit) (hJ1 : Hp) : Prop :=
cnd (!sJ1.2.1) (
ldA (.int .u64) hJ1 p2 fun (t3 : Int) =>
ldA (.int .i64) hJ1 (Addr.add p2 1) fun (t4 : Int) =>
ldA .sl hJ1 (Addr.add p2 2) fun (t5 : Sl) =>
ldA .str hJ1 (Addr.add p2 3) fun (t6 : ByteArray) =>
Let (Array.push hJ1 (Obj.cells #[.int .u64 t3, .int .i64 t4, .slice t5.a t5.len t5.cap, .string t6] 29)) fun (h7 : Hp) =>
Let (Addr.mk (Array.size hJ1) 0 none) fun (p8 : Addr) =>
appS 29 4 56 [.int .u64 0, .int .i64 0, .slice none 0 0, .string (ByteArray.mk #[])] sJ1.1.a sJ1.1.len sJ1.1.cap (.slice (some p8) 1 1) h7 fun (t9 : Sl) (h10 : Hp) =>
K t9 0 h10) (
K (Sl.mk sJ1.1.a sJ1.1.len sJ1.1.cap) 0 hJ1)
def J2_ref15_Put (a0_l : Sl) (sL1 : (Sl × Bool × Int × Unit) × Hp) (R1 : (Sl × Bool × Int × Unit) × Hp → Prop) (sJ2 : Sl × Bool × Unit) (hJ2 : Hp) : Prop :=
idxS a0_l.a a0_l.len sL1.1.2.2.1 4 fun (p14 : Addr) =>
ldA (.int .u64) hJ2 p14 fun (t15 : Int) =>
ldA (.int .i64) hJ2 (Addr.add p14 1) fun (t16 : Int) =>
ldA .sl hJ2 (Addr.add p14 2) fun (t17 : Sl) =>
ldA .str hJ2 (Addr.add p14 3) fun (t18 : ByteArray) =>
Let (Array.push hJ2 (Obj.cells #[.int .u64 t15, .int .i64 t16, .slice t17.a t17.len t17.cap, .string t18] 29)) fun (h19 : Hp) =>
Let (Addr.mk (Array.size hJ2) 0 none) fun (p20 : Addr) =>
appS 29 4 56 [.int .u64 0, .int .i64 0, .slice none 0 0, .string (ByteArray.mk #[])] sJ2.1.a sJ2.1.len sJ2.1.cap (.slice (some p20) 1 1) h19 fun (t21 : Sl) (h22 : Hp) =>
Let (IntKind.wrap .i64 (sL1.1.2.2.1 + 1) : Int) fun (t23 : Int) =>
R1 ((t21, sJ2.2.1, t23, ()), h22)
def J3_ref15_Put (p2 : Addr) (sL1 : (Sl × Bool × Int × Unit) × Hp) (J2 : Sl × Bool × Unit → Hp → Prop) (sJ3 : Bool × Unit) (hJ3 : Hp) : Prop :=
cnd sJ3.1 (
ldA (.int .u64) hJ3 p2 fun (t24 : Int) =>
ldA (.int .i64) hJ3 (Addr.add p2 1) fun (t25 : Int) =>
ldA .sl hJ3 (Addr.add p2 2) fun (t26 : Sl) =>
ldA .str hJ3 (Addr.add p2 3) fun (t27 : ByteArray) =>
Let (Array.push hJ3 (Obj.cells #[.int .u64 t24, .int .i64 t25, .slice t26.a t26.len t26.cap, .string t27] 29)) fun (h28 : Hp) =>
Let (Addr.mk (Array.size hJ3) 0 none) fun (p29 : Addr) =>
appS 29 4 56 [.int .u64 0, .int .i64 0, .slice none 0 0, .string (ByteArray.mk #[])] sL1.1.1.a sL1.1.1.len sL1.1.1.cap (.slice (some p29) 1 1) h28 fun (t30 : Sl) (h31 : Hp) =>
J2 (t30, true, ()) h31) (
J2 ((Sl.mk sL1.1.1.a sL1.1.1.len sL1.1.1.cap), sL1.1.2.1, ()) hJ3)
def L1_ref15_Put (a0_l : Sl) (K : Sl → Int → Hp → Prop) (p2 : Addr) (J1 : Sl × Bool × Unit → Hp → Prop) (sL1 : (Sl × Bool × Int × Unit) × Hp) (R1 : (Sl × Bool × Int × Unit) × Hp → Prop) : Prop :=
cnd (decide (sL1.1.2.2.1 < (a0_l.len : Int))) (
idxS a0_l.a a0_l.len sL1.1.2.2.1 4 fun (p11 : Addr) =>
ldA (.int .u64) sL1.2 p11 fun (t12 : Int) =>
ldA (.int .u64) sL1.2 p2 fun (t13 : Int) =>
cnd (t12 == t13) (
K a0_l 4 sL1.2) (
Jn (J2_ref15_Put a0_l sL1 R1) fun (J2 : Sl × Bool × Unit → Hp → Prop) =>
Jn (J3_ref15_Put p2 sL1 J2) fun (J3 : Bool × Unit → Hp → Prop) =>
cnd (!sL1.1.2.1) (
ldA (.int .u64) sL1.2 p2 fun (t32 : Int) =>
idxS a0_l.a a0_l.len sL1.1.2.2.1 4 fun (p33 : Addr) =>
ldA (.int .u64) sL1.2 p33 fun (t34 : Int) =>
J3 (decide (t32 < t34), ()) sL1.2) (
J3 (false, ()) sL1.2))) (
J1 ((Sl.mk sL1.1.1.a sL1.1.1.len sL1.1.1.cap), sL1.1.2.1, ()) sL1.2)
def F_ref15_Put (a0_l : Sl) (a1_x : Int) (a2_x : Int) (a3_x : Sl) (a4_x : ByteArray) (h : Hp) (K : Sl → Int → Hp → Prop) : Prop :=
Let (Array.push h (Obj.cells #[.int .u64 a1_x, .int .i64 a2_x, .slice a3_x.a a3_x.len a3_x.cap, .string a4_x] 29)) fun (h1 : Hp) =>
Let (Addr.mk (Array.size h) 0 none) fun (p2 : Addr) =>
Jn (J1_ref15_Put K p2) fun (J1 : Sl × Bool × Unit → Hp → Prop) =>
∃ n, Lp (L1_ref15_Put a0_l K p2 J1) n (((Sl.mk none 0 0), false, 0, ()), h1)

theorem F_ref15_Put_ok (a0_l : Sl) (a1_x : Int) (a2_x : Int) (a3_x : Sl) (a4_x : ByteArray) (h : Hp) (K : Sl → Int → Hp → Prop) (hF : F_ref15_Put a0_l a1_x a2_x a3_x a4_x h K) : C_ref15_Put a0_l a1_x a2_x a3_x a4_x h K := by
  have e : bodyVC Try.prog Try.f12 (.seq .no (.seq .no (.seq .no (.join [(6, .at .sl), (7, .at .bool)] (.seq .no (.block (.loop [(6, .at .sl), (7, .at .bool), (8, .at (.int .i64))] (.seq (.seq .no (.cond .no .no)) (.seq (.block (.seq (.seq .no (.cond (.seq .no .no) .no)) (.join [(6, .at .sl), (7, .at .bool)] (.join [(35, .at .bool)] .no (.cond (.seq .no .no) .no)) .no))) .no))))) (.seq (.seq .no (.cond .no .no)) (.seq .no .no)))))) (Option.getD Try.f12.body .skip) [.slice a0_l.a a0_l.len a0_l.cap, .agg #[.int .u64 a1_x, .int .i64 a2_x, .slice a3_x.a a3_x.len a3_x.cap, .string a4_x]] h [.at .sl, .at (.int .i64)] (fun s h => K s.1 s.2.1 h) = F_ref15_Put a0_l a1_x a2_x a3_x a4_x h K := by kernel_rfl
  exact fun_sound mixed Try.func12 rfl (e.mpr hF)

def F_store_Store_Each (a0_s : Option Addr) (h : Hp) (K : Value → Hp → Prop) : Prop :=
Let (Array.push h (Obj.cells #[.pointer a0_s] 24)) fun (h1 : Hp) =>
Let (Addr.mk (Array.size h) 0 none) fun (p2 : Addr) =>
K (.func (.func 29) #[] #[.pointer (some p2)]) h1

theorem F_store_Store_Each_ok (a0_s : Option Addr) (h : Hp) (K : Value → Hp → Prop) (hF : F_store_Store_Each a0_s h K) : C_store_Store_Each a0_s h K := by
  have e : bodyVC Try.prog Try.f13 (.seq .no (.seq .no .no)) (Option.getD Try.f13.body .skip) [.pointer a0_s] h [.at .raw] (fun s h => K s.1 h) = F_store_Store_Each a0_s h K := by kernel_rfl
  exact fun_sound mixed Try.func13 rfl (e.mpr hF)

def F_store_Store_Cut (a0_s : Option Addr) (a1_id : Int) (h : Hp) (K : Int → Hp → Prop) : Prop :=
cnd (Option.isNone a0_s) (
K 1 h) (
someA a0_s fun (p1 : Addr) =>
ldA .ptr h (Addr.add p1 1) fun (t2 : Option Addr) =>
C_direct_Dir_Find t2 a1_id h fun (t3 : Int) (t4 : Bool) (h5 : Hp) =>
cnd (!t4) (
K 5 h5) (
someA a0_s fun (p6 : Addr) =>
ldA .ptr h5 p6 fun (t7 : Option Addr) =>
C_arena_Arena_api_Object_Cut t7 t3 h5 fun (t8 : Bool) (h9 : Hp) =>
someA a0_s fun (p10 : Addr) =>
ldA .ptr h9 (Addr.add p10 1) fun (t11 : Option Addr) =>
C_direct_Dir_Cut t11 a1_id h9 fun (t12 : Bool) (h13 : Hp) =>
K 0 h13))

theorem F_store_Store_Cut_ok (a0_s : Option Addr) (a1_id : Int) (h : Hp) (K : Int → Hp → Prop) (hF : F_store_Store_Cut a0_s a1_id h K) : C_store_Store_Cut a0_s a1_id h K := by
  have e : bodyVC Try.prog Try.f14 (.seq .no (.seq (.seq .no (.cond (.seq .no .no) .no)) (.seq .no (.seq (.seq .no (.cond (.seq .no .no) .no)) (.seq .no (.seq .no (.seq .no .no))))))) (Option.getD Try.f14.body .skip) [.pointer a0_s, .int .u64 a1_id] h [.at (.int .i64)] (fun s h => K s.1 h) = F_store_Store_Cut a0_s a1_id h K := by kernel_rfl
  exact fun_sound mixed Try.func14 rfl (e.mpr hF)

def J1_ref15_Cut (a0_l : Sl) (K : Sl → Int → Hp → Prop) (sJ1 : Sl × Unit) (hJ1 : Hp) : Prop :=
cnd ((sJ1.1.len : Int) == (a0_l.len : Int)) (
K a0_l 5 hJ1) (
K (Sl.mk sJ1.1.a sJ1.1.len sJ1.1.cap) 0 hJ1)
def L1_ref15_Cut (a0_l : Sl) (a1_id : Int) (J1 : Sl × Unit → Hp → Prop) (sL1 : (Sl × Int × Unit) × Hp) (R1 : (Sl × Int × Unit) × Hp → Prop) : Prop :=
cnd (decide (sL1.1.2.1 < (a0_l.len : Int))) (
idxS a0_l.a a0_l.len sL1.1.2.1 4 fun (p1 : Addr) =>
ldA (.int .u64) sL1.2 p1 fun (t2 : Int) =>
cnd (t2 != a1_id) (
idxS a0_l.a a0_l.len sL1.1.2.1 4 fun (p3 : Addr) =>
ldA (.int .u64) sL1.2 p3 fun (t4 : Int) =>
ldA (.int .i64) sL1.2 (Addr.add p3 1) fun (t5 : Int) =>
ldA .sl sL1.2 (Addr.add p3 2) fun (t6 : Sl) =>
ldA .str sL1.2 (Addr.add p3 3) fun (t7 : ByteArray) =>
Let (Array.push sL1.2 (Obj.cells #[.int .u64 t4, .int .i64 t5, .slice t6.a t6.len t6.cap, .string t7] 29)) fun (h8 : Hp) =>
Let (Addr.mk (Array.size sL1.2) 0 none) fun (p9 : Addr) =>
appS 29 4 56 [.int .u64 0, .int .i64 0, .slice none 0 0, .string (ByteArray.mk #[])] sL1.1.1.a sL1.1.1.len sL1.1.1.cap (.slice (some p9) 1 1) h8 fun (t10 : Sl) (h11 : Hp) =>
Let (IntKind.wrap .i64 (sL1.1.2.1 + 1) : Int) fun (t12 : Int) =>
R1 ((t10, t12, ()), h11)) (
Let (IntKind.wrap .i64 (sL1.1.2.1 + 1) : Int) fun (t13 : Int) =>
R1 (((Sl.mk sL1.1.1.a sL1.1.1.len sL1.1.1.cap), t13, ()), sL1.2))) (
J1 ((Sl.mk sL1.1.1.a sL1.1.1.len sL1.1.1.cap), ()) sL1.2)
def F_ref15_Cut (a0_l : Sl) (a1_id : Int) (h : Hp) (K : Sl → Int → Hp → Prop) : Prop :=
Jn (J1_ref15_Cut a0_l K) fun (J1 : Sl × Unit → Hp → Prop) =>
∃ n, Lp (L1_ref15_Cut a0_l a1_id J1) n (((Sl.mk none 0 0), 0, ()), h)

theorem F_ref15_Cut_ok (a0_l : Sl) (a1_id : Int) (h : Hp) (K : Sl → Int → Hp → Prop) (hF : F_ref15_Cut a0_l a1_id h K) : C_ref15_Cut a0_l a1_id h K := by
  have e : bodyVC Try.prog Try.f15 (.seq .no (.seq .no (.join [(6, .at .sl)] (.seq .no (.block (.loop [(6, .at .sl), (7, .at (.int .i64))] (.seq (.seq .no (.cond .no .no)) (.seq (.block (.seq .no (.cond .no .no))) .no))))) (.seq (.seq .no (.cond (.seq .no .no) .no)) (.seq .no .no))))) (Option.getD Try.f15.body .skip) [.slice a0_l.a a0_l.len a0_l.cap, .int .u64 a1_id] h [.at .sl, .at (.int .i64)] (fun s h => K s.1 s.2.1 h) = F_ref15_Cut a0_l a1_id h K := by kernel_rfl
  exact fun_sound mixed Try.func15 rfl (e.mpr hF)

def L1_ref15_Get (a0_l : Sl) (a1_id : Int) (K : Int → Sl → ByteArray → Bool → Hp → Prop) (p2 : Addr) (sL1 : (Int × Unit) × Hp) (R1 : (Int × Unit) × Hp → Prop) : Prop :=
cnd (decide (sL1.1.1 < (a0_l.len : Int))) (
idxS a0_l.a a0_l.len sL1.1.1 4 fun (p3 : Addr) =>
ldA (.int .u64) sL1.2 p3 fun (t4 : Int) =>
cnd (t4 == a1_id) (
idxS a0_l.a a0_l.len sL1.1.1 4 fun (p5 : Addr) =>
ldA (.int .i64) sL1.2 (Addr.add p5 1) fun (t6 : Int) =>
ldA .sl sL1.2 (Addr.add (Addr.add p5 1) 1) fun (t7 : Sl) =>
ldA .str sL1.2 (Addr.add (Addr.add p5 1) 2) fun (t8 : ByteArray) =>
stC sL1.2 p2 (
Let (hset sL1.2 p2 (.int .i64 t6)) fun (h9 : Hp) =>
stC h9 (Addr.add p2 1) (
Let (hset h9 (Addr.add p2 1) (.slice t7.a t7.len t7.cap)) fun (h10 : Hp) =>
stC h10 (Addr.add p2 2) (
Let (hset h10 (Addr.add p2 2) (.string t8)) fun (h11 : Hp) =>
ldA (.int .i64) h11 p2 fun (r12 : Int) =>
ldA .sl h11 (Addr.add p2 1) fun (r13 : Sl) =>
ldA .str h11 (Addr.add p2 2) fun (r14 : ByteArray) =>
K r12 r13 r14 true h11)))) (
Let (IntKind.wrap .i64 (sL1.1.1 + 1) : Int) fun (t15 : Int) =>
R1 ((t15, ()), sL1.2))) (
stC sL1.2 p2 (
Let (hset sL1.2 p2 (.int .i64 0)) fun (h16 : Hp) =>
stC h16 (Addr.add p2 1) (
Let (hset h16 (Addr.add p2 1) (.slice none 0 0)) fun (h17 : Hp) =>
stC h17 (Addr.add p2 2) (
Let (hset h17 (Addr.add p2 2) (.string (ByteArray.mk #[]))) fun (h18 : Hp) =>
ldA (.int .i64) h18 p2 fun (r19 : Int) =>
ldA .sl h18 (Addr.add p2 1) fun (r20 : Sl) =>
ldA .str h18 (Addr.add p2 2) fun (r21 : ByteArray) =>
K r19 r20 r21 false h18))))
def F_ref15_Get (a0_l : Sl) (a1_id : Int) (h : Hp) (K : Int → Sl → ByteArray → Bool → Hp → Prop) : Prop :=
Let (Array.push h (Obj.cells #[.int .i64 0, .slice none 0 0, .string (ByteArray.mk #[])] 27)) fun (h1 : Hp) =>
Let (Addr.mk (Array.size h) 0 none) fun (p2 : Addr) =>
∃ n, Lp (L1_ref15_Get a0_l a1_id K p2) n ((0, ()), h1)

theorem F_ref15_Get_ok (a0_l : Sl) (a1_id : Int) (h : Hp) (K : Int → Sl → ByteArray → Bool → Hp → Prop) (hF : F_ref15_Get a0_l a1_id h K) : C_ref15_Get a0_l a1_id h K := by
  have e : bodyVC Try.prog Try.f16 (.seq .no (.seq (.seq .no (.block (.loop [(6, .at (.int .i64))] (.seq (.seq .no (.cond .no .no)) (.seq (.block (.seq .no (.cond (.seq .no .no) .no))) .no))))) (.seq .no .no))) (Option.getD Try.f16.body .skip) [.slice a0_l.a a0_l.len a0_l.cap, .int .u64 a1_id] h [.agg [(.int .i64), .sl, .str], .at .bool] (fun s h => K s.1.1 s.1.2.1 s.1.2.2.1 s.2.1 h) = F_ref15_Get a0_l a1_id h K := by kernel_rfl
  exact fun_sound mixed Try.func16 rfl (e.mpr hF)

def F_store_Store_Has (a0_s : Option Addr) (a1_id : Int) (h : Hp) (K : Bool → Hp → Prop) : Prop :=
cnd (Option.isNone a0_s) (
K false h) (
someA a0_s fun (p1 : Addr) =>
ldA .ptr h (Addr.add p1 1) fun (t2 : Option Addr) =>
C_direct_Dir_Find t2 a1_id h fun (t3 : Int) (t4 : Bool) (h5 : Hp) =>
K t4 h5)

theorem F_store_Store_Has_ok (a0_s : Option Addr) (a1_id : Int) (h : Hp) (K : Bool → Hp → Prop) (hF : F_store_Store_Has a0_s a1_id h K) : C_store_Store_Has a0_s a1_id h K := by
  have e : bodyVC Try.prog Try.f17 (.seq .no (.seq (.seq .no (.cond (.seq .no .no) .no)) (.seq .no (.seq .no .no)))) (Option.getD Try.f17.body .skip) [.pointer a0_s, .int .u64 a1_id] h [.at .bool] (fun s h => K s.1 h) = F_store_Store_Has a0_s a1_id h K := by kernel_rfl
  exact fun_sound mixed Try.func17 rfl (e.mpr hF)

def F_store_Store_Len (a0_s : Option Addr) (h : Hp) (K : Int → Hp → Prop) : Prop :=
cnd (Option.isNone a0_s) (
K 0 h) (
someA a0_s fun (p1 : Addr) =>
ldA .ptr h (Addr.add p1 1) fun (t2 : Option Addr) =>
C_direct_Dir_Len t2 h fun (t3 : Int) (h4 : Hp) =>
K t3 h4)

theorem F_store_Store_Len_ok (a0_s : Option Addr) (h : Hp) (K : Int → Hp → Prop) (hF : F_store_Store_Len a0_s h K) : C_store_Store_Len a0_s h K := by
  have e : bodyVC Try.prog Try.f18 (.seq .no (.seq (.seq .no (.cond (.seq .no .no) .no)) (.seq .no .no))) (Option.getD Try.f18.body .skip) [.pointer a0_s] h [.at (.int .i64)] (fun s h => K s.1 h) = F_store_Store_Len a0_s h K := by kernel_rfl
  exact fun_sound mixed Try.func18 rfl (e.mpr hF)

def L1_ref15_Same (a0_a : Sl) (a1_b : Sl) (K : Bool → Hp → Prop) (sL1 : (Int × Unit) × Hp) (R1 : (Int × Unit) × Hp → Prop) : Prop :=
cnd (decide (sL1.1.1 < (a0_a.len : Int))) (
idxS a0_a.a a0_a.len sL1.1.1 4 fun (p1 : Addr) =>
ldA (.int .u64) sL1.2 p1 fun (t2 : Int) =>
idxS a1_b.a a1_b.len sL1.1.1 4 fun (p3 : Addr) =>
ldA (.int .u64) sL1.2 p3 fun (t4 : Int) =>
cnd (t2 != t4) (
K false sL1.2) (
idxS a0_a.a a0_a.len sL1.1.1 4 fun (p5 : Addr) =>
ldA (.int .i64) sL1.2 (Addr.add p5 1) fun (t6 : Int) =>
ldA .sl sL1.2 (Addr.add (Addr.add p5 1) 1) fun (t7 : Sl) =>
ldA .str sL1.2 (Addr.add (Addr.add p5 1) 2) fun (t8 : ByteArray) =>
idxS a1_b.a a1_b.len sL1.1.1 4 fun (p9 : Addr) =>
ldA (.int .i64) sL1.2 (Addr.add p9 1) fun (t10 : Int) =>
ldA .sl sL1.2 (Addr.add (Addr.add p9 1) 1) fun (t11 : Sl) =>
ldA .str sL1.2 (Addr.add (Addr.add p9 1) 2) fun (t12 : ByteArray) =>
C_ref05_Same t6 t7 t8 t10 t11 t12 sL1.2 fun (t13 : Bool) (h14 : Hp) =>
cnd (!t13) (
K false h14) (
Let (IntKind.wrap .i64 (sL1.1.1 + 1) : Int) fun (t15 : Int) =>
R1 ((t15, ()), h14)))) (
K true sL1.2)
def F_ref15_Same (a0_a : Sl) (a1_b : Sl) (h : Hp) (K : Bool → Hp → Prop) : Prop :=
cnd ((a0_a.len : Int) != (a1_b.len : Int)) (
K false h) (
∃ n, Lp (L1_ref15_Same a0_a a1_b K) n ((0, ()), h))

theorem F_ref15_Same_ok (a0_a : Sl) (a1_b : Sl) (h : Hp) (K : Bool → Hp → Prop) (hF : F_ref15_Same a0_a a1_b h K) : C_ref15_Same a0_a a1_b h K := by
  have e : bodyVC Try.prog Try.f19 (.seq .no (.seq (.seq .no (.cond (.seq .no .no) .no)) (.seq (.seq .no (.block (.loop [(5, .at (.int .i64))] (.seq (.seq .no (.cond .no .no)) (.seq (.block (.seq .no (.cond (.seq .no .no) .no))) .no))))) (.seq .no .no)))) (Option.getD Try.f19.body .skip) [.slice a0_a.a a0_a.len a0_a.cap, .slice a1_b.a a1_b.len a1_b.cap] h [.at .bool] (fun s h => K s.1 h) = F_ref15_Same a0_a a1_b h K := by kernel_rfl
  exact fun_sound mixed Try.func19 rfl (e.mpr hF)

def F_store_Store_Items (a0_s : Option Addr) (h : Hp) (K : Sl → Hp → Prop) : Prop :=
Let (Array.push h (Obj.cells #[.slice none 0 0] 37)) fun (h1 : Hp) =>
Let (Addr.mk (Array.size h) 0 none) fun (p2 : Addr) =>
C_store_Store_Each a0_s h1 fun (t3 : Value) (h4 : Hp) =>
rngF Try.prog t3 (.agg [(.int .u64), (.int .i64), .sl, .str]) h4 (fun (t5 : Int × Int × Sl × ByteArray × Unit) (h6 : Hp) (Kn7 : Hp → Prop) (Kx8 : Option Nat → Hp → Prop) =>
Let (Array.push h6 (Obj.cells #[.int .u64 0, .int .i64 0, .slice none 0 0, .string (ByteArray.mk #[])] 29)) fun (h9 : Hp) =>
Let (Addr.mk (Array.size h6) 0 none) fun (p10 : Addr) =>
stC h9 p10 (
Let (hset h9 p10 (.int .u64 t5.1)) fun (h11 : Hp) =>
stC h11 (Addr.add p10 1) (
Let (hset h11 (Addr.add p10 1) (.int .i64 t5.2.1)) fun (h12 : Hp) =>
stC h12 (Addr.add p10 2) (
Let (hset h12 (Addr.add p10 2) (.slice t5.2.2.1.a t5.2.2.1.len t5.2.2.1.cap)) fun (h13 : Hp) =>
stC h13 (Addr.add p10 3) (
Let (hset h13 (Addr.add p10 3) (.string t5.2.2.2.1)) fun (h14 : Hp) =>
Rb (Array.size h4) h6 h14 fun (h15 : Hp) =>
ldA .sl h15 p2 fun (t16 : Sl) =>
ldA (.int .u64) h15 p10 fun (t17 : Int) =>
ldA (.int .i64) h15 (Addr.add p10 1) fun (t18 : Int) =>
ldA .sl h15 (Addr.add p10 2) fun (t19 : Sl) =>
ldA .str h15 (Addr.add p10 3) fun (t20 : ByteArray) =>
Let (Array.push h15 (Obj.cells #[.int .u64 t17, .int .i64 t18, .slice t19.a t19.len t19.cap, .string t20] 29)) fun (h21 : Hp) =>
Let (Addr.mk (Array.size h15) 0 none) fun (p22 : Addr) =>
appS 29 4 56 [.int .u64 0, .int .i64 0, .slice none 0 0, .string (ByteArray.mk #[])] t16.a t16.len t16.cap (.slice (some p22) 1 1) h21 fun (t23 : Sl) (h24 : Hp) =>
((1 : Nat) = 1) ∧ (
stC h24 p2 (
Let (hset h24 p2 (.slice t23.a t23.len t23.cap)) fun (h25 : Hp) =>
RKeep h15 h25 ∧ Kn7 h25))))))) (fun (h26 : Hp) =>
ldA .sl h26 p2 fun (t27 : Sl) =>
∀ (h28 : Hp), Stp (Array.size h) h26 h28 → (
K t27 h28)) (StopL (fun (h29 : Hp) =>
∀ (h30 : Hp), Stp (Array.size h) h29 h30 → (
K (Sl.mk none 0 0) h30)) [(0, fun (h31 : Hp) =>
ldA .sl h31 p2 fun (t32 : Sl) =>
∀ (h33 : Hp), Stp (Array.size h) h31 h33 → (
K t32 h33))])

theorem F_store_Store_Items_ok (a0_s : Option Addr) (h : Hp) (K : Sl → Hp → Prop) (hF : F_store_Store_Items a0_s h K) : C_store_Store_Items a0_s h K := by
  have e : bodyVC Try.prog Try.f20 (.seq .no (.seq .no (.seq (.seq .no (.block (.rng (7, .agg [(.int .u64), (.int .i64), .sl, .str]) .no (.block .no)))) (.seq .no .no)))) (Option.getD Try.f20.body .skip) [.pointer a0_s] h [.at .sl] (fun s h => K s.1 h) = F_store_Store_Items a0_s h K := by kernel_rfl
  exact fun_sound mixed Try.func20 rfl (e.mpr hF)

def F_arena_New_api_Object  (h : Hp) (K : Option Addr → Hp → Prop) : Prop :=
Let (Array.push h (Obj.cells #[.slice none 0 0, .slice none 0 0] 72)) fun (h1 : Hp) =>
Let (Addr.mk (Array.size h) 0 none) fun (p2 : Addr) =>
K (some p2) h1

theorem F_arena_New_api_Object_ok  (h : Hp) (K : Option Addr → Hp → Prop) (hF : F_arena_New_api_Object  h K) : C_arena_New_api_Object  h K := by
  have e : bodyVC Try.prog Try.f21 (.seq .no (.seq .no .no)) (Option.getD Try.f21.body .skip) [] h [.at .ptr] (fun s h => K s.1 h) = F_arena_New_api_Object  h K := by kernel_rfl
  exact fun_sound mixed Try.func21 rfl (e.mpr hF)

def F_direct_New  (h : Hp) (K : Option Addr → Hp → Prop) : Prop :=
Let (Array.push h (Obj.cells #[.slice none 0 0] 75)) fun (h1 : Hp) =>
Let (Addr.mk (Array.size h) 0 none) fun (p2 : Addr) =>
K (some p2) h1

theorem F_direct_New_ok  (h : Hp) (K : Option Addr → Hp → Prop) (hF : F_direct_New  h K) : C_direct_New  h K := by
  have e : bodyVC Try.prog Try.f22 (.seq .no (.seq .no .no)) (Option.getD Try.f22.body .skip) [] h [.at .ptr] (fun s h => K s.1 h) = F_direct_New  h K := by kernel_rfl
  exact fun_sound mixed Try.func22 rfl (e.mpr hF)

def J1_direct_Dir_Put (a0_d : Option Addr) (a1_id : Int) (a2_slot : Int) (K : Bool → Hp → Prop) (t1 : Int) (sJ1 : Unit) (hJ1 : Hp) : Prop :=
someA a0_d fun (p4 : Addr) =>
ldA .sl hJ1 p4 fun (t5 : Sl) =>
Let (Array.push hJ1 (Obj.cells #[.int .u64 a1_id, .int .i64 a2_slot] 78)) fun (h6 : Hp) =>
Let (Addr.mk (Array.size hJ1) 0 none) fun (p7 : Addr) =>
C_slices_Insert_direct_row_direct_row t5 t1 (Sl.mk (some p7) 1 1) h6 fun (t8 : Sl) (h9 : Hp) =>
someA a0_d fun (p10 : Addr) =>
((1 : Nat) = 1) ∧ (
stC h9 p10 (
Let (hset h9 p10 (.slice t8.a t8.len t8.cap)) fun (h11 : Hp) =>
K true h11))
def F_direct_Dir_Put (a0_d : Option Addr) (a1_id : Int) (a2_slot : Int) (h : Hp) (K : Bool → Hp → Prop) : Prop :=
C_direct_Dir_place a0_d a1_id h fun (t1 : Int) (t2 : Bool) (h3 : Hp) =>
Jn (J1_direct_Dir_Put a0_d a1_id a2_slot K t1) fun (J1 : Unit → Hp → Prop) =>
cnd (Option.isNone a0_d) (
K false h3) (
cnd t2 (
K false h3) (
J1 (()) h3))

theorem F_direct_Dir_Put_ok (a0_d : Option Addr) (a1_id : Int) (a2_slot : Int) (h : Hp) (K : Bool → Hp → Prop) (hF : F_direct_Dir_Put a0_d a1_id a2_slot h K) : C_direct_Dir_Put a0_d a1_id a2_slot h K := by
  have e : bodyVC Try.prog Try.f23 (.seq .no (.seq .no (.join [] (.seq .no (.cond (.seq .no .no) .no)) (.seq .no (.seq .no .no))))) (Option.getD Try.f23.body .skip) [.pointer a0_d, .int .u64 a1_id, .int .i64 a2_slot] h [.at .bool] (fun s h => K s.1 h) = F_direct_Dir_Put a0_d a1_id a2_slot h K := by kernel_rfl
  exact fun_sound mixed Try.func23 rfl (e.mpr hF)

def F_arena_Arena_api_Object_Put (a0_a : Option Addr) (a1_x : Int) (a2_x : Sl) (a3_x : ByteArray) (h : Hp) (K : Int → Hp → Prop) : Prop :=
Let (Array.push h (Obj.cells #[.int .i64 a1_x, .slice a2_x.a a2_x.len a2_x.cap, .string a3_x] 27)) fun (h1 : Hp) =>
Let (Addr.mk (Array.size h) 0 none) fun (p2 : Addr) =>
cnd (Option.isNone a0_a) (
K (-1) h1) (
someA a0_a fun (p3 : Addr) =>
ldA .sl h1 (Addr.add p3 1) fun (t4 : Sl) =>
Let (IntKind.wrap .i64 ((t4.len : Int) - 1) : Int) fun (t5 : Int) =>
cnd (decide (t5 < 0)) (
someA a0_a fun (p6 : Addr) =>
ldA .sl h1 p6 fun (t7 : Sl) =>
ldA (.int .i64) h1 p2 fun (t8 : Int) =>
ldA .sl h1 (Addr.add p2 1) fun (t9 : Sl) =>
ldA .str h1 (Addr.add p2 2) fun (t10 : ByteArray) =>
Let (Array.push h1 (Obj.cells #[.bool true, .int .i64 t8, .slice t9.a t9.len t9.cap, .string t10] 80)) fun (h11 : Hp) =>
Let (Addr.mk (Array.size h1) 0 none) fun (p12 : Addr) =>
Ext h1 h11 ∧ (
appS 80 4 56 [.bool false, .int .i64 0, .slice none 0 0, .string (ByteArray.mk #[])] t7.a t7.len t7.cap (.slice (some p12) 1 1) h11 fun (t13 : Sl) (h14 : Hp) =>
someA a0_a fun (p15 : Addr) =>
((1 : Nat) = 1) ∧ (
stC h14 p15 (
Let (hset h14 p15 (.slice t13.a t13.len t13.cap)) fun (h16 : Hp) =>
someA a0_a fun (p17 : Addr) =>
ldA .sl h16 p17 fun (t18 : Sl) =>
Let (IntKind.wrap .i64 ((t18.len : Int) - 1) : Int) fun (t19 : Int) =>
K t19 h16)))) (
someA a0_a fun (p20 : Addr) =>
ldA .sl h1 (Addr.add p20 1) fun (t21 : Sl) =>
idxS t21.a t21.len t5 1 fun (p22 : Addr) =>
ldA (.int .i64) h1 p22 fun (t23 : Int) =>
someA a0_a fun (p24 : Addr) =>
ldA .sl h1 (Addr.add p24 1) fun (t25 : Sl) =>
slc3 t25.a t25.len t25.cap none t5 t5 1 fun (t26 : Option Addr) (l27 c28 : Nat) =>
someA a0_a fun (p29 : Addr) =>
((1 : Nat) = 1) ∧ (
stC h1 (Addr.add p29 1) (
Let (hset h1 (Addr.add p29 1) (.slice t26 l27 c28)) fun (h30 : Hp) =>
someA a0_a fun (p31 : Addr) =>
ldA .sl h30 p31 fun (t32 : Sl) =>
ldA (.int .i64) h30 p2 fun (t33 : Int) =>
ldA .sl h30 (Addr.add p2 1) fun (t34 : Sl) =>
ldA .str h30 (Addr.add p2 2) fun (t35 : ByteArray) =>
idxS t32.a t32.len t23 4 fun (p36 : Addr) =>
stC h30 p36 (
Let (hset h30 p36 (.bool true)) fun (h37 : Hp) =>
stC h37 (Addr.add p36 1) (
Let (hset h37 (Addr.add p36 1) (.int .i64 t33)) fun (h38 : Hp) =>
stC h38 (Addr.add p36 2) (
Let (hset h38 (Addr.add p36 2) (.slice t34.a t34.len t34.cap)) fun (h39 : Hp) =>
stC h39 (Addr.add p36 3) (
Let (hset h39 (Addr.add p36 3) (.string t35)) fun (h40 : Hp) =>
K t23 h40))))))))

theorem F_arena_Arena_api_Object_Put_ok (a0_a : Option Addr) (a1_x : Int) (a2_x : Sl) (a3_x : ByteArray) (h : Hp) (K : Int → Hp → Prop) (hF : F_arena_Arena_api_Object_Put a0_a a1_x a2_x a3_x h K) : C_arena_Arena_api_Object_Put a0_a a1_x a2_x a3_x h K := by
  have e : bodyVC Try.prog Try.f24 (.seq .no (.seq (.seq .no (.cond (.seq .no .no) .no)) (.seq .no (.seq (.seq .no (.cond (.seq .no (.seq .no .no)) .no)) (.seq .no (.seq .no (.seq .no (.seq .no .no)))))))) (Option.getD Try.f24.body .skip) [.pointer a0_a, .agg #[.int .i64 a1_x, .slice a2_x.a a2_x.len a2_x.cap, .string a3_x]] h [.at (.int .i64)] (fun s h => K s.1 h) = F_arena_Arena_api_Object_Put a0_a a1_x a2_x a3_x h K := by kernel_rfl
  exact fun_sound mixed Try.func24 rfl (e.mpr hF)

def F_object_Clone (a0_x : Int) (a1_x : Sl) (a2_x : ByteArray) (h : Hp) (K : Int → Sl → ByteArray → Hp → Prop) : Prop :=
Let (Array.push h (Obj.cells #[.int .i64 a0_x, .slice a1_x.a a1_x.len a1_x.cap, .string a2_x] 27)) fun (h1 : Hp) =>
Let (Addr.mk (Array.size h) 0 none) fun (p2 : Addr) =>
Let (Array.push h1 (Obj.cells #[.int .i64 0, .slice none 0 0, .string (ByteArray.mk #[])] 27)) fun (h3 : Hp) =>
Let (Addr.mk (Array.size h1) 0 none) fun (p4 : Addr) =>
ldA .sl h3 (Addr.add p2 1) fun (t5 : Sl) =>
C_slices_Clone_int32_int32 t5 h3 fun (t6 : Sl) (h7 : Hp) =>
((1 : Nat) = 1) ∧ (
stC h7 (Addr.add p2 1) (
Let (hset h7 (Addr.add p2 1) (.slice t6.a t6.len t6.cap)) fun (h8 : Hp) =>
ldA (.int .i64) h8 p2 fun (t9 : Int) =>
ldA .sl h8 (Addr.add p2 1) fun (t10 : Sl) =>
ldA .str h8 (Addr.add p2 2) fun (t11 : ByteArray) =>
stC h8 p4 (
Let (hset h8 p4 (.int .i64 t9)) fun (h12 : Hp) =>
stC h12 (Addr.add p4 1) (
Let (hset h12 (Addr.add p4 1) (.slice t10.a t10.len t10.cap)) fun (h13 : Hp) =>
stC h13 (Addr.add p4 2) (
Let (hset h13 (Addr.add p4 2) (.string t11)) fun (h14 : Hp) =>
ldA (.int .i64) h14 p4 fun (r15 : Int) =>
ldA .sl h14 (Addr.add p4 1) fun (r16 : Sl) =>
ldA .str h14 (Addr.add p4 2) fun (r17 : ByteArray) =>
K r15 r16 r17 h14)))))

theorem F_object_Clone_ok (a0_x : Int) (a1_x : Sl) (a2_x : ByteArray) (h : Hp) (K : Int → Sl → ByteArray → Hp → Prop) (hF : F_object_Clone a0_x a1_x a2_x h K) : C_object_Clone a0_x a1_x a2_x h K := by
  have e : bodyVC Try.prog Try.f25 (.seq .no (.seq .no (.seq .no .no))) (Option.getD Try.f25.body .skip) [.agg #[.int .i64 a0_x, .slice a1_x.a a1_x.len a1_x.cap, .string a2_x]] h [.agg [(.int .i64), .sl, .str]] (fun s h => K s.1.1 s.1.2.1 s.1.2.2.1 h) = F_object_Clone a0_x a1_x a2_x h K := by kernel_rfl
  exact fun_sound mixed Try.func25 rfl (e.mpr hF)

def F_direct_Dir_Find (a0_d : Option Addr) (a1_id : Int) (h : Hp) (K : Int → Bool → Hp → Prop) : Prop :=
C_direct_Dir_place a0_d a1_id h fun (t1 : Int) (t2 : Bool) (h3 : Hp) =>
cnd (!t2) (
K 0 false h3) (
someA a0_d fun (p4 : Addr) =>
ldA .sl h3 p4 fun (t5 : Sl) =>
idxS t5.a t5.len t1 2 fun (p6 : Addr) =>
ldA (.int .i64) h3 (Addr.add p6 1) fun (t7 : Int) =>
K t7 true h3)

theorem F_direct_Dir_Find_ok (a0_d : Option Addr) (a1_id : Int) (h : Hp) (K : Int → Bool → Hp → Prop) (hF : F_direct_Dir_Find a0_d a1_id h K) : C_direct_Dir_Find a0_d a1_id h K := by
  have e : bodyVC Try.prog Try.f26 (.seq .no (.seq .no (.seq (.seq .no (.cond (.seq .no .no) .no)) (.seq .no .no)))) (Option.getD Try.f26.body .skip) [.pointer a0_d, .int .u64 a1_id] h [.at (.int .i64), .at .bool] (fun s h => K s.1 s.2.1 h) = F_direct_Dir_Find a0_d a1_id h K := by kernel_rfl
  exact fun_sound mixed Try.func26 rfl (e.mpr hF)

def F_arena_Arena_api_Object_Get (a0_a : Option Addr) (a1_i : Int) (h : Hp) (K : Int → Sl → ByteArray → Bool → Hp → Prop) : Prop :=
Let (Array.push h (Obj.cells #[.int .i64 0, .slice none 0 0, .string (ByteArray.mk #[])] 27)) fun (h1 : Hp) =>
Let (Addr.mk (Array.size h) 0 none) fun (p2 : Addr) =>
C_arena_Arena_api_Object_has a0_a a1_i h1 fun (t3 : Bool) (h4 : Hp) =>
cnd (!t3) (
Let (Array.push h4 (Obj.cells #[.int .i64 0, .slice none 0 0, .string (ByteArray.mk #[])] 27)) fun (h5 : Hp) =>
Let (Addr.mk (Array.size h4) 0 none) fun (p6 : Addr) =>
ldA (.int .i64) h5 p6 fun (t7 : Int) =>
ldA .sl h5 (Addr.add p6 1) fun (t8 : Sl) =>
ldA .str h5 (Addr.add p6 2) fun (t9 : ByteArray) =>
stC h5 p2 (
Let (hset h5 p2 (.int .i64 t7)) fun (h10 : Hp) =>
stC h10 (Addr.add p2 1) (
Let (hset h10 (Addr.add p2 1) (.slice t8.a t8.len t8.cap)) fun (h11 : Hp) =>
stC h11 (Addr.add p2 2) (
Let (hset h11 (Addr.add p2 2) (.string t9)) fun (h12 : Hp) =>
ldA (.int .i64) h12 p2 fun (r13 : Int) =>
ldA .sl h12 (Addr.add p2 1) fun (r14 : Sl) =>
ldA .str h12 (Addr.add p2 2) fun (r15 : ByteArray) =>
K r13 r14 r15 false h12)))) (
someA a0_a fun (p16 : Addr) =>
ldA .sl h4 p16 fun (t17 : Sl) =>
idxS t17.a t17.len a1_i 4 fun (p18 : Addr) =>
ldA (.int .i64) h4 (Addr.add p18 1) fun (t19 : Int) =>
ldA .sl h4 (Addr.add (Addr.add p18 1) 1) fun (t20 : Sl) =>
ldA .str h4 (Addr.add (Addr.add p18 1) 2) fun (t21 : ByteArray) =>
stC h4 p2 (
Let (hset h4 p2 (.int .i64 t19)) fun (h22 : Hp) =>
stC h22 (Addr.add p2 1) (
Let (hset h22 (Addr.add p2 1) (.slice t20.a t20.len t20.cap)) fun (h23 : Hp) =>
stC h23 (Addr.add p2 2) (
Let (hset h23 (Addr.add p2 2) (.string t21)) fun (h24 : Hp) =>
ldA (.int .i64) h24 p2 fun (r25 : Int) =>
ldA .sl h24 (Addr.add p2 1) fun (r26 : Sl) =>
ldA .str h24 (Addr.add p2 2) fun (r27 : ByteArray) =>
K r25 r26 r27 true h24))))

theorem F_arena_Arena_api_Object_Get_ok (a0_a : Option Addr) (a1_i : Int) (h : Hp) (K : Int → Sl → ByteArray → Bool → Hp → Prop) (hF : F_arena_Arena_api_Object_Get a0_a a1_i h K) : C_arena_Arena_api_Object_Get a0_a a1_i h K := by
  have e : bodyVC Try.prog Try.f27 (.seq .no (.seq (.seq .no (.cond (.seq .no (.seq .no .no)) .no)) (.seq .no .no))) (Option.getD Try.f27.body .skip) [.pointer a0_a, .int .i64 a1_i] h [.agg [(.int .i64), .sl, .str], .at .bool] (fun s h => K s.1.1 s.1.2.1 s.1.2.2.1 s.2.1 h) = F_arena_Arena_api_Object_Get a0_a a1_i h K := by kernel_rfl
  exact fun_sound mixed Try.func27 rfl (e.mpr hF)

def J1_ref05_Less (K : Bool → Hp → Prop) (p2 : Addr) (p4 : Addr) (sJ1 : Unit) (hJ1 : Hp) : Prop :=
ldA .str hJ1 (Addr.add p2 2) fun (t13 : ByteArray) =>
ldA .str hJ1 (Addr.add p4 2) fun (t14 : ByteArray) =>
K (strLt t13 t14) hJ1
def L1_ref05_Less (K : Bool → Hp → Prop) (p2 : Addr) (p4 : Addr) (J1 : Unit → Hp → Prop) (sL1 : (Int × Unit) × Hp) (R1 : (Int × Unit) × Hp → Prop) : Prop :=
ldA .sl sL1.2 (Addr.add p2 1) fun (t15 : Sl) =>
cnd (decide (sL1.1.1 < (t15.len : Int))) (
ldA .sl sL1.2 (Addr.add p2 1) fun (t16 : Sl) =>
idxS t16.a t16.len sL1.1.1 1 fun (p17 : Addr) =>
ldA (.int .i32) sL1.2 p17 fun (t18 : Int) =>
ldA .sl sL1.2 (Addr.add p4 1) fun (t19 : Sl) =>
idxS t19.a t19.len sL1.1.1 1 fun (p20 : Addr) =>
ldA (.int .i32) sL1.2 p20 fun (t21 : Int) =>
cnd (t18 != t21) (
ldA .sl sL1.2 (Addr.add p2 1) fun (t22 : Sl) =>
idxS t22.a t22.len sL1.1.1 1 fun (p23 : Addr) =>
ldA (.int .i32) sL1.2 p23 fun (t24 : Int) =>
ldA .sl sL1.2 (Addr.add p4 1) fun (t25 : Sl) =>
idxS t25.a t25.len sL1.1.1 1 fun (p26 : Addr) =>
ldA (.int .i32) sL1.2 p26 fun (t27 : Int) =>
K (decide (t24 < t27)) sL1.2) (
Let (IntKind.wrap .i64 (sL1.1.1 + 1) : Int) fun (t28 : Int) =>
R1 ((t28, ()), sL1.2))) (
J1 (()) sL1.2)
def F_ref05_Less (a0_x : Int) (a1_x : Sl) (a2_x : ByteArray) (a3_y : Int) (a4_y : Sl) (a5_y : ByteArray) (h : Hp) (K : Bool → Hp → Prop) : Prop :=
Let (Array.push h (Obj.cells #[.int .i64 a0_x, .slice a1_x.a a1_x.len a1_x.cap, .string a2_x] 27)) fun (h1 : Hp) =>
Let (Addr.mk (Array.size h) 0 none) fun (p2 : Addr) =>
Let (Array.push h1 (Obj.cells #[.int .i64 a3_y, .slice a4_y.a a4_y.len a4_y.cap, .string a5_y] 27)) fun (h3 : Hp) =>
Let (Addr.mk (Array.size h1) 0 none) fun (p4 : Addr) =>
ldA (.int .i64) h3 p2 fun (t5 : Int) =>
ldA (.int .i64) h3 p4 fun (t6 : Int) =>
cnd (t5 != t6) (
ldA (.int .i64) h3 p2 fun (t7 : Int) =>
ldA (.int .i64) h3 p4 fun (t8 : Int) =>
K (decide (t7 < t8)) h3) (
ldA .sl h3 (Addr.add p2 1) fun (t9 : Sl) =>
ldA .sl h3 (Addr.add p4 1) fun (t10 : Sl) =>
cnd ((t9.len : Int) != (t10.len : Int)) (
ldA .sl h3 (Addr.add p2 1) fun (t11 : Sl) =>
ldA .sl h3 (Addr.add p4 1) fun (t12 : Sl) =>
K (decide ((t11.len : Int) < (t12.len : Int))) h3) (
Jn (J1_ref05_Less K p2 p4) fun (J1 : Unit → Hp → Prop) =>
∃ n, Lp (L1_ref05_Less K p2 p4 J1) n ((0, ()), h3)))

theorem F_ref05_Less_ok (a0_x : Int) (a1_x : Sl) (a2_x : ByteArray) (a3_y : Int) (a4_y : Sl) (a5_y : ByteArray) (h : Hp) (K : Bool → Hp → Prop) (hF : F_ref05_Less a0_x a1_x a2_x a3_y a4_y a5_y h K) : C_ref05_Less a0_x a1_x a2_x a3_y a4_y a5_y h K := by
  have e : bodyVC Try.prog Try.f28 (.seq .no (.seq (.seq .no (.cond (.seq .no .no) .no)) (.seq (.seq .no (.cond (.seq .no .no) .no)) (.join [] (.seq .no (.block (.loop [(5, .at (.int .i64))] (.seq (.seq .no (.cond .no .no)) (.seq (.block (.seq .no (.cond (.seq .no .no) .no))) .no))))) (.seq .no .no))))) (Option.getD Try.f28.body .skip) [.agg #[.int .i64 a0_x, .slice a1_x.a a1_x.len a1_x.cap, .string a2_x], .agg #[.int .i64 a3_y, .slice a4_y.a a4_y.len a4_y.cap, .string a5_y]] h [.at .bool] (fun s h => K s.1 h) = F_ref05_Less a0_x a1_x a2_x a3_y a4_y a5_y h K := by kernel_rfl
  exact fun_sound mixed Try.func28 rfl (e.mpr hF)

def L1_store_Store_Each_1 (a0_yield : Value) (K : Hp → Prop) (t3 : Sl) (sL1 : (Int × Unit) × Hp) (R1 : (Int × Unit) × Hp → Prop) : Prop :=
cnd (decide (sL1.1.1 < (t3.len : Int))) (
idxS t3.a t3.len sL1.1.1 4 fun (p5 : Addr) =>
ldA (.int .u64) sL1.2 p5 fun (t6 : Int) =>
ldA (.int .i64) sL1.2 (Addr.add p5 1) fun (t7 : Int) =>
ldA .sl sL1.2 (Addr.add p5 2) fun (t8 : Sl) =>
ldA .str sL1.2 (Addr.add p5 3) fun (t9 : ByteArray) =>
Let (Array.push sL1.2 (Obj.cells #[.int .u64 0, .int .i64 0, .slice none 0 0, .string (ByteArray.mk #[])] 29)) fun (h10 : Hp) =>
Let (Addr.mk (Array.size sL1.2) 0 none) fun (p11 : Addr) =>
stC h10 p11 (
Let (hset h10 p11 (.int .u64 t6)) fun (h12 : Hp) =>
stC h12 (Addr.add p11 1) (
Let (hset h12 (Addr.add p11 1) (.int .i64 t7)) fun (h13 : Hp) =>
stC h13 (Addr.add p11 2) (
Let (hset h13 (Addr.add p11 2) (.slice t8.a t8.len t8.cap)) fun (h14 : Hp) =>
stC h14 (Addr.add p11 3) (
Let (hset h14 (Addr.add p11 3) (.string t9)) fun (h15 : Hp) =>
ldA (.int .u64) h15 p11 fun (t16 : Int) =>
ldA (.int .i64) h15 (Addr.add p11 1) fun (t17 : Int) =>
ldA .sl h15 (Addr.add p11 2) fun (t18 : Sl) =>
ldA .str h15 (Addr.add p11 3) fun (t19 : ByteArray) =>
callV Try.prog a0_yield [.agg #[.int .u64 t16, .int .i64 t17, .slice t18.a t18.len t18.cap, .string t19]] [.at .bool] h15 fun (s : Bool × Unit) (h21 : Hp) =>
cnd (!s.1) (
K h21) (
Let (IntKind.wrap .i64 (sL1.1.1 + 1) : Int) fun (t22 : Int) =>
R1 ((t22, ()), h21))))))) (
K sL1.2)
def F_store_Store_Each_1 (a0_yield : Value) (a1_t : Option Addr) (h : Hp) (K : Hp → Prop) : Prop :=
someA a1_t fun (p1 : Addr) =>
ldA .ptr h p1 fun (t2 : Option Addr) =>
C_store_Store_all t2 h fun (t3 : Sl) (h4 : Hp) =>
∃ n, Lp (L1_store_Store_Each_1 a0_yield K t3) n ((0, ()), h4)

theorem F_store_Store_Each_1_ok (a0_yield : Value) (a1_t : Option Addr) (h : Hp) (K : Hp → Prop) (hF : F_store_Store_Each_1 a0_yield a1_t h K) : C_store_Store_Each_1 a0_yield a1_t h K := by
  have e : bodyVC Try.prog Try.f29 (.seq .no (.block (.loop [(8, .at (.int .i64))] (.seq .no (.seq (.cond .no .no) (.seq (.block (.seq .no (.seq .no (.cond .no .no)))) .no)))))) (Option.getD Try.f29.body .skip) [a0_yield, .pointer a1_t] h [] (fun s h => K h) = F_store_Store_Each_1 a0_yield a1_t h K := by kernel_rfl
  exact fun_sound mixed Try.func29 rfl (e.mpr hF)

def L1_store_Store_all (a0_s : Option Addr) (K : Sl → Hp → Prop) (t3 : Sl) (sL1 : (Sl × Int × Unit) × Hp) (R1 : (Sl × Int × Unit) × Hp → Prop) : Prop :=
cnd (decide (sL1.1.2.1 < (t3.len : Int))) (
idxS t3.a t3.len sL1.1.2.1 1 fun (p5 : Addr) =>
ldA (.int .u64) sL1.2 p5 fun (t6 : Int) =>
C_store_Store_Get a0_s t6 sL1.2 fun (t7 : Int) (t8 : Sl) (t9 : ByteArray) (t10 : Bool) (h11 : Hp) =>
Let (Array.push h11 (Obj.cells #[.int .i64 0, .slice none 0 0, .string (ByteArray.mk #[])] 27)) fun (h12 : Hp) =>
Let (Addr.mk (Array.size h11) 0 none) fun (p13 : Addr) =>
stC h12 p13 (
Let (hset h12 p13 (.int .i64 t7)) fun (h14 : Hp) =>
stC h14 (Addr.add p13 1) (
Let (hset h14 (Addr.add p13 1) (.slice t8.a t8.len t8.cap)) fun (h15 : Hp) =>
stC h15 (Addr.add p13 2) (
Let (hset h15 (Addr.add p13 2) (.string t9)) fun (h16 : Hp) =>
ldA (.int .i64) h16 p13 fun (t17 : Int) =>
ldA .sl h16 (Addr.add p13 1) fun (t18 : Sl) =>
ldA .str h16 (Addr.add p13 2) fun (t19 : ByteArray) =>
Let (Array.push h16 (Obj.cells #[.int .u64 t6, .int .i64 t17, .slice t18.a t18.len t18.cap, .string t19] 29)) fun (h20 : Hp) =>
Let (Addr.mk (Array.size h16) 0 none) fun (p21 : Addr) =>
appS 29 4 56 [.int .u64 0, .int .i64 0, .slice none 0 0, .string (ByteArray.mk #[])] sL1.1.1.a sL1.1.1.len sL1.1.1.cap (.slice (some p21) 1 1) h20 fun (t22 : Sl) (h23 : Hp) =>
Let (IntKind.wrap .i64 (sL1.1.2.1 + 1) : Int) fun (t24 : Int) =>
R1 ((t22, t24, ()), h23))))) (
K (Sl.mk sL1.1.1.a sL1.1.1.len sL1.1.1.cap) sL1.2)
def F_store_Store_all (a0_s : Option Addr) (h : Hp) (K : Sl → Hp → Prop) : Prop :=
cnd (Option.isNone a0_s) (
K (Sl.mk none 0 0) h) (
someA a0_s fun (p1 : Addr) =>
ldA .ptr h (Addr.add p1 1) fun (t2 : Option Addr) =>
C_direct_Dir_Ids t2 h fun (t3 : Sl) (h4 : Hp) =>
∃ n, Lp (L1_store_Store_all a0_s K t3) n (((Sl.mk none 0 0), 0, ()), h4))

theorem F_store_Store_all_ok (a0_s : Option Addr) (h : Hp) (K : Sl → Hp → Prop) (hF : F_store_Store_all a0_s h K) : C_store_Store_all a0_s h K := by
  have e : bodyVC Try.prog Try.f30 (.seq .no (.seq (.seq .no (.cond (.seq .no .no) .no)) (.seq .no (.seq (.seq .no (.block (.loop [(3, .at .sl), (16, .at (.int .i64))] (.seq .no (.seq (.cond .no .no) (.seq (.block (.seq .no (.seq .no .no))) .no)))))) (.seq .no .no))))) (Option.getD Try.f30.body .skip) [.pointer a0_s] h [.at .sl] (fun s h => K s.1 h) = F_store_Store_all a0_s h K := by kernel_rfl
  exact fun_sound mixed Try.func30 rfl (e.mpr hF)

def F_arena_Arena_api_Object_Cut (a0_a : Option Addr) (a1_i : Int) (h : Hp) (K : Bool → Hp → Prop) : Prop :=
C_arena_Arena_api_Object_has a0_a a1_i h fun (t1 : Bool) (h2 : Hp) =>
cnd (!t1) (
K false h2) (
someA a0_a fun (p3 : Addr) =>
ldA .sl h2 p3 fun (t4 : Sl) =>
idxS t4.a t4.len a1_i 4 fun (p5 : Addr) =>
stC h2 p5 (
Let (hset h2 p5 (.bool false)) fun (h6 : Hp) =>
stC h6 (Addr.add p5 1) (
Let (hset h6 (Addr.add p5 1) (.int .i64 0)) fun (h7 : Hp) =>
stC h7 (Addr.add p5 2) (
Let (hset h7 (Addr.add p5 2) (.slice none 0 0)) fun (h8 : Hp) =>
stC h8 (Addr.add p5 3) (
Let (hset h8 (Addr.add p5 3) (.string (ByteArray.mk #[]))) fun (h9 : Hp) =>
someA a0_a fun (p10 : Addr) =>
ldA .sl h9 (Addr.add p10 1) fun (t11 : Sl) =>
Let (Array.push h9 (Obj.cells #[.int .i64 a1_i] 3)) fun (h12 : Hp) =>
Let (Addr.mk (Array.size h9) 0 none) fun (p13 : Addr) =>
appS 3 1 8 [.int .i64 0] t11.a t11.len t11.cap (.slice (some p13) 1 1) h12 fun (t14 : Sl) (h15 : Hp) =>
someA a0_a fun (p16 : Addr) =>
((1 : Nat) = 1) ∧ (
stC h15 (Addr.add p16 1) (
Let (hset h15 (Addr.add p16 1) (.slice t14.a t14.len t14.cap)) fun (h17 : Hp) =>
K true h17)))))))

theorem F_arena_Arena_api_Object_Cut_ok (a0_a : Option Addr) (a1_i : Int) (h : Hp) (K : Bool → Hp → Prop) (hF : F_arena_Arena_api_Object_Cut a0_a a1_i h K) : C_arena_Arena_api_Object_Cut a0_a a1_i h K := by
  have e : bodyVC Try.prog Try.f31 (.seq .no (.seq (.seq .no (.cond (.seq .no .no) .no)) (.seq .no (.seq .no (.seq .no .no))))) (Option.getD Try.f31.body .skip) [.pointer a0_a, .int .i64 a1_i] h [.at .bool] (fun s h => K s.1 h) = F_arena_Arena_api_Object_Cut a0_a a1_i h K := by kernel_rfl
  exact fun_sound mixed Try.func31 rfl (e.mpr hF)

def F_direct_Dir_Cut (a0_d : Option Addr) (a1_id : Int) (h : Hp) (K : Bool → Hp → Prop) : Prop :=
C_direct_Dir_place a0_d a1_id h fun (t1 : Int) (t2 : Bool) (h3 : Hp) =>
cnd t2 (
someA a0_d fun (p4 : Addr) =>
ldA .sl h3 p4 fun (t5 : Sl) =>
Let (IntKind.wrap .i64 (t1 + 1) : Int) fun (t6 : Int) =>
C_slices_Delete_direct_row_direct_row t5 t1 t6 h3 fun (t7 : Sl) (h8 : Hp) =>
someA a0_d fun (p9 : Addr) =>
((1 : Nat) = 1) ∧ (
stC h8 p9 (
Let (hset h8 p9 (.slice t7.a t7.len t7.cap)) fun (h10 : Hp) =>
K t2 h10))) (
K t2 h3)

theorem F_direct_Dir_Cut_ok (a0_d : Option Addr) (a1_id : Int) (h : Hp) (K : Bool → Hp → Prop) (hF : F_direct_Dir_Cut a0_d a1_id h K) : C_direct_Dir_Cut a0_d a1_id h K := by
  have e : bodyVC Try.prog Try.f32 (.seq .no (.seq .no (.seq (.seq .no (.cond .no .no)) (.seq .no .no)))) (Option.getD Try.f32.body .skip) [.pointer a0_d, .int .u64 a1_id] h [.at .bool] (fun s h => K s.1 h) = F_direct_Dir_Cut a0_d a1_id h K := by kernel_rfl
  exact fun_sound mixed Try.func32 rfl (e.mpr hF)

def F_direct_Dir_Len (a0_d : Option Addr) (h : Hp) (K : Int → Hp → Prop) : Prop :=
cnd (Option.isNone a0_d) (
K 0 h) (
someA a0_d fun (p1 : Addr) =>
ldA .sl h p1 fun (t2 : Sl) =>
K (t2.len : Int) h)

theorem F_direct_Dir_Len_ok (a0_d : Option Addr) (h : Hp) (K : Int → Hp → Prop) (hF : F_direct_Dir_Len a0_d h K) : C_direct_Dir_Len a0_d h K := by
  have e : bodyVC Try.prog Try.f33 (.seq .no (.seq (.seq .no (.cond (.seq .no .no) .no)) (.seq .no .no))) (Option.getD Try.f33.body .skip) [.pointer a0_d] h [.at (.int .i64)] (fun s h => K s.1 h) = F_direct_Dir_Len a0_d h K := by kernel_rfl
  exact fun_sound mixed Try.func33 rfl (e.mpr hF)

def F_direct_Dir_place (a0_d : Option Addr) (a1_id : Int) (h : Hp) (K : Int → Bool → Hp → Prop) : Prop :=
cnd (Option.isNone a0_d) (
K 0 false h) (
someA a0_d fun (p1 : Addr) =>
ldA .sl h p1 fun (t2 : Sl) =>
C_slices_BinarySearchFunc_direct_row_direct_row_uint64 t2 a1_id (.func (.func 41) #[] #[]) h fun (t3 : Int) (t4 : Bool) (h5 : Hp) =>
K t3 t4 h5)

theorem F_direct_Dir_place_ok (a0_d : Option Addr) (a1_id : Int) (h : Hp) (K : Int → Bool → Hp → Prop) (hF : F_direct_Dir_place a0_d a1_id h K) : C_direct_Dir_place a0_d a1_id h K := by
  have e : bodyVC Try.prog Try.f34 (.seq .no (.seq (.seq .no (.cond (.seq .no .no) .no)) (.seq .no .no))) (Option.getD Try.f34.body .skip) [.pointer a0_d, .int .u64 a1_id] h [.at (.int .i64), .at .bool] (fun s h => K s.1 s.2.1 h) = F_direct_Dir_place a0_d a1_id h K := by kernel_rfl
  exact fun_sound mixed Try.func34 rfl (e.mpr hF)

def F_slices_Insert_direct_row_direct_row (a0_s : Sl) (a1_i : Int) (a2_v : Sl) (h : Hp) (K : Sl → Hp → Prop) : Prop :=
slcS a0_s.a a0_s.len a0_s.cap (some a1_i) none 2 fun (t1 : Option Addr) (l2 c3 : Nat) =>
cnd ((a2_v.len : Int) == 0) (
K a0_s h) (
cnd (a1_i == (a0_s.len : Int)) (
appS 78 2 16 [.int .u64 0, .int .i64 0] a0_s.a a0_s.len a0_s.cap (.slice a2_v.a a2_v.len a2_v.cap) h fun (t4 : Sl) (h5 : Hp) =>
K t4 h5) (
Let (IntKind.wrap .i64 ((a0_s.len : Int) + (a2_v.len : Int)) : Int) fun (t6 : Int) =>
cnd (decide (t6 > (a0_s.cap : Int))) (
slcS a0_s.a a0_s.len a0_s.cap none (some a1_i) 2 fun (t7 : Option Addr) (l8 c9 : Nat) =>
Let (IntKind.wrap .i64 ((a0_s.len : Int) + (a2_v.len : Int)) : Int) fun (t10 : Int) =>
Let (IntKind.wrap .i64 (t10 - a1_i) : Int) fun (t11 : Int) =>
appZ 78 2 16 [.int .u64 0, .int .i64 0] t7 l8 c9 t11 h fun (t12 : Sl) (h13 : Hp) =>
slcS t12.a t12.len t12.cap (some a1_i) none 2 fun (t14 : Option Addr) (l15 c16 : Nat) =>
cpS 2 t14 l15 (.slice a2_v.a a2_v.len a2_v.cap) h13 fun (t17 : Nat) (h18 : Hp) =>
Let (IntKind.wrap .i64 (a1_i + (a2_v.len : Int)) : Int) fun (t19 : Int) =>
slcS t12.a t12.len t12.cap (some t19) none 2 fun (t20 : Option Addr) (l21 c22 : Nat) =>
slcS a0_s.a a0_s.len a0_s.cap (some a1_i) none 2 fun (t23 : Option Addr) (l24 c25 : Nat) =>
cpS 2 t20 l21 (.slice t23 l24 c25) h18 fun (t26 : Nat) (h27 : Hp) =>
K t12 h27) (
Let (IntKind.wrap .i64 ((a0_s.len : Int) + (a2_v.len : Int)) : Int) fun (t28 : Int) =>
slcS a0_s.a a0_s.len a0_s.cap none (some t28) 2 fun (t29 : Option Addr) (l30 c31 : Nat) =>
Let (IntKind.wrap .i64 (a1_i + (a2_v.len : Int)) : Int) fun (t32 : Int) =>
slcS t29 l30 c31 (some t32) none 2 fun (t33 : Option Addr) (l34 c35 : Nat) =>
C_slices_overlaps_direct_row a2_v (Sl.mk t33 l34 c35) h fun (t36 : Bool) (h37 : Hp) =>
cnd (!t36) (
Let (IntKind.wrap .i64 (a1_i + (a2_v.len : Int)) : Int) fun (t38 : Int) =>
slcS t29 l30 c31 (some t38) none 2 fun (t39 : Option Addr) (l40 c41 : Nat) =>
slcS t29 l30 c31 (some a1_i) none 2 fun (t42 : Option Addr) (l43 c44 : Nat) =>
cpS 2 t39 l40 (.slice t42 l43 c44) h37 fun (t45 : Nat) (h46 : Hp) =>
slcS t29 l30 c31 (some a1_i) none 2 fun (t47 : Option Addr) (l48 c49 : Nat) =>
cpS 2 t47 l48 (.slice a2_v.a a2_v.len a2_v.cap) h46 fun (t50 : Nat) (h51 : Hp) =>
K (Sl.mk t29 l30 c31) h51) (
slcS t29 l30 c31 (some (a0_s.len : Int)) none 2 fun (t52 : Option Addr) (l53 c54 : Nat) =>
cpS 2 t52 l53 (.slice a2_v.a a2_v.len a2_v.cap) h37 fun (t55 : Nat) (h56 : Hp) =>
slcS t29 l30 c31 (some a1_i) none 2 fun (t57 : Option Addr) (l58 c59 : Nat) =>
C_slices_rotateRight_direct_row (Sl.mk t57 l58 c59) (a2_v.len : Int) h56 fun  (h60 : Hp) =>
K (Sl.mk t29 l30 c31) h60))))

theorem F_slices_Insert_direct_row_direct_row_ok (a0_s : Sl) (a1_i : Int) (a2_v : Sl) (h : Hp) (K : Sl → Hp → Prop) (hF : F_slices_Insert_direct_row_direct_row a0_s a1_i a2_v h K) : C_slices_Insert_direct_row_direct_row a0_s a1_i a2_v h K := by
  have e : bodyVC Try.prog Try.f35 (.seq .no (.seq .no (.seq .no (.seq (.seq .no (.cond (.seq .no .no) .no)) (.seq .no (.seq (.seq .no (.cond (.seq .no .no) .no)) (.seq (.seq .no (.cond (.seq .no (.seq .no (.seq .no (.seq .no .no)))) .no)) (.seq .no (.seq (.seq .no (.cond (.seq .no (.seq .no (.seq .no .no))) .no)) (.seq .no (.seq .no (.seq .no .no)))))))))))) (Option.getD Try.f35.body .skip) [.slice a0_s.a a0_s.len a0_s.cap, .int .i64 a1_i, .slice a2_v.a a2_v.len a2_v.cap] h [.at .sl] (fun s h => K s.1 h) = F_slices_Insert_direct_row_direct_row a0_s a1_i a2_v h K := by kernel_rfl
  exact fun_sound mixed Try.func35 rfl (e.mpr hF)

def F_slices_Clone_int32_int32 (a0_s : Sl) (h : Hp) (K : Sl → Hp → Prop) : Prop :=
cnd (Option.isNone a0_s.a) (
K (Sl.mk none 0 0) h) (
Let (Array.push h (Obj.cells #[] 21)) fun (h1 : Hp) =>
Let (Addr.mk (Array.size h) 0 none) fun (p2 : Addr) =>
appS 21 1 4 [.int .i32 0] (some p2) 0 0 (.slice a0_s.a a0_s.len a0_s.cap) h1 fun (t3 : Sl) (h4 : Hp) =>
K t3 h4)

theorem F_slices_Clone_int32_int32_ok (a0_s : Sl) (h : Hp) (K : Sl → Hp → Prop) (hF : F_slices_Clone_int32_int32 a0_s h K) : C_slices_Clone_int32_int32 a0_s h K := by
  have e : bodyVC Try.prog Try.f36 (.seq .no (.seq (.seq .no (.cond (.seq .no .no) .no)) (.seq .no .no))) (Option.getD Try.f36.body .skip) [.slice a0_s.a a0_s.len a0_s.cap] h [.at .sl] (fun s h => K s.1 h) = F_slices_Clone_int32_int32 a0_s h K := by kernel_rfl
  exact fun_sound mixed Try.func36 rfl (e.mpr hF)

def F_arena_Arena_api_Object_has (a0_a : Option Addr) (a1_i : Int) (h : Hp) (K : Bool → Hp → Prop) : Prop :=
cnd (!(Option.isNone a0_a)) (
cnd (decide (a1_i ≥ 0)) (
someA a0_a fun (p1 : Addr) =>
ldA .sl h p1 fun (t2 : Sl) =>
cnd (decide (a1_i < (t2.len : Int))) (
someA a0_a fun (p3 : Addr) =>
ldA .sl h p3 fun (t4 : Sl) =>
idxS t4.a t4.len a1_i 4 fun (p5 : Addr) =>
ldA .bool h p5 fun (t6 : Bool) =>
K t6 h) (
K false h)) (
K false h)) (
K false h)

theorem F_arena_Arena_api_Object_has_ok (a0_a : Option Addr) (a1_i : Int) (h : Hp) (K : Bool → Hp → Prop) (hF : F_arena_Arena_api_Object_has a0_a a1_i h K) : C_arena_Arena_api_Object_has a0_a a1_i h K := by
  have e : bodyVC Try.prog Try.f37 (.seq .no (.seq .no .no)) (Option.getD Try.f37.body .skip) [.pointer a0_a, .int .i64 a1_i] h [.at .bool] (fun s h => K s.1 h) = F_arena_Arena_api_Object_has a0_a a1_i h K := by kernel_rfl
  exact fun_sound mixed Try.func37 rfl (e.mpr hF)

def L1_direct_Dir_Ids (a0_d : Option Addr) (K : Sl → Hp → Prop) (t1 : Int) (sL1 : (Sl × Int × Unit) × Hp) (R1 : (Sl × Int × Unit) × Hp → Prop) : Prop :=
cnd (decide (sL1.1.2.1 < t1)) (
someA a0_d fun (p3 : Addr) =>
ldA .sl sL1.2 p3 fun (t4 : Sl) =>
idxS t4.a t4.len sL1.1.2.1 2 fun (p5 : Addr) =>
ldA (.int .u64) sL1.2 p5 fun (t6 : Int) =>
Let (Array.push sL1.2 (Obj.cells #[.int .u64 t6] 22)) fun (h7 : Hp) =>
Let (Addr.mk (Array.size sL1.2) 0 none) fun (p8 : Addr) =>
appS 22 1 8 [.int .u64 0] sL1.1.1.a sL1.1.1.len sL1.1.1.cap (.slice (some p8) 1 1) h7 fun (t9 : Sl) (h10 : Hp) =>
Let (IntKind.wrap .i64 (sL1.1.2.1 + 1) : Int) fun (t11 : Int) =>
R1 ((t9, t11, ()), h10)) (
K (Sl.mk sL1.1.1.a sL1.1.1.len sL1.1.1.cap) sL1.2)
def F_direct_Dir_Ids (a0_d : Option Addr) (h : Hp) (K : Sl → Hp → Prop) : Prop :=
C_direct_Dir_Len a0_d h fun (t1 : Int) (h2 : Hp) =>
∃ n, Lp (L1_direct_Dir_Ids a0_d K t1) n (((Sl.mk none 0 0), 0, ()), h2)

theorem F_direct_Dir_Ids_ok (a0_d : Option Addr) (h : Hp) (K : Sl → Hp → Prop) (hF : F_direct_Dir_Ids a0_d h K) : C_direct_Dir_Ids a0_d h K := by
  have e : bodyVC Try.prog Try.f38 (.seq .no (.seq .no (.seq (.seq .no (.block (.loop [(3, .at .sl), (7, .at (.int .i64))] (.seq .no (.seq (.cond .no .no) (.seq (.block (.seq .no .no)) .no)))))) (.seq .no .no)))) (Option.getD Try.f38.body .skip) [.pointer a0_d] h [.at .sl] (fun s h => K s.1 h) = F_direct_Dir_Ids a0_d h K := by kernel_rfl
  exact fun_sound mixed Try.func38 rfl (e.mpr hF)

def F_slices_Delete_direct_row_direct_row (a0_s : Sl) (a1_i : Int) (a2_j : Int) (h : Hp) (K : Sl → Hp → Prop) : Prop :=
slc3 a0_s.a a0_s.len a0_s.cap (some a1_i) a2_j (a0_s.len : Int) 2 fun (t1 : Option Addr) (l2 c3 : Nat) =>
cnd (a1_i == a2_j) (
K a0_s h) (
slcS a0_s.a a0_s.len a0_s.cap none (some a1_i) 2 fun (t4 : Option Addr) (l5 c6 : Nat) =>
slcS a0_s.a a0_s.len a0_s.cap (some a2_j) none 2 fun (t7 : Option Addr) (l8 c9 : Nat) =>
appS 78 2 16 [.int .u64 0, .int .i64 0] t4 l5 c6 (.slice t7 l8 c9) h fun (t10 : Sl) (h11 : Hp) =>
slcS t10.a t10.len t10.cap (some (t10.len : Int)) (some (a0_s.len : Int)) 2 fun (t12 : Option Addr) (l13 c14 : Nat) =>
smU Try.prog (Builtin.clear_ #[73] 0 #[.slice t12 l13 c14]) h11 fun (h15 : Hp) =>
K t10 h15)

theorem F_slices_Delete_direct_row_direct_row_ok (a0_s : Sl) (a1_i : Int) (a2_j : Int) (h : Hp) (K : Sl → Hp → Prop) (hF : F_slices_Delete_direct_row_direct_row a0_s a1_i a2_j h K) : C_slices_Delete_direct_row_direct_row a0_s a1_i a2_j h K := by
  have e : bodyVC Try.prog Try.f39 (.seq .no (.seq .no (.seq (.seq .no (.cond (.seq .no .no) .no)) (.seq .no (.seq .no (.seq .no (.seq .no .no))))))) (Option.getD Try.f39.body .skip) [.slice a0_s.a a0_s.len a0_s.cap, .int .i64 a1_i, .int .i64 a2_j] h [.at .sl] (fun s h => K s.1 h) = F_slices_Delete_direct_row_direct_row a0_s a1_i a2_j h K := by kernel_rfl
  exact fun_sound mixed Try.func39 rfl (e.mpr hF)

def J1_slices_BinarySearchFunc_direct_row_direct_row_uint64 (a0_x : Sl) (a1_target : Int) (a2_cmp : Value) (K : Int → Bool → Hp → Prop) (sJ1 : Int × Unit) (hJ1 : Hp) : Prop :=
cnd (decide (sJ1.1 < (a0_x.len : Int))) (
idxS a0_x.a a0_x.len sJ1.1 2 fun (p1 : Addr) =>
ldA (.int .u64) hJ1 p1 fun (t2 : Int) =>
ldA (.int .i64) hJ1 (Addr.add p1 1) fun (t3 : Int) =>
callV Try.prog a2_cmp [.agg #[.int .u64 t2, .int .i64 t3], .int .u64 a1_target] [.at (.int .i64)] hJ1 fun (s : Int × Unit) (h5 : Hp) =>
K sJ1.1 (s.1 == 0) h5) (
K sJ1.1 false hJ1)
def L1_slices_BinarySearchFunc_direct_row_direct_row_uint64 (a0_x : Sl) (a1_target : Int) (a2_cmp : Value) (J1 : Int × Unit → Hp → Prop) (sL1 : (Int × Int × Unit) × Hp) (R1 : (Int × Int × Unit) × Hp → Prop) : Prop :=
cnd (decide (sL1.1.1 < sL1.1.2.1)) (
Let (IntKind.wrap .i64 (sL1.1.1 + sL1.1.2.1) : Int) fun (t6 : Int) =>
Let (IntKind.wrap .u64 (t6) : Int) fun (t7 : Int) =>
((0 : Int) ≤ 1) ∧ (
Let (Int.fdiv t7 (2 ^ min (Int.toNat 1) (IntKind.bits .u64)) : Int) fun (t8 : Int) =>
Let (IntKind.wrap .i64 (t8) : Int) fun (t9 : Int) =>
idxS a0_x.a a0_x.len t9 2 fun (p10 : Addr) =>
ldA (.int .u64) sL1.2 p10 fun (t11 : Int) =>
ldA (.int .i64) sL1.2 (Addr.add p10 1) fun (t12 : Int) =>
callV Try.prog a2_cmp [.agg #[.int .u64 t11, .int .i64 t12], .int .u64 a1_target] [.at (.int .i64)] sL1.2 fun (s : Int × Unit) (h14 : Hp) =>
cnd (decide (s.1 < 0)) (
Let (IntKind.wrap .i64 (t9 + 1) : Int) fun (t15 : Int) =>
R1 ((t15, sL1.1.2.1, ()), h14)) (
R1 ((sL1.1.1, t9, ()), h14)))) (
J1 (sL1.1.1, ()) sL1.2)
def F_slices_BinarySearchFunc_direct_row_direct_row_uint64 (a0_x : Sl) (a1_target : Int) (a2_cmp : Value) (h : Hp) (K : Int → Bool → Hp → Prop) : Prop :=
Jn (J1_slices_BinarySearchFunc_direct_row_direct_row_uint64 a0_x a1_target a2_cmp K) fun (J1 : Int × Unit → Hp → Prop) =>
∃ n, Lp (L1_slices_BinarySearchFunc_direct_row_direct_row_uint64 a0_x a1_target a2_cmp J1) n ((0, (a0_x.len : Int), ()), h)

theorem F_slices_BinarySearchFunc_direct_row_direct_row_uint64_ok (a0_x : Sl) (a1_target : Int) (a2_cmp : Value) (h : Hp) (K : Int → Bool → Hp → Prop) (hF : F_slices_BinarySearchFunc_direct_row_direct_row_uint64 a0_x a1_target a2_cmp h K) : C_slices_BinarySearchFunc_direct_row_direct_row_uint64 a0_x a1_target a2_cmp h K := by
  have e : bodyVC Try.prog Try.f40 (.seq .no (.seq .no (.seq .no (.join [(9, .at (.int .i64))] (.block (.loop [(9, .at (.int .i64)), (10, .at (.int .i64))] (.seq (.seq .no (.cond .no .no)) (.block (.seq .no (.seq .no (.cond .no .no))))))) (.seq .no .no))))) (Option.getD Try.f40.body .skip) [.slice a0_x.a a0_x.len a0_x.cap, .int .u64 a1_target, a2_cmp] h [.at (.int .i64), .at .bool] (fun s h => K s.1 s.2.1 h) = F_slices_BinarySearchFunc_direct_row_direct_row_uint64 a0_x a1_target a2_cmp h K := by kernel_rfl
  exact fun_sound mixed Try.func40 rfl (e.mpr hF)

def F_direct_Dir_place_1 (a0_r : Int) (a1_r : Int) (a2_id : Int) (h : Hp) (K : Int → Hp → Prop) : Prop :=
Let (Array.push h (Obj.cells #[.int .u64 a0_r, .int .i64 a1_r] 78)) fun (h1 : Hp) =>
Let (Addr.mk (Array.size h) 0 none) fun (p2 : Addr) =>
ldA (.int .u64) h1 p2 fun (t3 : Int) =>
C_cmp_Compare_uint64 t3 a2_id h1 fun (t4 : Int) (h5 : Hp) =>
K t4 h5

theorem F_direct_Dir_place_1_ok (a0_r : Int) (a1_r : Int) (a2_id : Int) (h : Hp) (K : Int → Hp → Prop) (hF : F_direct_Dir_place_1 a0_r a1_r a2_id h K) : C_direct_Dir_place_1 a0_r a1_r a2_id h K := by
  have e : bodyVC Try.prog Try.f41 (.seq .no (.seq .no .no)) (Option.getD Try.f41.body .skip) [.agg #[.int .u64 a0_r, .int .i64 a1_r], .int .u64 a2_id] h [.at (.int .i64)] (fun s h => K s.1 h) = F_direct_Dir_place_1 a0_r a1_r a2_id h K := by kernel_rfl
  exact fun_sound mixed Try.func41 rfl (e.mpr hF)

def F_cmp_Compare_uint64 (a0_x : Int) (a1_y : Int) (h : Hp) (K : Int → Hp → Prop) : Prop :=
C_cmp_isNaN_uint64 a0_x h fun (t1 : Bool) (h2 : Hp) =>
C_cmp_isNaN_uint64 a1_y h2 fun (t3 : Bool) (h4 : Hp) =>
cnd t1 (
cnd t3 (
K 0 h4) (
K (-1) h4)) (
cnd t3 (
K 1 h4) (
cnd (decide (a0_x < a1_y)) (
K (-1) h4) (
cnd (decide (a0_x > a1_y)) (
K 1 h4) (
K 0 h4))))

theorem F_cmp_Compare_uint64_ok (a0_x : Int) (a1_y : Int) (h : Hp) (K : Int → Hp → Prop) (hF : F_cmp_Compare_uint64 a0_x a1_y h K) : C_cmp_Compare_uint64 a0_x a1_y h K := by
  have e : bodyVC Try.prog Try.f42 (.seq .no (.seq .no (.seq .no (.seq (.seq .no (.cond (.seq (.seq .no (.cond (.seq .no .no) .no)) (.seq .no .no)) .no)) (.seq (.seq .no (.cond (.seq .no .no) .no)) (.seq (.seq .no (.cond (.seq .no .no) .no)) (.seq (.seq .no (.cond (.seq .no .no) .no)) (.seq .no .no)))))))) (Option.getD Try.f42.body .skip) [.int .u64 a0_x, .int .u64 a1_y] h [.at (.int .i64)] (fun s h => K s.1 h) = F_cmp_Compare_uint64 a0_x a1_y h K := by kernel_rfl
  exact fun_sound mixed Try.func42 rfl (e.mpr hF)

def F_slices_rotateRight_direct_row (a0_s : Sl) (a1_r : Int) (h : Hp) (K : Hp → Prop) : Prop :=
Let (IntKind.wrap .i64 ((a0_s.len : Int) - a1_r) : Int) fun (t1 : Int) =>
C_slices_rotateLeft_direct_row a0_s t1 h fun  (h2 : Hp) =>
K h2

theorem F_slices_rotateRight_direct_row_ok (a0_s : Sl) (a1_r : Int) (h : Hp) (K : Hp → Prop) (hF : F_slices_rotateRight_direct_row a0_s a1_r h K) : C_slices_rotateRight_direct_row a0_s a1_r h K := by
  have e : bodyVC Try.prog Try.f44 .no (Option.getD Try.f44.body .skip) [.slice a0_s.a a0_s.len a0_s.cap, .int .i64 a1_r] h [] (fun s h => K h) = F_slices_rotateRight_direct_row a0_s a1_r h K := by kernel_rfl
  exact fun_sound mixed Try.func44 rfl (e.mpr hF)

def F_cmp_isNaN_uint64 (a0_x : Int) (h : Hp) (K : Bool → Hp → Prop) : Prop :=
K (a0_x != a0_x) h

theorem F_cmp_isNaN_uint64_ok (a0_x : Int) (h : Hp) (K : Bool → Hp → Prop) (hF : F_cmp_isNaN_uint64 a0_x h K) : C_cmp_isNaN_uint64 a0_x h K := by
  have e : bodyVC Try.prog Try.f45 (.seq .no (.seq .no .no)) (Option.getD Try.f45.body .skip) [.int .u64 a0_x] h [.at .bool] (fun s h => K s.1 h) = F_cmp_isNaN_uint64 a0_x h K := by kernel_rfl
  exact fun_sound mixed Try.func45 rfl (e.mpr hF)

def F_slices_rotateLeft_direct_row (a0_s : Sl) (a1_r : Int) (h : Hp) (K : Hp → Prop) : Prop :=
slcS a0_s.a a0_s.len a0_s.cap none (some a1_r) 2 fun (t1 : Option Addr) (l2 c3 : Nat) =>
C_slices_Reverse_direct_row_direct_row (Sl.mk t1 l2 c3) h fun  (h4 : Hp) =>
slcS a0_s.a a0_s.len a0_s.cap (some a1_r) none 2 fun (t5 : Option Addr) (l6 c7 : Nat) =>
C_slices_Reverse_direct_row_direct_row (Sl.mk t5 l6 c7) h4 fun  (h8 : Hp) =>
C_slices_Reverse_direct_row_direct_row a0_s h8 fun  (h9 : Hp) =>
K h9

theorem F_slices_rotateLeft_direct_row_ok (a0_s : Sl) (a1_r : Int) (h : Hp) (K : Hp → Prop) (hF : F_slices_rotateLeft_direct_row a0_s a1_r h K) : C_slices_rotateLeft_direct_row a0_s a1_r h K := by
  have e : bodyVC Try.prog Try.f46 (.seq .no (.seq .no .no)) (Option.getD Try.f46.body .skip) [.slice a0_s.a a0_s.len a0_s.cap, .int .i64 a1_r] h [] (fun s h => K h) = F_slices_rotateLeft_direct_row a0_s a1_r h K := by kernel_rfl
  exact fun_sound mixed Try.func46 rfl (e.mpr hF)

def L1_slices_Reverse_direct_row_direct_row (a0_s : Sl) (K : Hp → Prop) (sL1 : (Int × Int × Unit) × Hp) (R1 : (Int × Int × Unit) × Hp → Prop) : Prop :=
cnd (decide (sL1.1.1 < sL1.1.2.1)) (
idxS a0_s.a a0_s.len sL1.1.2.1 2 fun (p2 : Addr) =>
ldA (.int .u64) sL1.2 p2 fun (t3 : Int) =>
ldA (.int .i64) sL1.2 (Addr.add p2 1) fun (t4 : Int) =>
idxS a0_s.a a0_s.len sL1.1.1 2 fun (p5 : Addr) =>
ldA (.int .u64) sL1.2 p5 fun (t6 : Int) =>
ldA (.int .i64) sL1.2 (Addr.add p5 1) fun (t7 : Int) =>
idxS a0_s.a a0_s.len sL1.1.1 2 fun (p8 : Addr) =>
stC sL1.2 p8 (
Let (hset sL1.2 p8 (.int .u64 t3)) fun (h9 : Hp) =>
stC h9 (Addr.add p8 1) (
Let (hset h9 (Addr.add p8 1) (.int .i64 t4)) fun (h10 : Hp) =>
idxS a0_s.a a0_s.len sL1.1.2.1 2 fun (p11 : Addr) =>
stC h10 p11 (
Let (hset h10 p11 (.int .u64 t6)) fun (h12 : Hp) =>
stC h12 (Addr.add p11 1) (
Let (hset h12 (Addr.add p11 1) (.int .i64 t7)) fun (h13 : Hp) =>
Let (IntKind.wrap .i64 (sL1.1.1 + 1) : Int) fun (t14 : Int) =>
Let (IntKind.wrap .i64 (sL1.1.2.1 - 1) : Int) fun (t15 : Int) =>
R1 ((t14, t15, ()), h13)))))) (
K sL1.2)
def F_slices_Reverse_direct_row_direct_row (a0_s : Sl) (h : Hp) (K : Hp → Prop) : Prop :=
Let (IntKind.wrap .i64 ((a0_s.len : Int) - 1) : Int) fun (t1 : Int) =>
∃ n, Lp (L1_slices_Reverse_direct_row_direct_row a0_s K) n ((0, t1, ()), h)

theorem F_slices_Reverse_direct_row_direct_row_ok (a0_s : Sl) (h : Hp) (K : Hp → Prop) (hF : F_slices_Reverse_direct_row_direct_row a0_s h K) : C_slices_Reverse_direct_row_direct_row a0_s h K := by
  have e : bodyVC Try.prog Try.f47 (.seq .no (.block (.loop [(2, .at (.int .i64)), (3, .at (.int .i64))] (.seq (.seq .no (.cond .no .no)) (.seq (.block .no) .no))))) (Option.getD Try.f47.body .skip) [.slice a0_s.a a0_s.len a0_s.cap] h [] (fun s h => K h) = F_slices_Reverse_direct_row_direct_row a0_s h K := by kernel_rfl
  exact fun_sound mixed Try.func47 rfl (e.mpr hF)

end Go.Proofs.YthnkmmnipihkeaaF
