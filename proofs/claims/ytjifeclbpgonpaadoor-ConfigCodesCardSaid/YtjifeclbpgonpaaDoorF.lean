/- The formulas of the seat's functions and the proofs that they are enough, printed by gen.py of this session. No condition. -/
import Derived.Test.YtjifeclbpgonpaaDoorProg
import Derived.Test.YtjifeclbpgonpaaDoorK7
namespace Go.Proofs.YtjifeclbpgonpaaDoorF
open Go Go.Proofs.YtjifeclbpgonpaaDoorK Go.Proofs
set_option linter.unusedVariables false
set_option maxRecDepth 100000
theorem mixed : Tryd.prog.follows .mixedOrders = true := by kernel_rfl
def C_gosem_cut  (h : Hp) (K : Hp → Prop) : Prop :=
  ExtT Tryd.prog 1 [] [] h fun s h => K h
def C_gosem_cut_init  (h : Hp) (K : Hp → Prop) : Prop :=
  CallT Tryd.prog 2 [] [] h fun s h => K h
def C_law28_ConfigCodes (a0_c : Int) (a1_c : Int) (a2_c : Int) (a3_c : Int) (a4_c : Int) (a5_c : Int) (a6_c : Int) (a7_c : Int) (a8_b : Sl) (h : Hp) (K : Bool → Hp → Prop) : Prop :=
  CallT Tryd.prog 3 [.agg #[.int .i64 a0_c, .int .i64 a1_c, .int .i64 a2_c, .int .i64 a3_c, .int .i64 a4_c, .int .i64 a5_c, .int .i64 a6_c, .int .i64 a7_c], .slice a8_b.a a8_b.len a8_b.cap] [.at .bool] h fun s h => K s.1 h
def C_law28_ConfigBack (a0_c : Int) (a1_c : Int) (a2_c : Int) (a3_c : Int) (a4_c : Int) (a5_c : Int) (a6_c : Int) (a7_c : Int) (h : Hp) (K : Bool → Hp → Prop) : Prop :=
  CallT Tryd.prog 4 [.agg #[.int .i64 a0_c, .int .i64 a1_c, .int .i64 a2_c, .int .i64 a3_c, .int .i64 a4_c, .int .i64 a5_c, .int .i64 a6_c, .int .i64 a7_c]] [.at .bool] h fun s h => K s.1 h
def C_code_NewWriter  (h : Hp) (K : Option Addr → Hp → Prop) : Prop :=
  CallT Tryd.prog 5 [] [.at .ptr] h fun s h => K s.1 h
def C_config_Put (a0_w : Option Addr) (a1_c : Int) (a2_c : Int) (a3_c : Int) (a4_c : Int) (a5_c : Int) (a6_c : Int) (a7_c : Int) (a8_c : Int) (h : Hp) (K : Hp → Prop) : Prop :=
  CallT Tryd.prog 6 [.pointer a0_w, .agg #[.int .i64 a1_c, .int .i64 a2_c, .int .i64 a3_c, .int .i64 a4_c, .int .i64 a5_c, .int .i64 a6_c, .int .i64 a7_c, .int .i64 a8_c]] [] h fun s h => K h
def C_ref28_Fields (a0_c : Int) (a1_c : Int) (a2_c : Int) (a3_c : Int) (a4_c : Int) (a5_c : Int) (a6_c : Int) (a7_c : Int) (h : Hp) (K : Sl → Sl → Sl → Sl → Hp → Prop) : Prop :=
  CallT Tryd.prog 7 [.agg #[.int .i64 a0_c, .int .i64 a1_c, .int .i64 a2_c, .int .i64 a3_c, .int .i64 a4_c, .int .i64 a5_c, .int .i64 a6_c, .int .i64 a7_c]] [.at .sl, .at .sl, .at .sl, .at .sl] h fun s h => K s.1 s.2.1 s.2.2.1 s.2.2.2.1 h
def C_ref03_Take (a0_r : Sl) (a1_r : Int) (a2_p : Int) (a3_p : Int) (a4_p : Int) (a5_p : Bool) (a6_p : ByteArray) (a7_p : Int) (a8_p : Int) (a9_p : Int) (h : Hp) (K : Int → Int → Int → Bool → ByteArray → Int → Int → Int → Sl → Int → Hp → Prop) : Prop :=
  CallT Tryd.prog 8 [.agg #[.slice a0_r.a a0_r.len a0_r.cap, .int .i64 a1_r], .agg #[.int .i64 a2_p, .int .u64 a3_p, .int .i64 a4_p, .bool a5_p, .string a6_p, .int .i64 a7_p, .int .i64 a8_p, .int .i64 a9_p]] [.agg [(.int .i64), (.int .u64), (.int .i64), .bool, .str, (.int .i64), (.int .i64), (.int .i64)], .agg [.sl, (.int .i64)]] h fun s h => K s.1.1 s.1.2.1 s.1.2.2.1 s.1.2.2.2.1 s.1.2.2.2.2.1 s.1.2.2.2.2.2.1 s.1.2.2.2.2.2.2.1 s.1.2.2.2.2.2.2.2.1 s.2.1.1 s.2.1.2.1 h
def C_code_NewReader (a0_b : Sl) (h : Hp) (K : Option Addr → Hp → Prop) : Prop :=
  CallT Tryd.prog 9 [.slice a0_b.a a0_b.len a0_b.cap] [.at .ptr] h fun s h => K s.1 h
def C_config_Get (a0_r : Option Addr) (h : Hp) (K : Int → Int → Int → Int → Int → Int → Int → Int → Hp → Prop) : Prop :=
  CallT Tryd.prog 10 [.pointer a0_r] [.agg [(.int .i64), (.int .i64), (.int .i64), (.int .i64), (.int .i64), (.int .i64), (.int .i64), (.int .i64)]] h fun s h => K s.1.1 s.1.2.1 s.1.2.2.1 s.1.2.2.2.1 s.1.2.2.2.2.1 s.1.2.2.2.2.2.1 s.1.2.2.2.2.2.2.1 s.1.2.2.2.2.2.2.2.1 h
def C_ref02_Same (a0_a : Sl) (a1_b : Sl) (h : Hp) (K : Bool → Hp → Prop) : Prop :=
  CallT Tryd.prog 11 [.slice a0_a.a a0_a.len a0_a.cap, .slice a1_b.a a1_b.len a1_b.cap] [.at .bool] h fun s h => K s.1 h
def C_code_Writer_Bytes (a0_w : Option Addr) (h : Hp) (K : Sl → Hp → Prop) : Prop :=
  CallT Tryd.prog 12 [.pointer a0_w] [.at .sl] h fun s h => K s.1 h
def C_ref03_Write (a0_l : Sl) (h : Hp) (K : Sl → Hp → Prop) : Prop :=
  CallT Tryd.prog 13 [.slice a0_l.a a0_l.len a0_l.cap] [.at .sl] h fun s h => K s.1 h
def C_code_Reader_Left (a0_r : Option Addr) (h : Hp) (K : Int → Hp → Prop) : Prop :=
  CallT Tryd.prog 14 [.pointer a0_r] [.at (.int .i64)] h fun s h => K s.1 h
def C_code_Reader_End (a0_r : Option Addr) (h : Hp) (K : Int → Hp → Prop) : Prop :=
  CallT Tryd.prog 15 [.pointer a0_r] [.at (.int .i64)] h fun s h => K s.1 h
def C_ref03_End (a0_r : Sl) (a1_r : Int) (h : Hp) (K : Int → Hp → Prop) : Prop :=
  CallT Tryd.prog 16 [.agg #[.slice a0_r.a a0_r.len a0_r.cap, .int .i64 a1_r]] [.at (.int .i64)] h fun s h => K s.1 h
def C_law28_lives  (h : Hp) (K : Bool → Hp → Prop) : Prop :=
  CallT Tryd.prog 17 [] [.at .bool] h fun s h => K s.1 h
def C_ref28_Wrong (a0_c : Int) (a1_c : Int) (a2_c : Int) (a3_c : Int) (a4_c : Int) (a5_c : Int) (a6_c : Int) (a7_c : Int) (h : Hp) (K : Int → Hp → Prop) : Prop :=
  CallT Tryd.prog 18 [.agg #[.int .i64 a0_c, .int .i64 a1_c, .int .i64 a2_c, .int .i64 a3_c, .int .i64 a4_c, .int .i64 a5_c, .int .i64 a6_c, .int .i64 a7_c]] [.at (.int .i64)] h fun s h => K s.1 h
def C_config_places (a0_c : Option Addr) (h : Hp) (K : Option Addr → Option Addr → Option Addr → Option Addr → Option Addr → Option Addr → Option Addr → Option Addr → Hp → Prop) : Prop :=
  CallT Tryd.prog 19 [.pointer a0_c] [.agg [.ptr, .ptr, .ptr, .ptr, .ptr, .ptr, .ptr, .ptr]] h fun s h => K s.1.1 s.1.2.1 s.1.2.2.1 s.1.2.2.2.1 s.1.2.2.2.2.1 s.1.2.2.2.2.2.1 s.1.2.2.2.2.2.2.1 s.1.2.2.2.2.2.2.2.1 h
def C_code_Writer_Int (a0_w : Option Addr) (a1_n : Int) (h : Hp) (K : Hp → Prop) : Prop :=
  CallT Tryd.prog 20 [.pointer a0_w, .int .i64 a1_n] [] h fun s h => K h
def C_ref03_number (a0_b : Sl) (h : Hp) (K : Int → Sl → Int → Hp → Prop) : Prop :=
  CallT Tryd.prog 21 [.slice a0_b.a a0_b.len a0_b.cap] [.at (.int .u64), .at .sl, .at (.int .i64)] h fun s h => K s.1 s.2.1 s.2.2.1 h
def C_slices_Clone_byte_byte (a0_s : Sl) (h : Hp) (K : Sl → Hp → Prop) : Prop :=
  CallT Tryd.prog 22 [.slice a0_s.a a0_s.len a0_s.cap] [.at .sl] h fun s h => K s.1 h
def C_config_fields  (h : Hp) (K : ByteArray → Int → Int → ByteArray → Int → Int → ByteArray → Int → Int → ByteArray → Int → Int → ByteArray → Int → Int → ByteArray → Int → Int → ByteArray → Int → Int → ByteArray → Int → Int → Hp → Prop) : Prop :=
  CallT Tryd.prog 23 [] [.agg [.str, (.int .i64), (.int .i64), .str, (.int .i64), (.int .i64), .str, (.int .i64), (.int .i64), .str, (.int .i64), (.int .i64), .str, (.int .i64), (.int .i64), .str, (.int .i64), (.int .i64), .str, (.int .i64), (.int .i64), .str, (.int .i64), (.int .i64)]] h fun s h => K s.1.1 s.1.2.1 s.1.2.2.1 s.1.2.2.2.1 s.1.2.2.2.2.1 s.1.2.2.2.2.2.1 s.1.2.2.2.2.2.2.1 s.1.2.2.2.2.2.2.2.1 s.1.2.2.2.2.2.2.2.2.1 s.1.2.2.2.2.2.2.2.2.2.1 s.1.2.2.2.2.2.2.2.2.2.2.1 s.1.2.2.2.2.2.2.2.2.2.2.2.1 s.1.2.2.2.2.2.2.2.2.2.2.2.2.1 s.1.2.2.2.2.2.2.2.2.2.2.2.2.2.1 s.1.2.2.2.2.2.2.2.2.2.2.2.2.2.2.1 s.1.2.2.2.2.2.2.2.2.2.2.2.2.2.2.2.1 s.1.2.2.2.2.2.2.2.2.2.2.2.2.2.2.2.2.1 s.1.2.2.2.2.2.2.2.2.2.2.2.2.2.2.2.2.2.1 s.1.2.2.2.2.2.2.2.2.2.2.2.2.2.2.2.2.2.2.1 s.1.2.2.2.2.2.2.2.2.2.2.2.2.2.2.2.2.2.2.2.1 s.1.2.2.2.2.2.2.2.2.2.2.2.2.2.2.2.2.2.2.2.2.1 s.1.2.2.2.2.2.2.2.2.2.2.2.2.2.2.2.2.2.2.2.2.2.1 s.1.2.2.2.2.2.2.2.2.2.2.2.2.2.2.2.2.2.2.2.2.2.2.1 s.1.2.2.2.2.2.2.2.2.2.2.2.2.2.2.2.2.2.2.2.2.2.2.2.1 h
def C_code_Reader_Int (a0_r : Option Addr) (a1_low : Int) (a2_high : Int) (h : Hp) (K : Int → Hp → Prop) : Prop :=
  CallT Tryd.prog 24 [.pointer a0_r, .int .i64 a1_low, .int .i64 a2_high] [.at (.int .i64)] h fun s h => K s.1 h
def C_ref03_Num (a0_b : Sl) (a1_n : Int) (h : Hp) (K : Sl → Hp → Prop) : Prop :=
  CallT Tryd.prog 25 [.slice a0_b.a a0_b.len a0_b.cap, .int .u64 a1_n] [.at .sl] h fun s h => K s.1 h
def C_ref03_Signed (a0_n : Int) (h : Hp) (K : Int → Hp → Prop) : Prop :=
  CallT Tryd.prog 26 [.int .i64 a0_n] [.at (.int .u64)] h fun s h => K s.1 h
def C_fault_Where (a0_err : Value) (h : Hp) (K : ByteArray → Int → Int → Value → Bool → Hp → Prop) : Prop :=
  CallT Tryd.prog 27 [a0_err] [.agg [.str, (.int .i64), (.int .u64), .raw], .at .bool] h fun s h => K s.1.1 s.1.2.1 s.1.2.2.1 s.1.2.2.2.1 s.2.1 h
def C_config_Check (a0_c : Int) (a1_c : Int) (a2_c : Int) (a3_c : Int) (a4_c : Int) (a5_c : Int) (a6_c : Int) (a7_c : Int) (h : Hp) (K : Value → Hp → Prop) : Prop :=
  CallT Tryd.prog 28 [.agg #[.int .i64 a0_c, .int .i64 a1_c, .int .i64 a2_c, .int .i64 a3_c, .int .i64 a4_c, .int .i64 a5_c, .int .i64 a6_c, .int .i64 a7_c]] [.at .raw] h fun s h => K s.1 h
def C_fault_Code (a0_err : Value) (h : Hp) (K : Int → Hp → Prop) : Prop :=
  CallT Tryd.prog 29 [a0_err] [.at (.int .i64)] h fun s h => K s.1 h
def C_code_Writer_Num (a0_w : Option Addr) (a1_n : Int) (h : Hp) (K : Hp → Prop) : Prop :=
  CallT Tryd.prog 30 [.pointer a0_w, .int .u64 a1_n] [] h fun s h => K h
def C_code_Reader_take (a0_r : Option Addr) (a1_may : Value) (h : Hp) (K : Int → Hp → Prop) : Prop :=
  CallT Tryd.prog 31 [.pointer a0_r, a1_may] [.at (.int .u64)] h fun s h => K s.1 h
def C_code_Reader_Int_1 (a0_n : Int) (a1_t : Option Addr) (a2_t : Option Addr) (a3_t : Option Addr) (h : Hp) (K : Bool → Hp → Prop) : Prop :=
  CallT Tryd.prog 32 [.int .u64 a0_n, .pointer a1_t, .pointer a2_t, .pointer a3_t] [.at .bool] h fun s h => K s.1 h
def C_code_signed (a0_n : Int) (h : Hp) (K : Int → Hp → Prop) : Prop :=
  CallT Tryd.prog 33 [.int .u64 a0_n] [.at (.int .i64)] h fun s h => K s.1 h
def C_errors_As (a0_err : Value) (a1_target : Value) (h : Hp) (K : Bool → Hp → Prop) : Prop :=
  CallT Tryd.prog 34 [a0_err, a1_target] [.at .bool] h fun s h => K s.1 h
def C_config_At (a0_c : Int) (a1_c : Int) (a2_c : Int) (a3_c : Int) (a4_c : Int) (a5_c : Int) (a6_c : Int) (a7_c : Int) (a8_i : Int) (h : Hp) (K : Int → Hp → Prop) : Prop :=
  CallT Tryd.prog 35 [.agg #[.int .i64 a0_c, .int .i64 a1_c, .int .i64 a2_c, .int .i64 a3_c, .int .i64 a4_c, .int .i64 a5_c, .int .i64 a6_c, .int .i64 a7_c], .int .i64 a8_i] [.at (.int .i64)] h fun s h => K s.1 h
def C_fault_Wrap (a0_op : ByteArray) (a1_at : Int) (a2_id : Int) (a3_err : Value) (h : Hp) (K : Value → Hp → Prop) : Prop :=
  CallT Tryd.prog 36 [.string a0_op, .int .i64 a1_at, .int .u64 a2_id, a3_err] [.at .raw] h fun s h => K s.1 h
def C_code_number (a0_b : Sl) (h : Hp) (K : Int → Int → Int → Hp → Prop) : Prop :=
  CallT Tryd.prog 37 [.slice a0_b.a a0_b.len a0_b.cap] [.at (.int .u64), .at (.int .i64), .at (.int .i64)] h fun s h => K s.1 s.2.1 s.2.2.1 h
def C_internal_reflectlite_ValueOf (a0_t : Value) (h : Hp) (K : Option Addr → Option Addr → Int → Hp → Prop) : Prop :=
  ExtT Tryd.prog 38 [a0_t] [.agg [.ptr, .ptr, (.int .u64)]] h fun s h => K s.1.1 s.1.2.1 s.1.2.2.1 h
def C_internal_reflectlite_Value_Type (a0_t : Option Addr) (a1_t : Option Addr) (a2_t : Int) (h : Hp) (K : Value → Hp → Prop) : Prop :=
  ExtT Tryd.prog 39 [.agg #[.pointer a0_t, .pointer a1_t, .int .u64 a2_t]] [.at .raw] h fun s h => K s.1 h
def C_internal_reflectlite_Value_IsNil (a0_t : Option Addr) (a1_t : Option Addr) (a2_t : Int) (h : Hp) (K : Bool → Hp → Prop) : Prop :=
  ExtT Tryd.prog 40 [.agg #[.pointer a0_t, .pointer a1_t, .int .u64 a2_t]] [.at .bool] h fun s h => K s.1 h
def C_errors_as (a0_err : Value) (a1_target : Value) (a2_targetVal : Option Addr) (a3_targetVal : Option Addr) (a4_targetVal : Int) (a5_targetType : Value) (h : Hp) (K : Bool → Hp → Prop) : Prop :=
  CallT Tryd.prog 41 [a0_err, a1_target, .agg #[.pointer a2_targetVal, .pointer a3_targetVal, .int .u64 a4_targetVal], a5_targetType] [.at .bool] h fun s h => K s.1 h
def C_internal_reflectlite_TypeOf (a0_t : Value) (h : Hp) (K : Value → Hp → Prop) : Prop :=
  ExtT Tryd.prog 42 [a0_t] [.at .raw] h fun s h => K s.1 h
def C_internal_reflectlite_Value_Elem (a0_t : Option Addr) (a1_t : Option Addr) (a2_t : Int) (h : Hp) (K : Option Addr → Option Addr → Int → Hp → Prop) : Prop :=
  ExtT Tryd.prog 43 [.agg #[.pointer a0_t, .pointer a1_t, .int .u64 a2_t]] [.agg [.ptr, .ptr, (.int .u64)]] h fun s h => K s.1.1 s.1.2.1 s.1.2.2.1 h
def C_internal_reflectlite_Value_Set (a0_t : Option Addr) (a1_t : Option Addr) (a2_t : Int) (a3_t : Option Addr) (a4_t : Option Addr) (a5_t : Int) (h : Hp) (K : Hp → Prop) : Prop :=
  ExtT Tryd.prog 44 [.agg #[.pointer a0_t, .pointer a1_t, .int .u64 a2_t], .agg #[.pointer a3_t, .pointer a4_t, .int .u64 a5_t]] [] h fun s h => K h
def C_internal_abi_Type_Kind (a0_t : Option Addr) (h : Hp) (K : Int → Hp → Prop) : Prop :=
  ExtT Tryd.prog 59 [.pointer a0_t] [.at (.int .u8)] h fun s h => K s.1 h
def C_fault_Fault_Unwrap (a0_f : Option Addr) (h : Hp) (K : Value → Hp → Prop) : Prop :=
  CallT Tryd.prog 66 [.pointer a0_f] [.at .raw] h fun s h => K s.1 h
def C_internal_reflectlite_rtype_AssignableTo (a0_t : Option Addr) (a1_t : Value) (h : Hp) (K : Bool → Hp → Prop) : Prop :=
  ExtT Tryd.prog 71 [.agg #[.pointer a0_t], a1_t] [.at .bool] h fun s h => K s.1 h
def C_internal_reflectlite_rtype_Elem (a0_t : Option Addr) (h : Hp) (K : Value → Hp → Prop) : Prop :=
  ExtT Tryd.prog 73 [.agg #[.pointer a0_t]] [.at .raw] h fun s h => K s.1 h
def C_internal_reflectlite_rtype_Implements (a0_t : Option Addr) (a1_t : Value) (h : Hp) (K : Bool → Hp → Prop) : Prop :=
  ExtT Tryd.prog 74 [.agg #[.pointer a0_t], a1_t] [.at .bool] h fun s h => K s.1 h
def C_gosem_cut_vars  (h : Hp) (K : Hp → Prop) : Prop :=
  CallT Tryd.prog 85 [] [] h fun s h => K h
abbrev T_ : TypeId := 0
abbrev T_func : TypeId := 1
abbrev T_int64 : TypeId := 2
abbrev T_int : TypeId := 3
abbrev T_bool : TypeId := 4
abbrev T_uint8 : TypeId := 5
abbrev T_abi_BoundsErrorCode : TypeId := 6
abbrev T_struct_x_int64_y_int_signed_bool_code_abi_BoundsErrorCode : TypeId := 7
abbrev T_runtime_boundsError : TypeId := 8
abbrev T_string : TypeId := 9
abbrev T_runtime_errorString : TypeId := 10
abbrev T_runtime_plainError : TypeId := 11
abbrev T_uintptr : TypeId := 12
abbrev T_struct_msg_string_addr_uintptr : TypeId := 13
abbrev T_runtime_errorAddressString : TypeId := 14
abbrev T_Pruntime_TypeAssertionError : TypeId := 15
abbrev T_Pruntime_PanicNilError : TypeId := 16
abbrev T_Pabi_Type : TypeId := 17
abbrev T_struct_typ_Pabi_Type : TypeId := 18
abbrev T_maps_unhashableTypeError : TypeId := 19
abbrev T_interface : TypeId := 20
abbrev T_int32 : TypeId := 21
abbrev T_api_Config : TypeId := 23
abbrev T_Suint8 : TypeId := 24
abbrev T_Pcode_Writer : TypeId := 25
abbrev T_func_Pcode_Writer : TypeId := 26
abbrev T_func_Pcode_Writer_api_Config : TypeId := 27
abbrev T_Sint : TypeId := 28
abbrev T_Sstring : TypeId := 29
abbrev T_Sint_Sint_Sint_Sstring : TypeId := 30
abbrev T_func_api_Config_Sint_Sint_Sint_Sstring : TypeId := 31
abbrev T_Swaywiserref03_Part : TypeId := 32
abbrev T_struct_B_Suint8_E_int : TypeId := 33
abbrev T_waywiserref03_Reader : TypeId := 34
abbrev T_uint64 : TypeId := 35
abbrev T_waywiserref03_Part : TypeId := 37
abbrev T_waywiserref03_Part_waywiserref03_Reader : TypeId := 38
abbrev T_Pcode_Reader : TypeId := 40
abbrev T_func_Suint8_Pcode_Reader : TypeId := 41
abbrev T_func_Pcode_Reader_api_Config : TypeId := 42
abbrev T_func_Suint8_Suint8_bool : TypeId := 43
abbrev T_func_Suint8 : TypeId := 44
abbrev T_func_Swaywiserref03_Part_Suint8 : TypeId := 45
abbrev T_func_int : TypeId := 46
abbrev T_api_Errno : TypeId := 47
abbrev T_func_api_Errno : TypeId := 48
abbrev T_func_waywiserref03_Reader_int : TypeId := 49
abbrev T_func_bool : TypeId := 50
abbrev T_func_api_Config_Suint8_bool : TypeId := 51
abbrev T_func_api_Config_int : TypeId := 52
abbrev T_func_api_Config_bool : TypeId := 53
abbrev T_struct_b_Suint8 : TypeId := 54
abbrev T_code_Writer : TypeId := 55
abbrev T_Pint : TypeId := 56
abbrev T_8_Pint : TypeId := 57
abbrev T_func_Papi_Config_8_Pint : TypeId := 58
abbrev T_Papi_Config : TypeId := 59
abbrev T_uint64_Suint8_int : TypeId := 61
abbrev T_func_Suint8_uint64_Suint8_int : TypeId := 62
abbrev T_func_Suint8_Suint8 : TypeId := 63
abbrev T_struct_b_Suint8_e_api_Errno : TypeId := 64
abbrev T_code_Reader : TypeId := 65
abbrev T_struct_name_string_low_int_high_int : TypeId := 66
abbrev T_config_field : TypeId := 67
abbrev T_8_config_field : TypeId := 68
abbrev T_func_8_config_field : TypeId := 69
abbrev T_func_int_int_int : TypeId := 70
abbrev T_func_Suint8_uint64_Suint8 : TypeId := 71
abbrev T_func_int_uint64 : TypeId := 72
abbrev T_interface_Error_string : TypeId := 73
abbrev T_error : TypeId := 74
abbrev T_struct_Op_string_At_int_Id_uint64_Err_error : TypeId := 75
abbrev T_fault_Fault : TypeId := 76
abbrev T_fault_Fault_bool : TypeId := 77
abbrev T_func_error_fault_Fault_bool : TypeId := 78
abbrev T_func_api_Config_error : TypeId := 79
abbrev T_func_error_api_Errno : TypeId := 80
abbrev T_uint : TypeId := 81
abbrev T_func_uint64 : TypeId := 82
abbrev T_func_func_uint64_bool_uint64 : TypeId := 83
abbrev T_func_uint64_int : TypeId := 84
abbrev T_func_uint64_bool : TypeId := 85
abbrev T_Pfault_Fault : TypeId := 86
abbrev T_func_error_interface_bool : TypeId := 87
abbrev T_PPfault_Fault : TypeId := 88
abbrev T_func_api_Config_int_int : TypeId := 89
abbrev T_func_string_int_uint64_error_error : TypeId := 90
abbrev T_Papi_Errno : TypeId := 91
abbrev T_uint64_int_api_Errno : TypeId := 92
abbrev T_func_Suint8_uint64_int_api_Errno : TypeId := 93
abbrev T_unsafe_Pointer : TypeId := 94
abbrev T_reflectlite_flag : TypeId := 95
abbrev T_struct_typ_Pabi_Type_ptr_unsafe_Pointer_reflectlite_flag : TypeId := 96
abbrev T_reflectlite_Value : TypeId := 97
abbrev T_func_interface_reflectlite_Value : TypeId := 98
abbrev T_reflectlite_Type : TypeId := 100
abbrev T_func_reflectlite_Type : TypeId := 101
abbrev T_abi_Kind : TypeId := 102
abbrev T_func_abi_Kind : TypeId := 103
abbrev T_func_reflectlite_Type_bool : TypeId := 104
abbrev T_struct_Pabi_Type : TypeId := 106
abbrev T_reflectlite_rtype : TypeId := 107
abbrev T_Preflectlite_ValueError : TypeId := 108
abbrev T_func_interface_reflectlite_Type : TypeId := 109
abbrev T_func_reflectlite_Value : TypeId := 110
abbrev T_interface_As_interface_bool : TypeId := 112
abbrev T_interface_As_interface_bool_bool : TypeId := 113
abbrev T_func_interface_bool : TypeId := 114
abbrev T_interface_Unwrap_error : TypeId := 115
abbrev T_func_error : TypeId := 116
abbrev T_interface_Unwrap_Serror : TypeId := 117
abbrev T_Serror : TypeId := 118
abbrev T_func_Serror : TypeId := 119
abbrev T_func_string : TypeId := 120
abbrev T_runtime_TypeAssertionError : TypeId := 122
abbrev T_0_Pruntime_PanicNilError : TypeId := 123
abbrev T_struct_0_Pruntime_PanicNilError : TypeId := 124
abbrev T_runtime_PanicNilError : TypeId := 125
abbrev T_func_Pabi_Type : TypeId := 126
abbrev T_uint32 : TypeId := 127
abbrev T_abi_TFlag : TypeId := 128
abbrev T_func_unsafe_Pointer_unsafe_Pointer_bool : TypeId := 129
abbrev T_Puint8 : TypeId := 130
abbrev T_abi_NameOff : TypeId := 131
abbrev T_abi_TypeOff : TypeId := 132
abbrev T_abi_Type : TypeId := 134
abbrev T_func_uintptr : TypeId := 136
abbrev T_func_Pabi_UncommonType : TypeId := 137
abbrev T_struct_Method_string_Kind_abi_Kind : TypeId := 138
abbrev T_reflectlite_ValueError : TypeId := 139
abbrev T_Pabi_UncommonType : TypeId := 140
abbrev T_func_Sabi_Method : TypeId := 141
abbrev T_uint16 : TypeId := 142
abbrev T_abi_UncommonType : TypeId := 144
abbrev T_Sabi_Method : TypeId := 145
abbrev T_abi_TextOff : TypeId := 146
abbrev T_abi_Method : TypeId := 148
abbrev T_Perror : TypeId := 149
abbrev N_main_main : FuncId := 0
abbrev N_gosem_cut : FuncId := 1
abbrev N_gosem_cut_init : FuncId := 2
abbrev N_law28_ConfigCodes : FuncId := 3
abbrev N_law28_ConfigBack : FuncId := 4
abbrev N_code_NewWriter : FuncId := 5
abbrev N_config_Put : FuncId := 6
abbrev N_ref28_Fields : FuncId := 7
abbrev N_ref03_Take : FuncId := 8
abbrev N_code_NewReader : FuncId := 9
abbrev N_config_Get : FuncId := 10
abbrev N_ref02_Same : FuncId := 11
abbrev N_code_Writer_Bytes : FuncId := 12
abbrev N_ref03_Write : FuncId := 13
abbrev N_code_Reader_Left : FuncId := 14
abbrev N_code_Reader_End : FuncId := 15
abbrev N_ref03_End : FuncId := 16
abbrev N_law28_lives : FuncId := 17
abbrev N_ref28_Wrong : FuncId := 18
abbrev N_config_places : FuncId := 19
abbrev N_code_Writer_Int : FuncId := 20
abbrev N_ref03_number : FuncId := 21
abbrev N_slices_Clone_byte_byte : FuncId := 22
abbrev N_config_fields : FuncId := 23
abbrev N_code_Reader_Int : FuncId := 24
abbrev N_ref03_Num : FuncId := 25
abbrev N_ref03_Signed : FuncId := 26
abbrev N_fault_Where : FuncId := 27
abbrev N_config_Check : FuncId := 28
abbrev N_fault_Code : FuncId := 29
abbrev N_code_Writer_Num : FuncId := 30
abbrev N_code_Reader_take : FuncId := 31
abbrev N_code_Reader_Int_1 : FuncId := 32
abbrev N_code_signed : FuncId := 33
abbrev N_errors_As : FuncId := 34
abbrev N_config_At : FuncId := 35
abbrev N_fault_Wrap : FuncId := 36
abbrev N_code_number : FuncId := 37
abbrev N_internal_reflectlite_ValueOf : FuncId := 38
abbrev N_internal_reflectlite_Value_Type : FuncId := 39
abbrev N_internal_reflectlite_Value_IsNil : FuncId := 40
abbrev N_errors_as : FuncId := 41
abbrev N_internal_reflectlite_TypeOf : FuncId := 42
abbrev N_internal_reflectlite_Value_Elem : FuncId := 43
abbrev N_internal_reflectlite_Value_Set : FuncId := 44
abbrev N_runtime_boundsError_Error : FuncId := 45
abbrev N_runtime_boundsError_RuntimeError : FuncId := 46
abbrev N_runtime_errorString_Error : FuncId := 47
abbrev N_runtime_errorString_RuntimeError : FuncId := 48
abbrev N_runtime_plainError_Error : FuncId := 49
abbrev N_runtime_plainError_RuntimeError : FuncId := 50
abbrev N_runtime_errorAddressString_Error : FuncId := 51
abbrev N_runtime_errorAddressString_RuntimeError : FuncId := 52
abbrev N_runtime_TypeAssertionError_Error : FuncId := 53
abbrev N_runtime_TypeAssertionError_RuntimeError : FuncId := 54
abbrev N_runtime_PanicNilError_Error : FuncId := 55
abbrev N_runtime_PanicNilError_RuntimeError : FuncId := 56
abbrev N_internal_abi_Type_Align : FuncId := 57
abbrev N_internal_abi_Type_Elem : FuncId := 58
abbrev N_internal_abi_Type_Kind : FuncId := 59
abbrev N_internal_runtime_maps_unhashableTypeError_Error : FuncId := 60
abbrev N_internal_runtime_maps_unhashableTypeError_RuntimeError : FuncId := 61
abbrev N_code_Writer_Flag : FuncId := 62
abbrev N_code_Reader_Flag : FuncId := 63
abbrev N_api_Errno_Error : FuncId := 64
abbrev N_fault_Fault_Error : FuncId := 65
abbrev N_fault_Fault_Unwrap : FuncId := 66
abbrev N_internal_reflectlite_flag_mustBeAssignable : FuncId := 67
abbrev N_internal_reflectlite_Value_Kind : FuncId := 68
abbrev N_internal_abi_Kind_String : FuncId := 69
abbrev N_internal_abi_Type_Size : FuncId := 70
abbrev N_internal_reflectlite_rtype_AssignableTo : FuncId := 71
abbrev N_internal_reflectlite_rtype_Comparable : FuncId := 72
abbrev N_internal_reflectlite_rtype_Elem : FuncId := 73
abbrev N_internal_reflectlite_rtype_Implements : FuncId := 74
abbrev N_internal_reflectlite_rtype_Name : FuncId := 75
abbrev N_internal_reflectlite_rtype_PkgPath : FuncId := 76
abbrev N_internal_reflectlite_rtype_String : FuncId := 77
abbrev N_internal_reflectlite_rtype_common : FuncId := 78
abbrev N_internal_reflectlite_rtype_uncommon : FuncId := 79
abbrev N_internal_reflectlite_ValueError_Error : FuncId := 80
abbrev N_internal_abi_UncommonType_ExportedMethods : FuncId := 81
abbrev N_var_s_door_errors_errorType_is_laid_by_its_own_call_of_reflectlite_TypeOf_on_a_nil_pointer_and_Elem_of_it_handle_1 : FuncId := 82
abbrev N_var_s_door_gosem_cut_vars_holds_initialisers_alone_see_the_manifest_s_row_cutvarsword_look_11_test_files_too : FuncId := 83
abbrev N_var_s_door_the_look_of_gosem_cut_vars_went_over_the_folder_that_the_caller_named_as_the_repository_s_root_look_11 : FuncId := 84
abbrev N_gosem_cut_vars : FuncId := 85
abbrev G_size : Nat := 1
theorem E_internal_reflectlite_ValueOf_ok (a0_t : Value) (h : Hp) (K : Option Addr → Option Addr → Int → Hp → Prop) (hk : wpS Tryd.prog ((fun args : Array Value => Extern.ReflectliteValue.unpack (args.getD 0 (.tuple #[]))) #[a0_t]) h fun v h => ∃ s : St [.agg [.ptr, .ptr, (.int .u64)]], v = mkRes [.agg [.ptr, .ptr, (.int .u64)]] s ∧ K s.1.1 s.1.2.1 s.1.2.2.1 h) : C_internal_reflectlite_ValueOf a0_t h K := ext_to (e := (fun args : Array Value => Extern.ReflectliteValue.unpack (args.getD 0 (.tuple #[])))) Tryd.func38 rfl rfl (by kernel_rfl) (by kernel_rfl) hk

theorem E_internal_reflectlite_Value_Type_ok (a0_t : Option Addr) (a1_t : Option Addr) (a2_t : Int) (h : Hp) (K : Value → Hp → Prop) (hk : wpS Tryd.prog (Extern.ReflectliteValue.methodAny (Extern.ReflectliteValue.valueError "reflectlite.Value.Type" 0) (fun t _ _ _ => Extern.ReflectliteType.toType t) #[.agg #[.pointer a0_t, .pointer a1_t, .int .u64 a2_t]]) h fun v h => ∃ s : St [.at .raw], v = mkRes [.at .raw] s ∧ K s.1 h) : C_internal_reflectlite_Value_Type a0_t a1_t a2_t h K := ext_to (e := Extern.ReflectliteValue.methodAny (Extern.ReflectliteValue.valueError "reflectlite.Value.Type" 0) (fun t _ _ _ => Extern.ReflectliteType.toType t)) Tryd.func39 rfl rfl (by kernel_rfl) (by kernel_rfl) hk

theorem E_internal_reflectlite_Value_IsNil_ok (a0_t : Option Addr) (a1_t : Option Addr) (a2_t : Int) (h : Hp) (K : Bool → Hp → Prop) (hk : wpS Tryd.prog (Extern.ReflectliteValue.method (Extern.ReflectliteValue.valueError "reflectlite.Value.IsNil" 0) Extern.ReflectliteValue.isNil #[.agg #[.pointer a0_t, .pointer a1_t, .int .u64 a2_t]]) h fun v h => ∃ s : St [.at .bool], v = mkRes [.at .bool] s ∧ K s.1 h) : C_internal_reflectlite_Value_IsNil a0_t a1_t a2_t h K := ext_to (e := Extern.ReflectliteValue.method (Extern.ReflectliteValue.valueError "reflectlite.Value.IsNil" 0) Extern.ReflectliteValue.isNil) Tryd.func40 rfl rfl (by kernel_rfl) (by kernel_rfl) hk

theorem E_internal_reflectlite_TypeOf_ok (a0_t : Value) (h : Hp) (K : Value → Hp → Prop) (hk : wpS Tryd.prog (Extern.ReflectliteType.typeOf #[a0_t]) h fun v h => ∃ s : St [.at .raw], v = mkRes [.at .raw] s ∧ K s.1 h) : C_internal_reflectlite_TypeOf a0_t h K := ext_to (e := Extern.ReflectliteType.typeOf) Tryd.func42 rfl rfl (by kernel_rfl) (by kernel_rfl) hk

theorem E_internal_reflectlite_Value_Elem_ok (a0_t : Option Addr) (a1_t : Option Addr) (a2_t : Int) (h : Hp) (K : Option Addr → Option Addr → Int → Hp → Prop) (hk : wpS Tryd.prog (Extern.ReflectliteValue.method (Extern.ReflectliteValue.valueError "reflectlite.Value.Elem" 0) Extern.ReflectliteValue.elem #[.agg #[.pointer a0_t, .pointer a1_t, .int .u64 a2_t]]) h fun v h => ∃ s : St [.agg [.ptr, .ptr, (.int .u64)]], v = mkRes [.agg [.ptr, .ptr, (.int .u64)]] s ∧ K s.1.1 s.1.2.1 s.1.2.2.1 h) : C_internal_reflectlite_Value_Elem a0_t a1_t a2_t h K := ext_to (e := Extern.ReflectliteValue.method (Extern.ReflectliteValue.valueError "reflectlite.Value.Elem" 0) Extern.ReflectliteValue.elem) Tryd.func43 rfl rfl (by kernel_rfl) (by kernel_rfl) hk

theorem E_internal_reflectlite_Value_Set_ok (a0_t : Option Addr) (a1_t : Option Addr) (a2_t : Int) (a3_t : Option Addr) (a4_t : Option Addr) (a5_t : Int) (h : Hp) (K : Hp → Prop) (hk : wpS Tryd.prog (Extern.ReflectliteValue.set #[.agg #[.pointer a0_t, .pointer a1_t, .int .u64 a2_t], .agg #[.pointer a3_t, .pointer a4_t, .int .u64 a5_t]]) h fun v h => ∃ s : St [], v = mkRes [] s ∧ K h) : C_internal_reflectlite_Value_Set a0_t a1_t a2_t a3_t a4_t a5_t h K := ext_to (e := Extern.ReflectliteValue.set) Tryd.func44 rfl rfl (by kernel_rfl) (by kernel_rfl) hk

theorem E_internal_abi_Type_Kind_ok (a0_t : Option Addr) (h : Hp) (K : Int → Hp → Prop) (hk : wpS Tryd.prog ((Extern.ReflectliteType.abiMethod fun t => do pure (.int .u8 (← Extern.Rtype.kind t))) #[.pointer a0_t]) h fun v h => ∃ s : St [.at (.int .u8)], v = mkRes [.at (.int .u8)] s ∧ K s.1 h) : C_internal_abi_Type_Kind a0_t h K := ext_to (e := (Extern.ReflectliteType.abiMethod fun t => do pure (.int .u8 (← Extern.Rtype.kind t)))) Tryd.func59 rfl rfl (by kernel_rfl) (by kernel_rfl) hk

theorem E_internal_reflectlite_rtype_AssignableTo_ok (a0_t : Option Addr) (a1_t : Value) (h : Hp) (K : Bool → Hp → Prop) (hk : wpS Tryd.prog (Extern.ReflectliteType.relation "AssignableTo" Extern.ReflectliteType.assignableTo #[.agg #[.pointer a0_t], a1_t]) h fun v h => ∃ s : St [.at .bool], v = mkRes [.at .bool] s ∧ K s.1 h) : C_internal_reflectlite_rtype_AssignableTo a0_t a1_t h K := ext_to (e := Extern.ReflectliteType.relation "AssignableTo" Extern.ReflectliteType.assignableTo) Tryd.func71 rfl rfl (by kernel_rfl) (by kernel_rfl) hk

theorem E_internal_reflectlite_rtype_Elem_ok (a0_t : Option Addr) (h : Hp) (K : Value → Hp → Prop) (hk : wpS Tryd.prog (Extern.ReflectliteType.method Extern.ReflectliteType.elem #[.agg #[.pointer a0_t]]) h fun v h => ∃ s : St [.at .raw], v = mkRes [.at .raw] s ∧ K s.1 h) : C_internal_reflectlite_rtype_Elem a0_t h K := ext_to (e := Extern.ReflectliteType.method Extern.ReflectliteType.elem) Tryd.func73 rfl rfl (by kernel_rfl) (by kernel_rfl) hk

theorem E_internal_reflectlite_rtype_Implements_ok (a0_t : Option Addr) (a1_t : Value) (h : Hp) (K : Bool → Hp → Prop) (hk : wpS Tryd.prog (Extern.ReflectliteType.relation "Implements" Extern.ReflectliteType.implements_ #[.agg #[.pointer a0_t], a1_t]) h fun v h => ∃ s : St [.at .bool], v = mkRes [.at .bool] s ∧ K s.1 h) : C_internal_reflectlite_rtype_Implements a0_t a1_t h K := ext_to (e := Extern.ReflectliteType.relation "Implements" Extern.ReflectliteType.implements_) Tryd.func74 rfl rfl (by kernel_rfl) (by kernel_rfl) hk

def F_gosem_cut_init  (h : Hp) (K : Hp → Prop) : Prop :=
C_gosem_cut  h fun  (h1 : Hp) =>
K h1

theorem F_gosem_cut_init_ok  (h : Hp) (K : Hp → Prop) (hF : F_gosem_cut_init  h K) : C_gosem_cut_init  h K := by
  have e : bodyVC Tryd.prog Tryd.f2 .no (Option.getD Tryd.f2.body .skip) [] h [] (fun s h => K h) = F_gosem_cut_init  h K := by kernel_rfl
  exact fun_sound mixed Tryd.func2 rfl (e.mpr hF)

def J2_law28_ConfigCodes (K : Bool → Hp → Prop) (t3 : Option Addr) (p28 : Addr) (sJ1 : Sl × Sl × Unit) (t31 : Option Addr) (sJ2 : Unit) (hJ2 : Hp) : Prop :=
∃ (S65 : List Nat),
C_code_Writer_Bytes t3 hJ2 fun (t66 : Sl) (h67 : Hp) =>
C_ref03_Write (Sl.mk sJ1.1.a sJ1.1.len sJ1.1.cap) h67 fun (t68 : Sl) (h69 : Hp) =>
C_ref02_Same t66 t68 h69 fun (t70 : Bool) (h71 : Hp) =>
cnd t70 (
C_code_Reader_Left t31 h71 fun (t72 : Int) (h73 : Hp) =>
ExtS S65 h71 h73 ∧ (
(Addr.block p28 ∉ S65) ∧ (
ldA .sl h71 p28 fun (t74 : Sl) =>
cnd (t72 == (t74.len : Int)) (
C_code_Reader_End t31 h73 fun (t75 : Int) (h76 : Hp) =>
ExtS S65 h73 h76 ∧ (
(Addr.block p28 ∉ S65) ∧ (
ldA .sl h73 p28 fun (t77 : Sl) =>
ldA (.int .i64) h73 (Addr.add p28 1) fun (t78 : Int) =>
C_ref03_End t77 t78 h76 fun (t79 : Int) (h80 : Hp) =>
cnd (t75 == t79) (
C_law28_lives  h80 fun (t81 : Bool) (h82 : Hp) =>
K t81 h82) (
K false h80)))) (
K false h73)))) (
K false h71)
def L1_law28_ConfigCodes (K : Bool → Hp → Prop) (p28 : Addr) (sJ1 : Sl × Sl × Unit) (t60 : Sl) (J2 : Unit → Hp → Prop) (sL1 : (Int × Unit) × Hp) (R1 : (Int × Unit) × Hp → Prop) : Prop :=
cnd (decide (sL1.1.1 < 8)) (
ldA (.int .i64) sL1.2 (Addr.add p28 1) fun (t83 : Int) =>
cnd (t83 == 0) (
idxS t60.a t60.len sL1.1.1 1 fun (p84 : Addr) =>
ldA (.int .i64) sL1.2 p84 fun (t85 : Int) =>
idxS sJ1.2.1.a sJ1.2.1.len sL1.1.1 1 fun (p86 : Addr) =>
ldA (.int .i64) sL1.2 p86 fun (t87 : Int) =>
cnd (t85 != t87) (
K false sL1.2) (
ldA (.int .i64) sL1.2 (Addr.add p28 1) fun (t88 : Int) =>
cnd (t88 != 0) (
idxS t60.a t60.len sL1.1.1 1 fun (p89 : Addr) =>
ldA (.int .i64) sL1.2 p89 fun (t90 : Int) =>
cnd (t90 != 0) (
K false sL1.2) (
Let (IntKind.wrap .i64 (sL1.1.1 + 1) : Int) fun (t91 : Int) =>
R1 ((t91, ()), sL1.2))) (
Let (IntKind.wrap .i64 (sL1.1.1 + 1) : Int) fun (t92 : Int) =>
R1 ((t92, ()), sL1.2)))) (
ldA (.int .i64) sL1.2 (Addr.add p28 1) fun (t93 : Int) =>
cnd (t93 != 0) (
idxS t60.a t60.len sL1.1.1 1 fun (p94 : Addr) =>
ldA (.int .i64) sL1.2 p94 fun (t95 : Int) =>
cnd (t95 != 0) (
K false sL1.2) (
Let (IntKind.wrap .i64 (sL1.1.1 + 1) : Int) fun (t96 : Int) =>
R1 ((t96, ()), sL1.2))) (
Let (IntKind.wrap .i64 (sL1.1.1 + 1) : Int) fun (t97 : Int) =>
R1 ((t97, ()), sL1.2)))) (
J2 (()) sL1.2)
def J1_law28_ConfigCodes (a8_b : Sl) (K : Bool → Hp → Prop) (t3 : Option Addr) (p28 : Addr) (sJ1 : Sl × Sl × Unit) (hJ1 : Hp) : Prop :=
C_code_NewReader a8_b hJ1 fun (t31 : Option Addr) (h32 : Hp) =>
C_config_Get t31 h32 fun (t33 : Int) (t34 : Int) (t35 : Int) (t36 : Int) (t37 : Int) (t38 : Int) (t39 : Int) (t40 : Int) (h41 : Hp) =>
Let (Array.push h41 (Obj.cells #[.int .i64 0, .int .i64 0, .int .i64 0, .int .i64 0, .int .i64 0, .int .i64 0, .int .i64 0, .int .i64 0] 23)) fun (h42 : Hp) =>
Let (Addr.mk (Array.size h41) 0 none) fun (p43 : Addr) =>
stC h42 p43 (
Let (hset h42 p43 (.int .i64 t33)) fun (h44 : Hp) =>
stC h44 (Addr.add p43 1) (
Let (hset h44 (Addr.add p43 1) (.int .i64 t34)) fun (h45 : Hp) =>
stC h45 (Addr.add p43 2) (
Let (hset h45 (Addr.add p43 2) (.int .i64 t35)) fun (h46 : Hp) =>
stC h46 (Addr.add p43 3) (
Let (hset h46 (Addr.add p43 3) (.int .i64 t36)) fun (h47 : Hp) =>
stC h47 (Addr.add p43 4) (
Let (hset h47 (Addr.add p43 4) (.int .i64 t37)) fun (h48 : Hp) =>
stC h48 (Addr.add p43 5) (
Let (hset h48 (Addr.add p43 5) (.int .i64 t38)) fun (h49 : Hp) =>
stC h49 (Addr.add p43 6) (
Let (hset h49 (Addr.add p43 6) (.int .i64 t39)) fun (h50 : Hp) =>
stC h50 (Addr.add p43 7) (
Let (hset h50 (Addr.add p43 7) (.int .i64 t40)) fun (h51 : Hp) =>
ldA (.int .i64) h51 p43 fun (t52 : Int) =>
ldA (.int .i64) h51 (Addr.add p43 1) fun (t53 : Int) =>
ldA (.int .i64) h51 (Addr.add p43 2) fun (t54 : Int) =>
ldA (.int .i64) h51 (Addr.add p43 3) fun (t55 : Int) =>
ldA (.int .i64) h51 (Addr.add p43 4) fun (t56 : Int) =>
ldA (.int .i64) h51 (Addr.add p43 5) fun (t57 : Int) =>
ldA (.int .i64) h51 (Addr.add p43 6) fun (t58 : Int) =>
ldA (.int .i64) h51 (Addr.add p43 7) fun (t59 : Int) =>
C_ref28_Fields t52 t53 t54 t55 t56 t57 t58 t59 h51 fun (t60 : Sl) (t61 : Sl) (t62 : Sl) (t63 : Sl) (h64 : Hp) =>
Jn (J2_law28_ConfigCodes K t3 p28 sJ1 t31) fun (J2 : Unit → Hp → Prop) =>
∃ n, Lp (L1_law28_ConfigCodes K p28 sJ1 t60 J2) n ((0, ()), h64)))))))))
def L2_law28_ConfigCodes (t22 : Sl) (t23 : Sl) (t24 : Sl) (p28 : Addr) (J1 : Sl × Sl × Unit → Hp → Prop) (sL2 : (Sl × Sl × Int × Unit) × Hp) (R2 : (Sl × Sl × Int × Unit) × Hp → Prop) : Prop :=
cnd (decide (sL2.1.2.2.1 < 8)) (
idxS t22.a t22.len sL2.1.2.2.1 1 fun (p98 : Addr) =>
ldA (.int .i64) sL2.2 p98 fun (t99 : Int) =>
Let (Array.push sL2.2 (Obj.cells #[.int .i64 1, .int .u64 0, .int .i64 t99, .bool false, .string (ByteArray.mk #[]), .int .i64 0, .int .i64 0, .int .i64 0] 37)) fun (h100 : Hp) =>
Let (Addr.mk (Array.size sL2.2) 0 none) fun (p101 : Addr) =>
appS 37 8 72 [.int .i64 0, .int .u64 0, .int .i64 0, .bool false, .string (ByteArray.mk #[]), .int .i64 0, .int .i64 0, .int .i64 0] sL2.1.1.a sL2.1.1.len sL2.1.1.cap (.slice (some p101) 1 1) h100 fun (t102 : Sl) (h103 : Hp) =>
RegW Tryd.prog 132 (Option.getD (regOps (Option.getD Tryd.f3.body .skip) 11) #[]) [(7, some (.slice t23.a t23.len t23.cap)), (8, some (.slice t24.a t24.len t24.cap)), (11, some (.pointer (some p28))), (13, some (.int .i64 sL2.1.2.2.1))] h103 [(14, .at .ptr), (15, .at .ptr)] fun (sR3 : (Option Addr) × (Option Addr) × Unit) (h104 : Hp) =>
someA sR3.2.1 fun (p105 : Addr) =>
ldA .sl h104 p105 fun (t106 : Sl) =>
ldA (.int .i64) h104 (Addr.add p105 1) fun (t107 : Int) =>
stC h104 p28 (
Let (hset h104 p28 (.slice t106.a t106.len t106.cap)) fun (h108 : Hp) =>
stC h108 (Addr.add p28 1) (
Let (hset h108 (Addr.add p28 1) (.int .i64 t107)) fun (h109 : Hp) =>
someA sR3.1 fun (p110 : Addr) =>
ldA (.int .i64) h109 (Addr.add p110 2) fun (t111 : Int) =>
Let (Array.push h109 (Obj.cells #[.int .i64 t111] 3)) fun (h112 : Hp) =>
Let (Addr.mk (Array.size h109) 0 none) fun (p113 : Addr) =>
appS 3 1 8 [.int .i64 0] sL2.1.2.1.a sL2.1.2.1.len sL2.1.2.1.cap (.slice (some p113) 1 1) h112 fun (t114 : Sl) (h115 : Hp) =>
Let (IntKind.wrap .i64 (sL2.1.2.2.1 + 1) : Int) fun (t116 : Int) =>
R2 ((t102, t114, t116, ()), h115)))) (
J1 ((Sl.mk sL2.1.1.a sL2.1.1.len sL2.1.1.cap), (Sl.mk sL2.1.2.1.a sL2.1.2.1.len sL2.1.2.1.cap), ()) sL2.2)
def F_law28_ConfigCodes (a0_c : Int) (a1_c : Int) (a2_c : Int) (a3_c : Int) (a4_c : Int) (a5_c : Int) (a6_c : Int) (a7_c : Int) (a8_b : Sl) (h : Hp) (K : Bool → Hp → Prop) : Prop :=
Let (Array.push h (Obj.cells #[.int .i64 a0_c, .int .i64 a1_c, .int .i64 a2_c, .int .i64 a3_c, .int .i64 a4_c, .int .i64 a5_c, .int .i64 a6_c, .int .i64 a7_c] 23)) fun (h1 : Hp) =>
Let (Addr.mk (Array.size h) 0 none) fun (p2 : Addr) =>
C_code_NewWriter  h1 fun (t3 : Option Addr) (h4 : Hp) =>
ldA (.int .i64) h4 p2 fun (t5 : Int) =>
ldA (.int .i64) h4 (Addr.add p2 1) fun (t6 : Int) =>
ldA (.int .i64) h4 (Addr.add p2 2) fun (t7 : Int) =>
ldA (.int .i64) h4 (Addr.add p2 3) fun (t8 : Int) =>
ldA (.int .i64) h4 (Addr.add p2 4) fun (t9 : Int) =>
ldA (.int .i64) h4 (Addr.add p2 5) fun (t10 : Int) =>
ldA (.int .i64) h4 (Addr.add p2 6) fun (t11 : Int) =>
ldA (.int .i64) h4 (Addr.add p2 7) fun (t12 : Int) =>
C_config_Put t3 t5 t6 t7 t8 t9 t10 t11 t12 h4 fun  (h13 : Hp) =>
ldA (.int .i64) h13 p2 fun (t14 : Int) =>
ldA (.int .i64) h13 (Addr.add p2 1) fun (t15 : Int) =>
ldA (.int .i64) h13 (Addr.add p2 2) fun (t16 : Int) =>
ldA (.int .i64) h13 (Addr.add p2 3) fun (t17 : Int) =>
ldA (.int .i64) h13 (Addr.add p2 4) fun (t18 : Int) =>
ldA (.int .i64) h13 (Addr.add p2 5) fun (t19 : Int) =>
ldA (.int .i64) h13 (Addr.add p2 6) fun (t20 : Int) =>
ldA (.int .i64) h13 (Addr.add p2 7) fun (t21 : Int) =>
C_ref28_Fields t14 t15 t16 t17 t18 t19 t20 t21 h13 fun (t22 : Sl) (t23 : Sl) (t24 : Sl) (t25 : Sl) (h26 : Hp) =>
Let (Array.push h26 (Obj.cells #[.slice none 0 0, .int .i64 0] 34)) fun (h27 : Hp) =>
Let (Addr.mk (Array.size h26) 0 none) fun (p28 : Addr) =>
stC h27 p28 (
Let (hset h27 p28 (.slice a8_b.a a8_b.len a8_b.cap)) fun (h29 : Hp) =>
stC h29 (Addr.add p28 1) (
Let (hset h29 (Addr.add p28 1) (.int .i64 0)) fun (h30 : Hp) =>
Jn (J1_law28_ConfigCodes a8_b K t3 p28) fun (J1 : Sl × Sl × Unit → Hp → Prop) =>
∃ n, Lp (L2_law28_ConfigCodes t22 t23 t24 p28 J1) n (((Sl.mk none 0 0), (Sl.mk none 0 0), 0, ()), h30)))

theorem F_law28_ConfigCodes_ok (a0_c : Int) (a1_c : Int) (a2_c : Int) (a3_c : Int) (a4_c : Int) (a5_c : Int) (a6_c : Int) (a7_c : Int) (a8_b : Sl) (h : Hp) (K : Bool → Hp → Prop) (hF : F_law28_ConfigCodes a0_c a1_c a2_c a3_c a4_c a5_c a6_c a7_c a8_b h K) : C_law28_ConfigCodes a0_c a1_c a2_c a3_c a4_c a5_c a6_c a7_c a8_b h K := by
  have e : bodyVC Tryd.prog Tryd.f3 (.seq .no (.seq .no (.seq .no (.seq .no (.seq .no (.seq .no (.seq .no (.join [(10, .at .sl), (12, .at .sl)] (.seq .no (.block (.loop [(10, .at .sl), (12, .at .sl), (13, .at (.int .i64))] (.seq (.seq .no (.cond .no .no)) (.seq (.block (.seq .no (.seq (.sem [7, 8, 11, 13] [(14, .at .ptr), (15, .at .ptr)]) (.seq .no .no)))) .no))))) (.seq .no (.seq .no (.seq .no (.join [] (.seq .no (.block (.loop [(22, .at (.int .i64))] (.seq (.seq .no (.cond .no .no)) (.seq (.block (.seq .no (.cond (.seq .no .no) .no))) .no))))) (.seq .dr .no))))))))))))) (Option.getD Tryd.f3.body .skip) [.agg #[.int .i64 a0_c, .int .i64 a1_c, .int .i64 a2_c, .int .i64 a3_c, .int .i64 a4_c, .int .i64 a5_c, .int .i64 a6_c, .int .i64 a7_c], .slice a8_b.a a8_b.len a8_b.cap] h [.at .bool] (fun s h => K s.1 h) = F_law28_ConfigCodes a0_c a1_c a2_c a3_c a4_c a5_c a6_c a7_c a8_b h K := by kernel_rfl
  exact fun_sound mixed Tryd.func3 rfl (e.mpr hF)

def F_law28_ConfigBack (a0_c : Int) (a1_c : Int) (a2_c : Int) (a3_c : Int) (a4_c : Int) (a5_c : Int) (a6_c : Int) (a7_c : Int) (h : Hp) (K : Bool → Hp → Prop) : Prop :=
Let (Array.push h (Obj.cells #[.int .i64 a0_c, .int .i64 a1_c, .int .i64 a2_c, .int .i64 a3_c, .int .i64 a4_c, .int .i64 a5_c, .int .i64 a6_c, .int .i64 a7_c] 23)) fun (h1 : Hp) =>
Let (Addr.mk (Array.size h) 0 none) fun (p2 : Addr) =>
ldA (.int .i64) h1 p2 fun (t3 : Int) =>
ldA (.int .i64) h1 (Addr.add p2 1) fun (t4 : Int) =>
ldA (.int .i64) h1 (Addr.add p2 2) fun (t5 : Int) =>
ldA (.int .i64) h1 (Addr.add p2 3) fun (t6 : Int) =>
ldA (.int .i64) h1 (Addr.add p2 4) fun (t7 : Int) =>
ldA (.int .i64) h1 (Addr.add p2 5) fun (t8 : Int) =>
ldA (.int .i64) h1 (Addr.add p2 6) fun (t9 : Int) =>
ldA (.int .i64) h1 (Addr.add p2 7) fun (t10 : Int) =>
C_ref28_Wrong t3 t4 t5 t6 t7 t8 t9 t10 h1 fun (t11 : Int) (h12 : Hp) =>
cnd (decide (t11 < 8)) (
C_law28_lives  h12 fun (t13 : Bool) (h14 : Hp) =>
K t13 h14) (
C_code_NewWriter  h12 fun (t15 : Option Addr) (h16 : Hp) =>
ldA (.int .i64) h16 p2 fun (t17 : Int) =>
ldA (.int .i64) h16 (Addr.add p2 1) fun (t18 : Int) =>
ldA (.int .i64) h16 (Addr.add p2 2) fun (t19 : Int) =>
ldA (.int .i64) h16 (Addr.add p2 3) fun (t20 : Int) =>
ldA (.int .i64) h16 (Addr.add p2 4) fun (t21 : Int) =>
ldA (.int .i64) h16 (Addr.add p2 5) fun (t22 : Int) =>
ldA (.int .i64) h16 (Addr.add p2 6) fun (t23 : Int) =>
ldA (.int .i64) h16 (Addr.add p2 7) fun (t24 : Int) =>
C_config_Put t15 t17 t18 t19 t20 t21 t22 t23 t24 h16 fun  (h25 : Hp) =>
C_code_Writer_Bytes t15 h25 fun (t26 : Sl) (h27 : Hp) =>
C_code_NewReader t26 h27 fun (t28 : Option Addr) (h29 : Hp) =>
∃ (S30 : List Nat),
C_config_Get t28 h29 fun (t31 : Int) (t32 : Int) (t33 : Int) (t34 : Int) (t35 : Int) (t36 : Int) (t37 : Int) (t38 : Int) (h39 : Hp) =>
ExtS S30 h29 h39 ∧ (
(Addr.block p2 ∉ S30) ∧ (
ldA (.int .i64) h29 p2 fun (t40 : Int) =>
ldA (.int .i64) h29 (Addr.add p2 1) fun (t41 : Int) =>
ldA (.int .i64) h29 (Addr.add p2 2) fun (t42 : Int) =>
ldA (.int .i64) h29 (Addr.add p2 3) fun (t43 : Int) =>
ldA (.int .i64) h29 (Addr.add p2 4) fun (t44 : Int) =>
ldA (.int .i64) h29 (Addr.add p2 5) fun (t45 : Int) =>
ldA (.int .i64) h29 (Addr.add p2 6) fun (t46 : Int) =>
ldA (.int .i64) h29 (Addr.add p2 7) fun (t47 : Int) =>
cnd ((t31 == t40) && ((t32 == t41) && ((t33 == t42) && ((t34 == t43) && ((t35 == t44) && ((t36 == t45) && ((t37 == t46) && ((t38 == t47) && true)))))))) (
C_code_Reader_End t28 h39 fun (t48 : Int) (h49 : Hp) =>
cnd (t48 == 0) (
C_law28_lives  h49 fun (t50 : Bool) (h51 : Hp) =>
K t50 h51) (
K false h49)) (
K false h39))))

theorem F_law28_ConfigBack_ok (a0_c : Int) (a1_c : Int) (a2_c : Int) (a3_c : Int) (a4_c : Int) (a5_c : Int) (a6_c : Int) (a7_c : Int) (h : Hp) (K : Bool → Hp → Prop) (hF : F_law28_ConfigBack a0_c a1_c a2_c a3_c a4_c a5_c a6_c a7_c h K) : C_law28_ConfigBack a0_c a1_c a2_c a3_c a4_c a5_c a6_c a7_c h K := by
  have e : bodyVC Tryd.prog Tryd.f4 (.seq .no (.seq (.seq .no (.cond (.seq .no .no) .no)) (.seq .no (.seq .no (.seq .no (.seq .dr .no)))))) (Option.getD Tryd.f4.body .skip) [.agg #[.int .i64 a0_c, .int .i64 a1_c, .int .i64 a2_c, .int .i64 a3_c, .int .i64 a4_c, .int .i64 a5_c, .int .i64 a6_c, .int .i64 a7_c]] h [.at .bool] (fun s h => K s.1 h) = F_law28_ConfigBack a0_c a1_c a2_c a3_c a4_c a5_c a6_c a7_c h K := by kernel_rfl
  exact fun_sound mixed Tryd.func4 rfl (e.mpr hF)

def F_code_NewWriter  (h : Hp) (K : Option Addr → Hp → Prop) : Prop :=
Let (Array.push h (Obj.cells #[.slice none 0 0] 55)) fun (h1 : Hp) =>
Let (Addr.mk (Array.size h) 0 none) fun (p2 : Addr) =>
K (some p2) h1

theorem F_code_NewWriter_ok  (h : Hp) (K : Option Addr → Hp → Prop) (hF : F_code_NewWriter  h K) : C_code_NewWriter  h K := by
  have e : bodyVC Tryd.prog Tryd.f5 (.seq .no (.seq .no .no)) (Option.getD Tryd.f5.body .skip) [] h [.at .ptr] (fun s h => K s.1 h) = F_code_NewWriter  h K := by kernel_rfl
  exact fun_sound mixed Tryd.func5 rfl (e.mpr hF)

def L1_config_Put (a0_w : Option Addr) (K : Hp → Prop) (t3 : Option Addr) (t4 : Option Addr) (t5 : Option Addr) (t6 : Option Addr) (t7 : Option Addr) (t8 : Option Addr) (t9 : Option Addr) (t10 : Option Addr) (sL1 : (Int × Unit) × Hp) (R1 : (Int × Unit) × Hp → Prop) : Prop :=
cnd (decide (sL1.1.1 < 8)) (
idxAr .ptr [.pointer t3, .pointer t4, .pointer t5, .pointer t6, .pointer t7, .pointer t8, .pointer t9, .pointer t10] 8 sL1.1.1 fun (t12 : Option Addr) =>
someA t12 fun (p13 : Addr) =>
ldA (.int .i64) sL1.2 p13 fun (t14 : Int) =>
C_code_Writer_Int a0_w t14 sL1.2 fun  (h15 : Hp) =>
Let (IntKind.wrap .i64 (sL1.1.1 + 1) : Int) fun (t16 : Int) =>
R1 ((t16, ()), h15)) (
K sL1.2)
def F_config_Put (a0_w : Option Addr) (a1_c : Int) (a2_c : Int) (a3_c : Int) (a4_c : Int) (a5_c : Int) (a6_c : Int) (a7_c : Int) (a8_c : Int) (h : Hp) (K : Hp → Prop) : Prop :=
Let (Array.push h (Obj.cells #[.int .i64 a1_c, .int .i64 a2_c, .int .i64 a3_c, .int .i64 a4_c, .int .i64 a5_c, .int .i64 a6_c, .int .i64 a7_c, .int .i64 a8_c] 23)) fun (h1 : Hp) =>
Let (Addr.mk (Array.size h) 0 none) fun (p2 : Addr) =>
C_config_places (some p2) h1 fun (t3 : Option Addr) (t4 : Option Addr) (t5 : Option Addr) (t6 : Option Addr) (t7 : Option Addr) (t8 : Option Addr) (t9 : Option Addr) (t10 : Option Addr) (h11 : Hp) =>
∃ n, Lp (L1_config_Put a0_w K t3 t4 t5 t6 t7 t8 t9 t10) n ((0, ()), h11)

theorem F_config_Put_ok (a0_w : Option Addr) (a1_c : Int) (a2_c : Int) (a3_c : Int) (a4_c : Int) (a5_c : Int) (a6_c : Int) (a7_c : Int) (a8_c : Int) (h : Hp) (K : Hp → Prop) (hF : F_config_Put a0_w a1_c a2_c a3_c a4_c a5_c a6_c a7_c a8_c h K) : C_config_Put a0_w a1_c a2_c a3_c a4_c a5_c a6_c a7_c a8_c h K := by
  have e : bodyVC Tryd.prog Tryd.f6 (.seq .no (.seq .no (.block (.loop [(7, .at (.int .i64))] (.seq .no (.seq (.cond .no .no) (.seq (.block (.seq .no .no)) .no))))))) (Option.getD Tryd.f6.body .skip) [.pointer a0_w, .agg #[.int .i64 a1_c, .int .i64 a2_c, .int .i64 a3_c, .int .i64 a4_c, .int .i64 a5_c, .int .i64 a6_c, .int .i64 a7_c, .int .i64 a8_c]] h [] (fun s h => K h) = F_config_Put a0_w a1_c a2_c a3_c a4_c a5_c a6_c a7_c a8_c h K := by kernel_rfl
  exact fun_sound mixed Tryd.func6 rfl (e.mpr hF)

def F_ref28_Fields (a0_c : Int) (a1_c : Int) (a2_c : Int) (a3_c : Int) (a4_c : Int) (a5_c : Int) (a6_c : Int) (a7_c : Int) (h : Hp) (K : Sl → Sl → Sl → Sl → Hp → Prop) : Prop :=
Let (Array.push h (Obj.cells #[.int .i64 a0_c, .int .i64 a1_c, .int .i64 a2_c, .int .i64 a3_c, .int .i64 a4_c, .int .i64 a5_c, .int .i64 a6_c, .int .i64 a7_c] 23)) fun (h1 : Hp) =>
Let (Addr.mk (Array.size h) 0 none) fun (p2 : Addr) =>
ldA (.int .i64) h1 p2 fun (t3 : Int) =>
ldA (.int .i64) h1 (Addr.add p2 1) fun (t4 : Int) =>
ldA (.int .i64) h1 (Addr.add p2 2) fun (t5 : Int) =>
ldA (.int .i64) h1 (Addr.add p2 3) fun (t6 : Int) =>
ldA (.int .i64) h1 (Addr.add p2 4) fun (t7 : Int) =>
ldA (.int .i64) h1 (Addr.add p2 5) fun (t8 : Int) =>
ldA (.int .i64) h1 (Addr.add p2 6) fun (t9 : Int) =>
ldA (.int .i64) h1 (Addr.add p2 7) fun (t10 : Int) =>
Let (Array.push h1 (Obj.cells #[.int .i64 t3, .int .i64 t4, .int .i64 t5, .int .i64 t6, .int .i64 t7, .int .i64 t8, .int .i64 t9, .int .i64 t10] 3)) fun (h11 : Hp) =>
Let (Addr.mk (Array.size h1) 0 none) fun (p12 : Addr) =>
Let (Array.push h11 (Obj.cells #[.int .i64 1, .int .i64 1, .int .i64 0, .int .i64 4, .int .i64 1, .int .i64 1, .int .i64 0, .int .i64 0] 3)) fun (h13 : Hp) =>
Let (Addr.mk (Array.size h11) 0 none) fun (p14 : Addr) =>
Let (Array.push h13 (Obj.cells #[.int .i64 4, .int .i64 3, .int .i64 65536, .int .i64 256, .int .i64 2, .int .i64 1048576, .int .i64 64, .int .i64 64] 3)) fun (h15 : Hp) =>
Let (Addr.mk (Array.size h13) 0 none) fun (p16 : Addr) =>
Let (Array.push h15 (Obj.cells #[.string (ByteArray.mk #[75, 105, 110, 100]), .string (ByteArray.mk #[77, 101, 116, 114, 105, 99]), .string (ByteArray.mk #[83, 105, 122, 101]), .string (ByteArray.mk #[67, 97, 112]), .string (ByteArray.mk #[80, 111, 108, 105, 99, 121]), .string (ByteArray.mk #[76, 105, 109, 105, 116]), .string (ByteArray.mk #[67, 117, 114, 115, 111, 114, 115]), .string (ByteArray.mk #[80, 105, 118, 111, 116, 115])] 9)) fun (h17 : Hp) =>
Let (Addr.mk (Array.size h15) 0 none) fun (p18 : Addr) =>
K (Sl.mk (some p12) 8 8) (Sl.mk (some p14) 8 8) (Sl.mk (some p16) 8 8) (Sl.mk (some p18) 8 8) h17

theorem F_ref28_Fields_ok (a0_c : Int) (a1_c : Int) (a2_c : Int) (a3_c : Int) (a4_c : Int) (a5_c : Int) (a6_c : Int) (a7_c : Int) (h : Hp) (K : Sl → Sl → Sl → Sl → Hp → Prop) (hF : F_ref28_Fields a0_c a1_c a2_c a3_c a4_c a5_c a6_c a7_c h K) : C_ref28_Fields a0_c a1_c a2_c a3_c a4_c a5_c a6_c a7_c h K := by
  have e : bodyVC Tryd.prog Tryd.f7 (.seq .no (.seq .no .no)) (Option.getD Tryd.f7.body .skip) [.agg #[.int .i64 a0_c, .int .i64 a1_c, .int .i64 a2_c, .int .i64 a3_c, .int .i64 a4_c, .int .i64 a5_c, .int .i64 a6_c, .int .i64 a7_c]] h [.at .sl, .at .sl, .at .sl, .at .sl] (fun s h => K s.1 s.2.1 s.2.2.1 s.2.2.2.1 h) = F_ref28_Fields a0_c a1_c a2_c a3_c a4_c a5_c a6_c a7_c h K := by kernel_rfl
  exact fun_sound mixed Tryd.func7 rfl (e.mpr hF)

def J1_ref03_Take (K : Int → Int → Int → Bool → ByteArray → Int → Int → Int → Sl → Int → Hp → Prop) (p6 : Addr) (p8 : Addr) (p11 : Addr) (sJ1 : Sl × Unit) (hJ1 : Hp) : Prop :=
ldA (.int .i64) hJ1 p11 fun (t85 : Int) =>
ldA (.int .u64) hJ1 (Addr.add p11 1) fun (t86 : Int) =>
ldA (.int .i64) hJ1 (Addr.add p11 2) fun (t87 : Int) =>
ldA .bool hJ1 (Addr.add p11 3) fun (t88 : Bool) =>
ldA .str hJ1 (Addr.add p11 4) fun (t89 : ByteArray) =>
ldA (.int .i64) hJ1 (Addr.add p11 5) fun (t90 : Int) =>
ldA (.int .i64) hJ1 (Addr.add p11 6) fun (t91 : Int) =>
ldA (.int .i64) hJ1 (Addr.add p11 7) fun (t92 : Int) =>
stC hJ1 p6 (
Let (hset hJ1 p6 (.int .i64 t85)) fun (h93 : Hp) =>
stC h93 (Addr.add p6 1) (
Let (hset h93 (Addr.add p6 1) (.int .u64 t86)) fun (h94 : Hp) =>
stC h94 (Addr.add p6 2) (
Let (hset h94 (Addr.add p6 2) (.int .i64 t87)) fun (h95 : Hp) =>
stC h95 (Addr.add p6 3) (
Let (hset h95 (Addr.add p6 3) (.bool t88)) fun (h96 : Hp) =>
stC h96 (Addr.add p6 4) (
Let (hset h96 (Addr.add p6 4) (.string t89)) fun (h97 : Hp) =>
stC h97 (Addr.add p6 5) (
Let (hset h97 (Addr.add p6 5) (.int .i64 t90)) fun (h98 : Hp) =>
stC h98 (Addr.add p6 6) (
Let (hset h98 (Addr.add p6 6) (.int .i64 t91)) fun (h99 : Hp) =>
stC h99 (Addr.add p6 7) (
Let (hset h99 (Addr.add p6 7) (.int .i64 t92)) fun (h100 : Hp) =>
stC h100 p8 (
Let (hset h100 p8 (.slice sJ1.1.a sJ1.1.len sJ1.1.cap)) fun (h101 : Hp) =>
stC h101 (Addr.add p8 1) (
Let (hset h101 (Addr.add p8 1) (.int .i64 0)) fun (h102 : Hp) =>
ldA (.int .i64) h102 p6 fun (r103 : Int) =>
ldA (.int .u64) h102 (Addr.add p6 1) fun (r104 : Int) =>
ldA (.int .i64) h102 (Addr.add p6 2) fun (r105 : Int) =>
ldA .bool h102 (Addr.add p6 3) fun (r106 : Bool) =>
ldA .str h102 (Addr.add p6 4) fun (r107 : ByteArray) =>
ldA (.int .i64) h102 (Addr.add p6 5) fun (r108 : Int) =>
ldA (.int .i64) h102 (Addr.add p6 6) fun (r109 : Int) =>
ldA (.int .i64) h102 (Addr.add p6 7) fun (r110 : Int) =>
ldA .sl h102 p8 fun (r111 : Sl) =>
ldA (.int .i64) h102 (Addr.add p8 1) fun (r112 : Int) =>
K r103 r104 r105 r106 r107 r108 r109 r110 r111 r112 h102))))))))))
def J3_ref03_Take (K : Int → Int → Int → Bool → ByteArray → Int → Int → Int → Sl → Int → Hp → Prop) (p6 : Addr) (p8 : Addr) (p11 : Addr) (t54 : Sl) (J1 : Sl × Unit → Hp → Prop) (sJ2 : Int × Unit) (sJ3 : Bool × Unit) (hJ3 : Hp) : Prop :=
cnd sJ3.1 (
ldA (.int .i64) hJ3 p11 fun (t146 : Int) =>
ldA (.int .u64) hJ3 (Addr.add p11 1) fun (t147 : Int) =>
ldA (.int .i64) hJ3 (Addr.add p11 2) fun (t148 : Int) =>
ldA .bool hJ3 (Addr.add p11 3) fun (t149 : Bool) =>
ldA .str hJ3 (Addr.add p11 4) fun (t150 : ByteArray) =>
ldA (.int .i64) hJ3 (Addr.add p11 5) fun (t151 : Int) =>
ldA (.int .i64) hJ3 (Addr.add p11 6) fun (t152 : Int) =>
ldA (.int .i64) hJ3 (Addr.add p11 7) fun (t153 : Int) =>
stC hJ3 p6 (
Let (hset hJ3 p6 (.int .i64 t146)) fun (h154 : Hp) =>
stC h154 (Addr.add p6 1) (
Let (hset h154 (Addr.add p6 1) (.int .u64 t147)) fun (h155 : Hp) =>
stC h155 (Addr.add p6 2) (
Let (hset h155 (Addr.add p6 2) (.int .i64 t148)) fun (h156 : Hp) =>
stC h156 (Addr.add p6 3) (
Let (hset h156 (Addr.add p6 3) (.bool t149)) fun (h157 : Hp) =>
stC h157 (Addr.add p6 4) (
Let (hset h157 (Addr.add p6 4) (.string t150)) fun (h158 : Hp) =>
stC h158 (Addr.add p6 5) (
Let (hset h158 (Addr.add p6 5) (.int .i64 t151)) fun (h159 : Hp) =>
stC h159 (Addr.add p6 6) (
Let (hset h159 (Addr.add p6 6) (.int .i64 t152)) fun (h160 : Hp) =>
stC h160 (Addr.add p6 7) (
Let (hset h160 (Addr.add p6 7) (.int .i64 t153)) fun (h161 : Hp) =>
stC h161 p8 (
Let (hset h161 p8 (.slice none 0 0)) fun (h162 : Hp) =>
stC h162 (Addr.add p8 1) (
Let (hset h162 (Addr.add p8 1) (.int .i64 14)) fun (h163 : Hp) =>
ldA (.int .i64) h163 p6 fun (r164 : Int) =>
ldA (.int .u64) h163 (Addr.add p6 1) fun (r165 : Int) =>
ldA (.int .i64) h163 (Addr.add p6 2) fun (r166 : Int) =>
ldA .bool h163 (Addr.add p6 3) fun (r167 : Bool) =>
ldA .str h163 (Addr.add p6 4) fun (r168 : ByteArray) =>
ldA (.int .i64) h163 (Addr.add p6 5) fun (r169 : Int) =>
ldA (.int .i64) h163 (Addr.add p6 6) fun (r170 : Int) =>
ldA (.int .i64) h163 (Addr.add p6 7) fun (r171 : Int) =>
ldA .sl h163 p8 fun (r172 : Sl) =>
ldA (.int .i64) h163 (Addr.add p8 1) fun (r173 : Int) =>
K r164 r165 r166 r167 r168 r169 r170 r171 r172 r173 h163))))))))))) (
((1 : Nat) = 1) ∧ (
stC hJ3 (Addr.add p11 2) (
Let (hset hJ3 (Addr.add p11 2) (.int .i64 sJ2.1)) fun (h174 : Hp) =>
J1 (t54, ()) h174)))
def J2_ref03_Take (K : Int → Int → Int → Bool → ByteArray → Int → Int → Int → Sl → Int → Hp → Prop) (p4 : Addr) (p6 : Addr) (p8 : Addr) (p11 : Addr) (t54 : Sl) (J1 : Sl × Unit → Hp → Prop) (sJ2 : Int × Unit) (hJ2 : Hp) : Prop :=
Jn (J3_ref03_Take K p6 p8 p11 t54 J1 sJ2) fun (J3 : Bool × Unit → Hp → Prop) =>
ldA (.int .i64) hJ2 (Addr.add p4 5) fun (t175 : Int) =>
cnd (decide (sJ2.1 < t175)) (
J3 (true, ()) hJ2) (
ldA (.int .i64) hJ2 (Addr.add p4 6) fun (t176 : Int) =>
J3 (decide (sJ2.1 > t176), ()) hJ2)
def J4_ref03_Take (K : Int → Int → Int → Bool → ByteArray → Int → Int → Int → Sl → Int → Hp → Prop) (p6 : Addr) (p8 : Addr) (p11 : Addr) (t53 : Int) (t54 : Sl) (J1 : Sl × Unit → Hp → Prop) (sJ4 : Bool × Unit) (hJ4 : Hp) : Prop :=
cnd sJ4.1 (
ldA (.int .i64) hJ4 p11 fun (t211 : Int) =>
ldA (.int .u64) hJ4 (Addr.add p11 1) fun (t212 : Int) =>
ldA (.int .i64) hJ4 (Addr.add p11 2) fun (t213 : Int) =>
ldA .bool hJ4 (Addr.add p11 3) fun (t214 : Bool) =>
ldA .str hJ4 (Addr.add p11 4) fun (t215 : ByteArray) =>
ldA (.int .i64) hJ4 (Addr.add p11 5) fun (t216 : Int) =>
ldA (.int .i64) hJ4 (Addr.add p11 6) fun (t217 : Int) =>
ldA (.int .i64) hJ4 (Addr.add p11 7) fun (t218 : Int) =>
stC hJ4 p6 (
Let (hset hJ4 p6 (.int .i64 t211)) fun (h219 : Hp) =>
stC h219 (Addr.add p6 1) (
Let (hset h219 (Addr.add p6 1) (.int .u64 t212)) fun (h220 : Hp) =>
stC h220 (Addr.add p6 2) (
Let (hset h220 (Addr.add p6 2) (.int .i64 t213)) fun (h221 : Hp) =>
stC h221 (Addr.add p6 3) (
Let (hset h221 (Addr.add p6 3) (.bool t214)) fun (h222 : Hp) =>
stC h222 (Addr.add p6 4) (
Let (hset h222 (Addr.add p6 4) (.string t215)) fun (h223 : Hp) =>
stC h223 (Addr.add p6 5) (
Let (hset h223 (Addr.add p6 5) (.int .i64 t216)) fun (h224 : Hp) =>
stC h224 (Addr.add p6 6) (
Let (hset h224 (Addr.add p6 6) (.int .i64 t217)) fun (h225 : Hp) =>
stC h225 (Addr.add p6 7) (
Let (hset h225 (Addr.add p6 7) (.int .i64 t218)) fun (h226 : Hp) =>
stC h226 p8 (
Let (hset h226 p8 (.slice none 0 0)) fun (h227 : Hp) =>
stC h227 (Addr.add p8 1) (
Let (hset h227 (Addr.add p8 1) (.int .i64 14)) fun (h228 : Hp) =>
ldA (.int .i64) h228 p6 fun (r229 : Int) =>
ldA (.int .u64) h228 (Addr.add p6 1) fun (r230 : Int) =>
ldA (.int .i64) h228 (Addr.add p6 2) fun (r231 : Int) =>
ldA .bool h228 (Addr.add p6 3) fun (r232 : Bool) =>
ldA .str h228 (Addr.add p6 4) fun (r233 : ByteArray) =>
ldA (.int .i64) h228 (Addr.add p6 5) fun (r234 : Int) =>
ldA (.int .i64) h228 (Addr.add p6 6) fun (r235 : Int) =>
ldA (.int .i64) h228 (Addr.add p6 7) fun (r236 : Int) =>
ldA .sl h228 p8 fun (r237 : Sl) =>
ldA (.int .i64) h228 (Addr.add p8 1) fun (r238 : Int) =>
K r229 r230 r231 r232 r233 r234 r235 r236 r237 r238 h228))))))))))) (
Let (IntKind.wrap .u64 ((t54.len : Int)) : Int) fun (t239 : Int) =>
cnd (decide (t239 < t53)) (
ldA (.int .i64) hJ4 p11 fun (t240 : Int) =>
ldA (.int .u64) hJ4 (Addr.add p11 1) fun (t241 : Int) =>
ldA (.int .i64) hJ4 (Addr.add p11 2) fun (t242 : Int) =>
ldA .bool hJ4 (Addr.add p11 3) fun (t243 : Bool) =>
ldA .str hJ4 (Addr.add p11 4) fun (t244 : ByteArray) =>
ldA (.int .i64) hJ4 (Addr.add p11 5) fun (t245 : Int) =>
ldA (.int .i64) hJ4 (Addr.add p11 6) fun (t246 : Int) =>
ldA (.int .i64) hJ4 (Addr.add p11 7) fun (t247 : Int) =>
stC hJ4 p6 (
Let (hset hJ4 p6 (.int .i64 t240)) fun (h248 : Hp) =>
stC h248 (Addr.add p6 1) (
Let (hset h248 (Addr.add p6 1) (.int .u64 t241)) fun (h249 : Hp) =>
stC h249 (Addr.add p6 2) (
Let (hset h249 (Addr.add p6 2) (.int .i64 t242)) fun (h250 : Hp) =>
stC h250 (Addr.add p6 3) (
Let (hset h250 (Addr.add p6 3) (.bool t243)) fun (h251 : Hp) =>
stC h251 (Addr.add p6 4) (
Let (hset h251 (Addr.add p6 4) (.string t244)) fun (h252 : Hp) =>
stC h252 (Addr.add p6 5) (
Let (hset h252 (Addr.add p6 5) (.int .i64 t245)) fun (h253 : Hp) =>
stC h253 (Addr.add p6 6) (
Let (hset h253 (Addr.add p6 6) (.int .i64 t246)) fun (h254 : Hp) =>
stC h254 (Addr.add p6 7) (
Let (hset h254 (Addr.add p6 7) (.int .i64 t247)) fun (h255 : Hp) =>
stC h255 p8 (
Let (hset h255 p8 (.slice none 0 0)) fun (h256 : Hp) =>
stC h256 (Addr.add p8 1) (
Let (hset h256 (Addr.add p8 1) (.int .i64 13)) fun (h257 : Hp) =>
ldA (.int .i64) h257 p6 fun (r258 : Int) =>
ldA (.int .u64) h257 (Addr.add p6 1) fun (r259 : Int) =>
ldA (.int .i64) h257 (Addr.add p6 2) fun (r260 : Int) =>
ldA .bool h257 (Addr.add p6 3) fun (r261 : Bool) =>
ldA .str h257 (Addr.add p6 4) fun (r262 : ByteArray) =>
ldA (.int .i64) h257 (Addr.add p6 5) fun (r263 : Int) =>
ldA (.int .i64) h257 (Addr.add p6 6) fun (r264 : Int) =>
ldA (.int .i64) h257 (Addr.add p6 7) fun (r265 : Int) =>
ldA .sl h257 p8 fun (r266 : Sl) =>
ldA (.int .i64) h257 (Addr.add p8 1) fun (r267 : Int) =>
K r258 r259 r260 r261 r262 r263 r264 r265 r266 r267 h257))))))))))) (
slcS t54.a t54.len t54.cap none (some t53) 1 fun (t268 : Option Addr) (l269 c270 : Nat) =>
btS hJ4 t268 l269 fun (t271 : ByteArray) =>
((1 : Nat) = 1) ∧ (
stC hJ4 (Addr.add p11 4) (
Let (hset hJ4 (Addr.add p11 4) (.string t271)) fun (h272 : Hp) =>
slcS t54.a t54.len t54.cap (some t53) none 1 fun (t273 : Option Addr) (l274 c275 : Nat) =>
J1 ((Sl.mk t273 l274 c275), ()) h272))))
def F_ref03_Take (a0_r : Sl) (a1_r : Int) (a2_p : Int) (a3_p : Int) (a4_p : Int) (a5_p : Bool) (a6_p : ByteArray) (a7_p : Int) (a8_p : Int) (a9_p : Int) (h : Hp) (K : Int → Int → Int → Bool → ByteArray → Int → Int → Int → Sl → Int → Hp → Prop) : Prop :=
Let (Array.push h (Obj.cells #[.slice a0_r.a a0_r.len a0_r.cap, .int .i64 a1_r] 34)) fun (h1 : Hp) =>
Let (Addr.mk (Array.size h) 0 none) fun (p2 : Addr) =>
Let (Array.push h1 (Obj.cells #[.int .i64 a2_p, .int .u64 a3_p, .int .i64 a4_p, .bool a5_p, .string a6_p, .int .i64 a7_p, .int .i64 a8_p, .int .i64 a9_p] 37)) fun (h3 : Hp) =>
Let (Addr.mk (Array.size h1) 0 none) fun (p4 : Addr) =>
Let (Array.push h3 (Obj.cells #[.int .i64 0, .int .u64 0, .int .i64 0, .bool false, .string (ByteArray.mk #[]), .int .i64 0, .int .i64 0, .int .i64 0] 37)) fun (h5 : Hp) =>
Let (Addr.mk (Array.size h3) 0 none) fun (p6 : Addr) =>
Let (Array.push h5 (Obj.cells #[.slice none 0 0, .int .i64 0] 34)) fun (h7 : Hp) =>
Let (Addr.mk (Array.size h5) 0 none) fun (p8 : Addr) =>
ldA (.int .i64) h7 p4 fun (t9 : Int) =>
Let (Array.push h7 (Obj.cells #[.int .i64 0, .int .u64 0, .int .i64 0, .bool false, .string (ByteArray.mk #[]), .int .i64 0, .int .i64 0, .int .i64 0] 37)) fun (h10 : Hp) =>
Let (Addr.mk (Array.size h7) 0 none) fun (p11 : Addr) =>
stC h10 p11 (
Let (hset h10 p11 (.int .i64 t9)) fun (h12 : Hp) =>
stC h12 (Addr.add p11 1) (
Let (hset h12 (Addr.add p11 1) (.int .u64 0)) fun (h13 : Hp) =>
stC h13 (Addr.add p11 2) (
Let (hset h13 (Addr.add p11 2) (.int .i64 0)) fun (h14 : Hp) =>
stC h14 (Addr.add p11 3) (
Let (hset h14 (Addr.add p11 3) (.bool false)) fun (h15 : Hp) =>
stC h15 (Addr.add p11 4) (
Let (hset h15 (Addr.add p11 4) (.string (ByteArray.mk #[]))) fun (h16 : Hp) =>
stC h16 (Addr.add p11 5) (
Let (hset h16 (Addr.add p11 5) (.int .i64 0)) fun (h17 : Hp) =>
stC h17 (Addr.add p11 6) (
Let (hset h17 (Addr.add p11 6) (.int .i64 0)) fun (h18 : Hp) =>
stC h18 (Addr.add p11 7) (
Let (hset h18 (Addr.add p11 7) (.int .i64 0)) fun (h19 : Hp) =>
ldA (.int .i64) h19 (Addr.add p2 1) fun (t20 : Int) =>
cnd (t20 != 0) (
∃ (S21 : List Nat),
(Addr.block p11 ∉ S21) ∧ (
ldA (.int .i64) h19 p11 fun (t22 : Int) =>
ldA (.int .u64) h19 (Addr.add p11 1) fun (t23 : Int) =>
ldA (.int .i64) h19 (Addr.add p11 2) fun (t24 : Int) =>
ldA .bool h19 (Addr.add p11 3) fun (t25 : Bool) =>
ldA .str h19 (Addr.add p11 4) fun (t26 : ByteArray) =>
ldA (.int .i64) h19 (Addr.add p11 5) fun (t27 : Int) =>
ldA (.int .i64) h19 (Addr.add p11 6) fun (t28 : Int) =>
ldA (.int .i64) h19 (Addr.add p11 7) fun (t29 : Int) =>
(Addr.block p2 ∉ S21) ∧ (
ldA .sl h19 p2 fun (t30 : Sl) =>
ldA (.int .i64) h19 (Addr.add p2 1) fun (t31 : Int) =>
stC h19 p6 (
Let (hset h19 p6 (.int .i64 t22)) fun (h32 : Hp) =>
stC h32 (Addr.add p6 1) (
Let (hset h32 (Addr.add p6 1) (.int .u64 t23)) fun (h33 : Hp) =>
stC h33 (Addr.add p6 2) (
Let (hset h33 (Addr.add p6 2) (.int .i64 t24)) fun (h34 : Hp) =>
stC h34 (Addr.add p6 3) (
Let (hset h34 (Addr.add p6 3) (.bool t25)) fun (h35 : Hp) =>
stC h35 (Addr.add p6 4) (
Let (hset h35 (Addr.add p6 4) (.string t26)) fun (h36 : Hp) =>
stC h36 (Addr.add p6 5) (
Let (hset h36 (Addr.add p6 5) (.int .i64 t27)) fun (h37 : Hp) =>
stC h37 (Addr.add p6 6) (
Let (hset h37 (Addr.add p6 6) (.int .i64 t28)) fun (h38 : Hp) =>
stC h38 (Addr.add p6 7) (
Let (hset h38 (Addr.add p6 7) (.int .i64 t29)) fun (h39 : Hp) =>
ExtS S21 h19 h39 ∧ (
stC h39 p8 (
Let (hset h39 p8 (.slice t30.a t30.len t30.cap)) fun (h40 : Hp) =>
stC h40 (Addr.add p8 1) (
Let (hset h40 (Addr.add p8 1) (.int .i64 t31)) fun (h41 : Hp) =>
ldA (.int .i64) h41 p6 fun (r42 : Int) =>
ldA (.int .u64) h41 (Addr.add p6 1) fun (r43 : Int) =>
ldA (.int .i64) h41 (Addr.add p6 2) fun (r44 : Int) =>
ldA .bool h41 (Addr.add p6 3) fun (r45 : Bool) =>
ldA .str h41 (Addr.add p6 4) fun (r46 : ByteArray) =>
ldA (.int .i64) h41 (Addr.add p6 5) fun (r47 : Int) =>
ldA (.int .i64) h41 (Addr.add p6 6) fun (r48 : Int) =>
ldA (.int .i64) h41 (Addr.add p6 7) fun (r49 : Int) =>
ldA .sl h41 p8 fun (r50 : Sl) =>
ldA (.int .i64) h41 (Addr.add p8 1) fun (r51 : Int) =>
K r42 r43 r44 r45 r46 r47 r48 r49 r50 r51 h41)))))))))))))) (
ldA .sl h19 p2 fun (t52 : Sl) =>
C_ref03_number t52 h19 fun (t53 : Int) (t54 : Sl) (t55 : Int) (h56 : Hp) =>
cnd (t55 != 0) (
ldA (.int .i64) h56 p11 fun (t57 : Int) =>
ldA (.int .u64) h56 (Addr.add p11 1) fun (t58 : Int) =>
ldA (.int .i64) h56 (Addr.add p11 2) fun (t59 : Int) =>
ldA .bool h56 (Addr.add p11 3) fun (t60 : Bool) =>
ldA .str h56 (Addr.add p11 4) fun (t61 : ByteArray) =>
ldA (.int .i64) h56 (Addr.add p11 5) fun (t62 : Int) =>
ldA (.int .i64) h56 (Addr.add p11 6) fun (t63 : Int) =>
ldA (.int .i64) h56 (Addr.add p11 7) fun (t64 : Int) =>
stC h56 p6 (
Let (hset h56 p6 (.int .i64 t57)) fun (h65 : Hp) =>
stC h65 (Addr.add p6 1) (
Let (hset h65 (Addr.add p6 1) (.int .u64 t58)) fun (h66 : Hp) =>
stC h66 (Addr.add p6 2) (
Let (hset h66 (Addr.add p6 2) (.int .i64 t59)) fun (h67 : Hp) =>
stC h67 (Addr.add p6 3) (
Let (hset h67 (Addr.add p6 3) (.bool t60)) fun (h68 : Hp) =>
stC h68 (Addr.add p6 4) (
Let (hset h68 (Addr.add p6 4) (.string t61)) fun (h69 : Hp) =>
stC h69 (Addr.add p6 5) (
Let (hset h69 (Addr.add p6 5) (.int .i64 t62)) fun (h70 : Hp) =>
stC h70 (Addr.add p6 6) (
Let (hset h70 (Addr.add p6 6) (.int .i64 t63)) fun (h71 : Hp) =>
stC h71 (Addr.add p6 7) (
Let (hset h71 (Addr.add p6 7) (.int .i64 t64)) fun (h72 : Hp) =>
stC h72 p8 (
Let (hset h72 p8 (.slice none 0 0)) fun (h73 : Hp) =>
stC h73 (Addr.add p8 1) (
Let (hset h73 (Addr.add p8 1) (.int .i64 t55)) fun (h74 : Hp) =>
ldA (.int .i64) h74 p6 fun (r75 : Int) =>
ldA (.int .u64) h74 (Addr.add p6 1) fun (r76 : Int) =>
ldA (.int .i64) h74 (Addr.add p6 2) fun (r77 : Int) =>
ldA .bool h74 (Addr.add p6 3) fun (r78 : Bool) =>
ldA .str h74 (Addr.add p6 4) fun (r79 : ByteArray) =>
ldA (.int .i64) h74 (Addr.add p6 5) fun (r80 : Int) =>
ldA (.int .i64) h74 (Addr.add p6 6) fun (r81 : Int) =>
ldA (.int .i64) h74 (Addr.add p6 7) fun (r82 : Int) =>
ldA .sl h74 p8 fun (r83 : Sl) =>
ldA (.int .i64) h74 (Addr.add p8 1) fun (r84 : Int) =>
K r75 r76 r77 r78 r79 r80 r81 r82 r83 r84 h74))))))))))) (
Jn (J1_ref03_Take K p6 p8 p11) fun (J1 : Sl × Unit → Hp → Prop) =>
ldA (.int .i64) h56 p4 fun (t113 : Int) =>
cnd (t113 == 0) (
ldA (.int .u64) h56 (Addr.add p4 1) fun (t114 : Int) =>
cnd (decide (t53 > t114)) (
ldA (.int .i64) h56 p11 fun (t115 : Int) =>
ldA (.int .u64) h56 (Addr.add p11 1) fun (t116 : Int) =>
ldA (.int .i64) h56 (Addr.add p11 2) fun (t117 : Int) =>
ldA .bool h56 (Addr.add p11 3) fun (t118 : Bool) =>
ldA .str h56 (Addr.add p11 4) fun (t119 : ByteArray) =>
ldA (.int .i64) h56 (Addr.add p11 5) fun (t120 : Int) =>
ldA (.int .i64) h56 (Addr.add p11 6) fun (t121 : Int) =>
ldA (.int .i64) h56 (Addr.add p11 7) fun (t122 : Int) =>
stC h56 p6 (
Let (hset h56 p6 (.int .i64 t115)) fun (h123 : Hp) =>
stC h123 (Addr.add p6 1) (
Let (hset h123 (Addr.add p6 1) (.int .u64 t116)) fun (h124 : Hp) =>
stC h124 (Addr.add p6 2) (
Let (hset h124 (Addr.add p6 2) (.int .i64 t117)) fun (h125 : Hp) =>
stC h125 (Addr.add p6 3) (
Let (hset h125 (Addr.add p6 3) (.bool t118)) fun (h126 : Hp) =>
stC h126 (Addr.add p6 4) (
Let (hset h126 (Addr.add p6 4) (.string t119)) fun (h127 : Hp) =>
stC h127 (Addr.add p6 5) (
Let (hset h127 (Addr.add p6 5) (.int .i64 t120)) fun (h128 : Hp) =>
stC h128 (Addr.add p6 6) (
Let (hset h128 (Addr.add p6 6) (.int .i64 t121)) fun (h129 : Hp) =>
stC h129 (Addr.add p6 7) (
Let (hset h129 (Addr.add p6 7) (.int .i64 t122)) fun (h130 : Hp) =>
stC h130 p8 (
Let (hset h130 p8 (.slice none 0 0)) fun (h131 : Hp) =>
stC h131 (Addr.add p8 1) (
Let (hset h131 (Addr.add p8 1) (.int .i64 14)) fun (h132 : Hp) =>
ldA (.int .i64) h132 p6 fun (r133 : Int) =>
ldA (.int .u64) h132 (Addr.add p6 1) fun (r134 : Int) =>
ldA (.int .i64) h132 (Addr.add p6 2) fun (r135 : Int) =>
ldA .bool h132 (Addr.add p6 3) fun (r136 : Bool) =>
ldA .str h132 (Addr.add p6 4) fun (r137 : ByteArray) =>
ldA (.int .i64) h132 (Addr.add p6 5) fun (r138 : Int) =>
ldA (.int .i64) h132 (Addr.add p6 6) fun (r139 : Int) =>
ldA (.int .i64) h132 (Addr.add p6 7) fun (r140 : Int) =>
ldA .sl h132 p8 fun (r141 : Sl) =>
ldA (.int .i64) h132 (Addr.add p8 1) fun (r142 : Int) =>
K r133 r134 r135 r136 r137 r138 r139 r140 r141 r142 h132))))))))))) (
((1 : Nat) = 1) ∧ (
stC h56 (Addr.add p11 1) (
Let (hset h56 (Addr.add p11 1) (.int .u64 t53)) fun (h143 : Hp) =>
J1 (t54, ()) h143)))) (
cnd (t113 == 1) (
(2 ≠ (0 : Int)) ∧ (
Let (IntKind.wrap .u64 (Int.tdiv t53 2) : Int) fun (t144 : Int) =>
Let (IntKind.wrap .i64 (t144) : Int) fun (t145 : Int) =>
Jn (J2_ref03_Take K p4 p6 p8 p11 t54 J1) fun (J2 : Int × Unit → Hp → Prop) =>
(2 ≠ (0 : Int)) ∧ (
Let (Int.tmod t53 2 : Int) fun (t177 : Int) =>
cnd (t177 == 1) (
(2 ≠ (0 : Int)) ∧ (
Let (IntKind.wrap .u64 (Int.tdiv t53 2) : Int) fun (t178 : Int) =>
Let (IntKind.wrap .i64 (t178) : Int) fun (t179 : Int) =>
Let (IntKind.wrap .i64 (0 - t179) : Int) fun (t180 : Int) =>
Let (IntKind.wrap .i64 (t180 - 1) : Int) fun (t181 : Int) =>
J2 (t181, ()) h56)) (
J2 (t145, ()) h56)))) (
cnd (t113 == 2) (
cnd (decide (t53 > 1)) (
ldA (.int .i64) h56 p11 fun (t182 : Int) =>
ldA (.int .u64) h56 (Addr.add p11 1) fun (t183 : Int) =>
ldA (.int .i64) h56 (Addr.add p11 2) fun (t184 : Int) =>
ldA .bool h56 (Addr.add p11 3) fun (t185 : Bool) =>
ldA .str h56 (Addr.add p11 4) fun (t186 : ByteArray) =>
ldA (.int .i64) h56 (Addr.add p11 5) fun (t187 : Int) =>
ldA (.int .i64) h56 (Addr.add p11 6) fun (t188 : Int) =>
ldA (.int .i64) h56 (Addr.add p11 7) fun (t189 : Int) =>
stC h56 p6 (
Let (hset h56 p6 (.int .i64 t182)) fun (h190 : Hp) =>
stC h190 (Addr.add p6 1) (
Let (hset h190 (Addr.add p6 1) (.int .u64 t183)) fun (h191 : Hp) =>
stC h191 (Addr.add p6 2) (
Let (hset h191 (Addr.add p6 2) (.int .i64 t184)) fun (h192 : Hp) =>
stC h192 (Addr.add p6 3) (
Let (hset h192 (Addr.add p6 3) (.bool t185)) fun (h193 : Hp) =>
stC h193 (Addr.add p6 4) (
Let (hset h193 (Addr.add p6 4) (.string t186)) fun (h194 : Hp) =>
stC h194 (Addr.add p6 5) (
Let (hset h194 (Addr.add p6 5) (.int .i64 t187)) fun (h195 : Hp) =>
stC h195 (Addr.add p6 6) (
Let (hset h195 (Addr.add p6 6) (.int .i64 t188)) fun (h196 : Hp) =>
stC h196 (Addr.add p6 7) (
Let (hset h196 (Addr.add p6 7) (.int .i64 t189)) fun (h197 : Hp) =>
stC h197 p8 (
Let (hset h197 p8 (.slice none 0 0)) fun (h198 : Hp) =>
stC h198 (Addr.add p8 1) (
Let (hset h198 (Addr.add p8 1) (.int .i64 14)) fun (h199 : Hp) =>
ldA (.int .i64) h199 p6 fun (r200 : Int) =>
ldA (.int .u64) h199 (Addr.add p6 1) fun (r201 : Int) =>
ldA (.int .i64) h199 (Addr.add p6 2) fun (r202 : Int) =>
ldA .bool h199 (Addr.add p6 3) fun (r203 : Bool) =>
ldA .str h199 (Addr.add p6 4) fun (r204 : ByteArray) =>
ldA (.int .i64) h199 (Addr.add p6 5) fun (r205 : Int) =>
ldA (.int .i64) h199 (Addr.add p6 6) fun (r206 : Int) =>
ldA (.int .i64) h199 (Addr.add p6 7) fun (r207 : Int) =>
ldA .sl h199 p8 fun (r208 : Sl) =>
ldA (.int .i64) h199 (Addr.add p8 1) fun (r209 : Int) =>
K r200 r201 r202 r203 r204 r205 r206 r207 r208 r209 h199))))))))))) (
((1 : Nat) = 1) ∧ (
stC h56 (Addr.add p11 3) (
Let (hset h56 (Addr.add p11 3) (.bool (t53 == 1))) fun (h210 : Hp) =>
J1 (t54, ()) h210)))) (
Jn (J4_ref03_Take K p6 p8 p11 t53 t54 J1) fun (J4 : Bool × Unit → Hp → Prop) =>
ldA (.int .i64) h56 (Addr.add p4 7) fun (t276 : Int) =>
cnd (decide (t276 < 0)) (
J4 (true, ()) h56) (
ldA (.int .i64) h56 (Addr.add p4 7) fun (t277 : Int) =>
Let (IntKind.wrap .u64 (t277) : Int) fun (t278 : Int) =>
J4 (decide (t53 > t278), ()) h56))))))))))))))

theorem F_ref03_Take_ok (a0_r : Sl) (a1_r : Int) (a2_p : Int) (a3_p : Int) (a4_p : Int) (a5_p : Bool) (a6_p : ByteArray) (a7_p : Int) (a8_p : Int) (a9_p : Int) (h : Hp) (K : Int → Int → Int → Bool → ByteArray → Int → Int → Int → Sl → Int → Hp → Prop) (hF : F_ref03_Take a0_r a1_r a2_p a3_p a4_p a5_p a6_p a7_p a8_p a9_p h K) : C_ref03_Take a0_r a1_r a2_p a3_p a4_p a5_p a6_p a7_p a8_p a9_p h K := by
  have e : bodyVC Tryd.prog Tryd.f8 (.seq .no (.seq .no (.seq (.seq .no (.cond (.seq .dr .no) .no)) (.seq .no (.seq (.seq .no (.cond (.seq .no .no) .no)) (.join [(8, .at .sl)] (.seq .no (.block (.seq .no (.cond (.seq (.seq .no (.cond (.seq .no .no) .no)) .no) (.seq .no (.cond (.seq .no (.join [(10, .at (.int .i64))] (.seq .no (.cond .no .no)) (.seq (.join [(92, .at .bool)] .no (.cond (.seq .no .no) .no)) .no))) (.seq .no (.cond (.seq (.seq .no (.cond (.seq .no .no) .no)) .no) (.seq (.join [(42, .at .bool)] .no (.cond (.seq .no .no) .no)) (.seq (.seq .no (.cond (.seq .no .no) .no)) (.seq .no .no))))))))))) (.seq .no .no))))))) (Option.getD Tryd.f8.body .skip) [.agg #[.slice a0_r.a a0_r.len a0_r.cap, .int .i64 a1_r], .agg #[.int .i64 a2_p, .int .u64 a3_p, .int .i64 a4_p, .bool a5_p, .string a6_p, .int .i64 a7_p, .int .i64 a8_p, .int .i64 a9_p]] h [.agg [(.int .i64), (.int .u64), (.int .i64), .bool, .str, (.int .i64), (.int .i64), (.int .i64)], .agg [.sl, (.int .i64)]] (fun s h => K s.1.1 s.1.2.1 s.1.2.2.1 s.1.2.2.2.1 s.1.2.2.2.2.1 s.1.2.2.2.2.2.1 s.1.2.2.2.2.2.2.1 s.1.2.2.2.2.2.2.2.1 s.2.1.1 s.2.1.2.1 h) = F_ref03_Take a0_r a1_r a2_p a3_p a4_p a5_p a6_p a7_p a8_p a9_p h K := by kernel_rfl
  exact fun_sound mixed Tryd.func8 rfl (e.mpr hF)

def F_code_NewReader (a0_b : Sl) (h : Hp) (K : Option Addr → Hp → Prop) : Prop :=
C_slices_Clone_byte_byte a0_b h fun (t1 : Sl) (h2 : Hp) =>
Let (Array.push h2 (Obj.cells #[.slice t1.a t1.len t1.cap, .int .i64 0] 65)) fun (h3 : Hp) =>
Let (Addr.mk (Array.size h2) 0 none) fun (p4 : Addr) =>
K (some p4) h3

theorem F_code_NewReader_ok (a0_b : Sl) (h : Hp) (K : Option Addr → Hp → Prop) (hF : F_code_NewReader a0_b h K) : C_code_NewReader a0_b h K := by
  have e : bodyVC Tryd.prog Tryd.f9 (.seq .no (.seq .no .no)) (Option.getD Tryd.f9.body .skip) [.slice a0_b.a a0_b.len a0_b.cap] h [.at .ptr] (fun s h => K s.1 h) = F_code_NewReader a0_b h K := by kernel_rfl
  exact fun_sound mixed Tryd.func9 rfl (e.mpr hF)

def J2_config_Get (K : Int → Int → Int → Int → Int → Int → Int → Int → Hp → Prop) (p2 : Addr) (p4 : Addr) (sJ2 : Bool × Unit) (hJ2 : Hp) : Prop :=
cnd sJ2.1 (
stC hJ2 p2 (
Let (hset hJ2 p2 (.int .i64 0)) fun (h24 : Hp) =>
stC h24 (Addr.add p2 1) (
Let (hset h24 (Addr.add p2 1) (.int .i64 0)) fun (h25 : Hp) =>
stC h25 (Addr.add p2 2) (
Let (hset h25 (Addr.add p2 2) (.int .i64 0)) fun (h26 : Hp) =>
stC h26 (Addr.add p2 3) (
Let (hset h26 (Addr.add p2 3) (.int .i64 0)) fun (h27 : Hp) =>
stC h27 (Addr.add p2 4) (
Let (hset h27 (Addr.add p2 4) (.int .i64 0)) fun (h28 : Hp) =>
stC h28 (Addr.add p2 5) (
Let (hset h28 (Addr.add p2 5) (.int .i64 0)) fun (h29 : Hp) =>
stC h29 (Addr.add p2 6) (
Let (hset h29 (Addr.add p2 6) (.int .i64 0)) fun (h30 : Hp) =>
stC h30 (Addr.add p2 7) (
Let (hset h30 (Addr.add p2 7) (.int .i64 0)) fun (h31 : Hp) =>
ldA (.int .i64) h31 p2 fun (r32 : Int) =>
ldA (.int .i64) h31 (Addr.add p2 1) fun (r33 : Int) =>
ldA (.int .i64) h31 (Addr.add p2 2) fun (r34 : Int) =>
ldA (.int .i64) h31 (Addr.add p2 3) fun (r35 : Int) =>
ldA (.int .i64) h31 (Addr.add p2 4) fun (r36 : Int) =>
ldA (.int .i64) h31 (Addr.add p2 5) fun (r37 : Int) =>
ldA (.int .i64) h31 (Addr.add p2 6) fun (r38 : Int) =>
ldA (.int .i64) h31 (Addr.add p2 7) fun (r39 : Int) =>
K r32 r33 r34 r35 r36 r37 r38 r39 h31))))))))) (
ldA (.int .i64) hJ2 p4 fun (t40 : Int) =>
ldA (.int .i64) hJ2 (Addr.add p4 1) fun (t41 : Int) =>
ldA (.int .i64) hJ2 (Addr.add p4 2) fun (t42 : Int) =>
ldA (.int .i64) hJ2 (Addr.add p4 3) fun (t43 : Int) =>
ldA (.int .i64) hJ2 (Addr.add p4 4) fun (t44 : Int) =>
ldA (.int .i64) hJ2 (Addr.add p4 5) fun (t45 : Int) =>
ldA (.int .i64) hJ2 (Addr.add p4 6) fun (t46 : Int) =>
ldA (.int .i64) hJ2 (Addr.add p4 7) fun (t47 : Int) =>
stC hJ2 p2 (
Let (hset hJ2 p2 (.int .i64 t40)) fun (h48 : Hp) =>
stC h48 (Addr.add p2 1) (
Let (hset h48 (Addr.add p2 1) (.int .i64 t41)) fun (h49 : Hp) =>
stC h49 (Addr.add p2 2) (
Let (hset h49 (Addr.add p2 2) (.int .i64 t42)) fun (h50 : Hp) =>
stC h50 (Addr.add p2 3) (
Let (hset h50 (Addr.add p2 3) (.int .i64 t43)) fun (h51 : Hp) =>
stC h51 (Addr.add p2 4) (
Let (hset h51 (Addr.add p2 4) (.int .i64 t44)) fun (h52 : Hp) =>
stC h52 (Addr.add p2 5) (
Let (hset h52 (Addr.add p2 5) (.int .i64 t45)) fun (h53 : Hp) =>
stC h53 (Addr.add p2 6) (
Let (hset h53 (Addr.add p2 6) (.int .i64 t46)) fun (h54 : Hp) =>
stC h54 (Addr.add p2 7) (
Let (hset h54 (Addr.add p2 7) (.int .i64 t47)) fun (h55 : Hp) =>
ldA (.int .i64) h55 p2 fun (r56 : Int) =>
ldA (.int .i64) h55 (Addr.add p2 1) fun (r57 : Int) =>
ldA (.int .i64) h55 (Addr.add p2 2) fun (r58 : Int) =>
ldA (.int .i64) h55 (Addr.add p2 3) fun (r59 : Int) =>
ldA (.int .i64) h55 (Addr.add p2 4) fun (r60 : Int) =>
ldA (.int .i64) h55 (Addr.add p2 5) fun (r61 : Int) =>
ldA (.int .i64) h55 (Addr.add p2 6) fun (r62 : Int) =>
ldA (.int .i64) h55 (Addr.add p2 7) fun (r63 : Int) =>
K r56 r57 r58 r59 r60 r61 r62 r63 h55)))))))))
def J1_config_Get (a0_r : Option Addr) (K : Int → Int → Int → Int → Int → Int → Int → Int → Hp → Prop) (p2 : Addr) (p4 : Addr) (sJ1 : Unit) (hJ1 : Hp) : Prop :=
Jn (J2_config_Get K p2 p4) fun (J2 : Bool × Unit → Hp → Prop) =>
C_code_Reader_End a0_r hJ1 fun (t64 : Int) (h65 : Hp) =>
cnd (t64 != 0) (
C_code_Reader_Left a0_r h65 fun (t66 : Int) (h67 : Hp) =>
J2 ((t66 == 0), ()) h67) (
J2 (false, ()) h65)
def L1_config_Get (a0_r : Option Addr) (p15 : Addr) (J1 : Unit → Hp → Prop) (t68 : ByteArray) (t69 : Int) (t70 : Int) (t71 : ByteArray) (t72 : Int) (t73 : Int) (t74 : ByteArray) (t75 : Int) (t76 : Int) (t77 : ByteArray) (t78 : Int) (t79 : Int) (t80 : ByteArray) (t81 : Int) (t82 : Int) (t83 : ByteArray) (t84 : Int) (t85 : Int) (t86 : ByteArray) (t87 : Int) (t88 : Int) (t89 : ByteArray) (t90 : Int) (t91 : Int) (sL1 : (Int × Unit) × Hp) (R1 : (Int × Unit) × Hp → Prop) : Prop :=
cnd (decide (sL1.1.1 < 8)) (
idxAg [.str, .int .i64, .int .i64] [.string t68, .int .i64 t69, .int .i64 t70, .string t71, .int .i64 t72, .int .i64 t73, .string t74, .int .i64 t75, .int .i64 t76, .string t77, .int .i64 t78, .int .i64 t79, .string t80, .int .i64 t81, .int .i64 t82, .string t83, .int .i64 t84, .int .i64 t85, .string t86, .int .i64 t87, .int .i64 t88, .string t89, .int .i64 t90, .int .i64 t91] 8 sL1.1.1 fun (t93 : StA [.str, .int .i64, .int .i64]) =>
Let (Array.push sL1.2 (Obj.cells #[.string (ByteArray.mk #[]), .int .i64 0, .int .i64 0] 67)) fun (h94 : Hp) =>
Let (Addr.mk (Array.size sL1.2) 0 none) fun (p95 : Addr) =>
stC h94 p95 (
Let (hset h94 p95 (.string t93.1)) fun (h96 : Hp) =>
stC h96 (Addr.add p95 1) (
Let (hset h96 (Addr.add p95 1) (.int .i64 t93.2.1)) fun (h97 : Hp) =>
stC h97 (Addr.add p95 2) (
Let (hset h97 (Addr.add p95 2) (.int .i64 t93.2.2.1)) fun (h98 : Hp) =>
∃ (S99 : List Nat),
idxS (some p15) 8 sL1.1.1 1 fun (p100 : Addr) =>
(Addr.block p100 ∉ S99) ∧ (
ldA .ptr h98 p100 fun (t101 : Option Addr) =>
(Addr.block (Addr.add p95 1) ∉ S99) ∧ (
ldA (.int .i64) h98 (Addr.add p95 1) fun (t102 : Int) =>
(Addr.block (Addr.add p95 2) ∉ S99) ∧ (
ldA (.int .i64) h98 (Addr.add p95 2) fun (t103 : Int) =>
C_code_Reader_Int a0_r t102 t103 h98 fun (t104 : Int) (h105 : Hp) =>
ExtS S99 h98 h105 ∧ (
someA t101 fun (p106 : Addr) =>
((1 : Nat) = 1) ∧ (
stC h105 p106 (
Let (hset h105 p106 (.int .i64 t104)) fun (h107 : Hp) =>
Let (IntKind.wrap .i64 (sL1.1.1 + 1) : Int) fun (t108 : Int) =>
R1 ((t108, ()), h107))))))))))) (
J1 (()) sL1.2)
def F_config_Get (a0_r : Option Addr) (h : Hp) (K : Int → Int → Int → Int → Int → Int → Int → Int → Hp → Prop) : Prop :=
Let (Array.push h (Obj.cells #[.int .i64 0, .int .i64 0, .int .i64 0, .int .i64 0, .int .i64 0, .int .i64 0, .int .i64 0, .int .i64 0] 23)) fun (h1 : Hp) =>
Let (Addr.mk (Array.size h) 0 none) fun (p2 : Addr) =>
Let (Array.push h1 (Obj.cells #[.int .i64 0, .int .i64 0, .int .i64 0, .int .i64 0, .int .i64 0, .int .i64 0, .int .i64 0, .int .i64 0] 23)) fun (h3 : Hp) =>
Let (Addr.mk (Array.size h1) 0 none) fun (p4 : Addr) =>
C_config_places (some p4) h3 fun (t5 : Option Addr) (t6 : Option Addr) (t7 : Option Addr) (t8 : Option Addr) (t9 : Option Addr) (t10 : Option Addr) (t11 : Option Addr) (t12 : Option Addr) (h13 : Hp) =>
Let (Array.push h13 (Obj.cells #[.pointer none, .pointer none, .pointer none, .pointer none, .pointer none, .pointer none, .pointer none, .pointer none] 57)) fun (h14 : Hp) =>
Let (Addr.mk (Array.size h13) 0 none) fun (p15 : Addr) =>
stC h14 p15 (
Let (hset h14 p15 (.pointer t5)) fun (h16 : Hp) =>
stC h16 (Addr.add p15 1) (
Let (hset h16 (Addr.add p15 1) (.pointer t6)) fun (h17 : Hp) =>
stC h17 (Addr.add p15 2) (
Let (hset h17 (Addr.add p15 2) (.pointer t7)) fun (h18 : Hp) =>
stC h18 (Addr.add p15 3) (
Let (hset h18 (Addr.add p15 3) (.pointer t8)) fun (h19 : Hp) =>
stC h19 (Addr.add p15 4) (
Let (hset h19 (Addr.add p15 4) (.pointer t9)) fun (h20 : Hp) =>
stC h20 (Addr.add p15 5) (
Let (hset h20 (Addr.add p15 5) (.pointer t10)) fun (h21 : Hp) =>
stC h21 (Addr.add p15 6) (
Let (hset h21 (Addr.add p15 6) (.pointer t11)) fun (h22 : Hp) =>
stC h22 (Addr.add p15 7) (
Let (hset h22 (Addr.add p15 7) (.pointer t12)) fun (h23 : Hp) =>
Jn (J1_config_Get a0_r K p2 p4) fun (J1 : Unit → Hp → Prop) =>
C_config_fields  h23 fun (t68 : ByteArray) (t69 : Int) (t70 : Int) (t71 : ByteArray) (t72 : Int) (t73 : Int) (t74 : ByteArray) (t75 : Int) (t76 : Int) (t77 : ByteArray) (t78 : Int) (t79 : Int) (t80 : ByteArray) (t81 : Int) (t82 : Int) (t83 : ByteArray) (t84 : Int) (t85 : Int) (t86 : ByteArray) (t87 : Int) (t88 : Int) (t89 : ByteArray) (t90 : Int) (t91 : Int) (h92 : Hp) =>
∃ n, Lp (L1_config_Get a0_r p15 J1 t68 t69 t70 t71 t72 t73 t74 t75 t76 t77 t78 t79 t80 t81 t82 t83 t84 t85 t86 t87 t88 t89 t90 t91) n ((0, ()), h92)))))))))

theorem F_config_Get_ok (a0_r : Option Addr) (h : Hp) (K : Int → Int → Int → Int → Int → Int → Int → Int → Hp → Prop) (hF : F_config_Get a0_r h K) : C_config_Get a0_r h K := by
  have e : bodyVC Tryd.prog Tryd.f10 (.seq .no (.seq .no (.seq .no (.join [] (.seq .no (.block (.loop [(9, .at (.int .i64))] (.seq .no (.seq (.cond .no .no) (.seq (.block (.seq .no .dr)) .no)))))) (.seq (.join [(31, .at .bool)] .no (.cond (.seq .no .no) .no)) (.seq .no .no)))))) (Option.getD Tryd.f10.body .skip) [.pointer a0_r] h [.agg [(.int .i64), (.int .i64), (.int .i64), (.int .i64), (.int .i64), (.int .i64), (.int .i64), (.int .i64)]] (fun s h => K s.1.1 s.1.2.1 s.1.2.2.1 s.1.2.2.2.1 s.1.2.2.2.2.1 s.1.2.2.2.2.2.1 s.1.2.2.2.2.2.2.1 s.1.2.2.2.2.2.2.2.1 h) = F_config_Get a0_r h K := by kernel_rfl
  exact fun_sound mixed Tryd.func10 rfl (e.mpr hF)

def L1_ref02_Same (a0_a : Sl) (a1_b : Sl) (K : Bool → Hp → Prop) (sL1 : (Int × Unit) × Hp) (R1 : (Int × Unit) × Hp → Prop) : Prop :=
cnd (decide (sL1.1.1 < (a0_a.len : Int))) (
idxS a0_a.a a0_a.len sL1.1.1 1 fun (p1 : Addr) =>
ldA (.int .u8) sL1.2 p1 fun (t2 : Int) =>
idxS a1_b.a a1_b.len sL1.1.1 1 fun (p3 : Addr) =>
ldA (.int .u8) sL1.2 p3 fun (t4 : Int) =>
cnd (t2 != t4) (
K false sL1.2) (
Let (IntKind.wrap .i64 (sL1.1.1 + 1) : Int) fun (t5 : Int) =>
R1 ((t5, ()), sL1.2))) (
K true sL1.2)
def F_ref02_Same (a0_a : Sl) (a1_b : Sl) (h : Hp) (K : Bool → Hp → Prop) : Prop :=
cnd ((a0_a.len : Int) != (a1_b.len : Int)) (
K false h) (
∃ n, Lp (L1_ref02_Same a0_a a1_b K) n ((0, ()), h))

theorem F_ref02_Same_ok (a0_a : Sl) (a1_b : Sl) (h : Hp) (K : Bool → Hp → Prop) (hF : F_ref02_Same a0_a a1_b h K) : C_ref02_Same a0_a a1_b h K := by
  have e : bodyVC Tryd.prog Tryd.f11 (.seq .no (.seq (.seq .no (.cond (.seq .no .no) .no)) (.seq (.seq .no (.block (.loop [(5, .at (.int .i64))] (.seq (.seq .no (.cond .no .no)) (.seq (.block (.seq .no (.cond (.seq .no .no) .no))) .no))))) (.seq .no .no)))) (Option.getD Tryd.f11.body .skip) [.slice a0_a.a a0_a.len a0_a.cap, .slice a1_b.a a1_b.len a1_b.cap] h [.at .bool] (fun s h => K s.1 h) = F_ref02_Same a0_a a1_b h K := by kernel_rfl
  exact fun_sound mixed Tryd.func11 rfl (e.mpr hF)

def F_code_Writer_Bytes (a0_w : Option Addr) (h : Hp) (K : Sl → Hp → Prop) : Prop :=
cnd (Option.isNone a0_w) (
K (Sl.mk none 0 0) h) (
someA a0_w fun (p1 : Addr) =>
ldA .sl h p1 fun (t2 : Sl) =>
C_slices_Clone_byte_byte t2 h fun (t3 : Sl) (h4 : Hp) =>
K t3 h4)

theorem F_code_Writer_Bytes_ok (a0_w : Option Addr) (h : Hp) (K : Sl → Hp → Prop) (hF : F_code_Writer_Bytes a0_w h K) : C_code_Writer_Bytes a0_w h K := by
  have e : bodyVC Tryd.prog Tryd.f12 (.seq .no (.seq (.seq .no (.cond (.seq .no .no) .no)) (.seq .no .no))) (Option.getD Tryd.f12.body .skip) [.pointer a0_w] h [.at .sl] (fun s h => K s.1 h) = F_code_Writer_Bytes a0_w h K := by kernel_rfl
  exact fun_sound mixed Tryd.func12 rfl (e.mpr hF)

def L1_ref03_Write (a0_l : Sl) (K : Sl → Hp → Prop) (sL1 : (Sl × Int × Unit) × Hp) (R1 : (Sl × Int × Unit) × Hp → Prop) : Prop :=
cnd (decide (sL1.1.2.1 < (a0_l.len : Int))) (
idxS a0_l.a a0_l.len sL1.1.2.1 8 fun (p1 : Addr) =>
ldA (.int .i64) sL1.2 p1 fun (t2 : Int) =>
cnd (t2 == 0) (
idxS a0_l.a a0_l.len sL1.1.2.1 8 fun (p3 : Addr) =>
ldA (.int .u64) sL1.2 (Addr.add p3 1) fun (t4 : Int) =>
C_ref03_Num (Sl.mk sL1.1.1.a sL1.1.1.len sL1.1.1.cap) t4 sL1.2 fun (t5 : Sl) (h6 : Hp) =>
Let (IntKind.wrap .i64 (sL1.1.2.1 + 1) : Int) fun (t7 : Int) =>
R1 ((t5, t7, ()), h6)) (
cnd (t2 == 1) (
idxS a0_l.a a0_l.len sL1.1.2.1 8 fun (p8 : Addr) =>
ldA (.int .i64) sL1.2 (Addr.add p8 2) fun (t9 : Int) =>
C_ref03_Signed t9 sL1.2 fun (t10 : Int) (h11 : Hp) =>
C_ref03_Num (Sl.mk sL1.1.1.a sL1.1.1.len sL1.1.1.cap) t10 h11 fun (t12 : Sl) (h13 : Hp) =>
Let (IntKind.wrap .i64 (sL1.1.2.1 + 1) : Int) fun (t14 : Int) =>
R1 ((t12, t14, ()), h13)) (
cnd (t2 == 2) (
idxS a0_l.a a0_l.len sL1.1.2.1 8 fun (p15 : Addr) =>
ldA .bool sL1.2 (Addr.add p15 3) fun (t16 : Bool) =>
cnd t16 (
C_ref03_Num (Sl.mk sL1.1.1.a sL1.1.1.len sL1.1.1.cap) 1 sL1.2 fun (t17 : Sl) (h18 : Hp) =>
Let (IntKind.wrap .i64 (sL1.1.2.1 + 1) : Int) fun (t19 : Int) =>
R1 ((t17, t19, ()), h18)) (
C_ref03_Num (Sl.mk sL1.1.1.a sL1.1.1.len sL1.1.1.cap) 0 sL1.2 fun (t20 : Sl) (h21 : Hp) =>
Let (IntKind.wrap .i64 (sL1.1.2.1 + 1) : Int) fun (t22 : Int) =>
R1 ((t20, t22, ()), h21))) (
idxS a0_l.a a0_l.len sL1.1.2.1 8 fun (p23 : Addr) =>
ldA .str sL1.2 (Addr.add p23 4) fun (t24 : ByteArray) =>
Let (IntKind.wrap .u64 ((ByteArray.size t24 : Int)) : Int) fun (t25 : Int) =>
C_ref03_Num (Sl.mk sL1.1.1.a sL1.1.1.len sL1.1.1.cap) t25 sL1.2 fun (t26 : Sl) (h27 : Hp) =>
idxS a0_l.a a0_l.len sL1.1.2.1 8 fun (p28 : Addr) =>
ldA .str h27 (Addr.add p28 4) fun (t29 : ByteArray) =>
appS 5 1 1 [.int .u8 0] t26.a t26.len t26.cap (.string t29) h27 fun (t30 : Sl) (h31 : Hp) =>
Let (IntKind.wrap .i64 (sL1.1.2.1 + 1) : Int) fun (t32 : Int) =>
R1 ((t30, t32, ()), h31))))) (
K (Sl.mk sL1.1.1.a sL1.1.1.len sL1.1.1.cap) sL1.2)
def F_ref03_Write (a0_l : Sl) (h : Hp) (K : Sl → Hp → Prop) : Prop :=
∃ n, Lp (L1_ref03_Write a0_l K) n (((Sl.mk none 0 0), 0, ()), h)

theorem F_ref03_Write_ok (a0_l : Sl) (h : Hp) (K : Sl → Hp → Prop) (hF : F_ref03_Write a0_l h K) : C_ref03_Write a0_l h K := by
  have e : bodyVC Tryd.prog Tryd.f13 (.seq .no (.seq .no (.seq (.seq .no (.block (.loop [(3, .at .sl), (4, .at (.int .i64))] (.seq (.seq .no (.cond .no .no)) (.seq (.block (.seq .no (.block (.seq .no (.cond .no (.seq .no (.cond .no (.seq .no (.cond (.seq .no (.seq (.seq .no (.cond .no .no)) .no)) (.seq .no .no)))))))))) .no))))) (.seq .no .no)))) (Option.getD Tryd.f13.body .skip) [.slice a0_l.a a0_l.len a0_l.cap] h [.at .sl] (fun s h => K s.1 h) = F_ref03_Write a0_l h K := by kernel_rfl
  exact fun_sound mixed Tryd.func13 rfl (e.mpr hF)

def J1_code_Reader_Left (a0_r : Option Addr) (K : Int → Hp → Prop) (sJ1 : Unit) (hJ1 : Hp) : Prop :=
someA a0_r fun (p1 : Addr) =>
ldA .sl hJ1 p1 fun (t2 : Sl) =>
K (t2.len : Int) hJ1
def F_code_Reader_Left (a0_r : Option Addr) (h : Hp) (K : Int → Hp → Prop) : Prop :=
Jn (J1_code_Reader_Left a0_r K) fun (J1 : Unit → Hp → Prop) =>
cnd (Option.isNone a0_r) (
K 0 h) (
someA a0_r fun (p3 : Addr) =>
ldA (.int .i64) h (Addr.add p3 1) fun (t4 : Int) =>
cnd (t4 != 0) (
K 0 h) (
J1 (()) h))

theorem F_code_Reader_Left_ok (a0_r : Option Addr) (h : Hp) (K : Int → Hp → Prop) (hF : F_code_Reader_Left a0_r h K) : C_code_Reader_Left a0_r h K := by
  have e : bodyVC Tryd.prog Tryd.f14 (.seq .no (.join [] (.seq .no (.cond (.seq .no .no) .no)) (.seq .no .no))) (Option.getD Tryd.f14.body .skip) [.pointer a0_r] h [.at (.int .i64)] (fun s h => K s.1 h) = F_code_Reader_Left a0_r h K := by kernel_rfl
  exact fun_sound mixed Tryd.func14 rfl (e.mpr hF)

def J1_code_Reader_End (a0_r : Option Addr) (K : Int → Hp → Prop) (sJ1 : Unit) (hJ1 : Hp) : Prop :=
someA a0_r fun (p1 : Addr) =>
ldA (.int .i64) hJ1 (Addr.add p1 1) fun (t2 : Int) =>
K t2 hJ1
def F_code_Reader_End (a0_r : Option Addr) (h : Hp) (K : Int → Hp → Prop) : Prop :=
Jn (J1_code_Reader_End a0_r K) fun (J1 : Unit → Hp → Prop) =>
cnd (Option.isNone a0_r) (
K 1 h) (
someA a0_r fun (p3 : Addr) =>
ldA (.int .i64) h (Addr.add p3 1) fun (t4 : Int) =>
cnd (t4 == 0) (
someA a0_r fun (p5 : Addr) =>
ldA .sl h p5 fun (t6 : Sl) =>
cnd (decide ((t6.len : Int) > 0)) (
K 12 h) (
J1 (()) h)) (
J1 (()) h))

theorem F_code_Reader_End_ok (a0_r : Option Addr) (h : Hp) (K : Int → Hp → Prop) (hF : F_code_Reader_End a0_r h K) : C_code_Reader_End a0_r h K := by
  have e : bodyVC Tryd.prog Tryd.f15 (.seq .no (.join [] (.block (.seq .no (.cond (.seq .no .no) (.seq .no (.cond (.seq .no .no) .no))))) (.seq .no .no))) (Option.getD Tryd.f15.body .skip) [.pointer a0_r] h [.at (.int .i64)] (fun s h => K s.1 h) = F_code_Reader_End a0_r h K := by kernel_rfl
  exact fun_sound mixed Tryd.func15 rfl (e.mpr hF)

def F_ref03_End (a0_r : Sl) (a1_r : Int) (h : Hp) (K : Int → Hp → Prop) : Prop :=
Let (Array.push h (Obj.cells #[.slice a0_r.a a0_r.len a0_r.cap, .int .i64 a1_r] 34)) fun (h1 : Hp) =>
Let (Addr.mk (Array.size h) 0 none) fun (p2 : Addr) =>
ldA (.int .i64) h1 (Addr.add p2 1) fun (t3 : Int) =>
cnd (t3 == 0) (
ldA .sl h1 p2 fun (t4 : Sl) =>
cnd (decide ((t4.len : Int) > 0)) (
K 12 h1) (
ldA (.int .i64) h1 (Addr.add p2 1) fun (t5 : Int) =>
K t5 h1)) (
ldA (.int .i64) h1 (Addr.add p2 1) fun (t6 : Int) =>
K t6 h1)

theorem F_ref03_End_ok (a0_r : Sl) (a1_r : Int) (h : Hp) (K : Int → Hp → Prop) (hF : F_ref03_End a0_r a1_r h K) : C_ref03_End a0_r a1_r h K := by
  have e : bodyVC Tryd.prog Tryd.f16 (.seq .no (.seq (.seq .no (.cond (.seq .no .no) .no)) (.seq .no .no))) (Option.getD Tryd.f16.body .skip) [.agg #[.slice a0_r.a a0_r.len a0_r.cap, .int .i64 a1_r]] h [.at (.int .i64)] (fun s h => K s.1 h) = F_ref03_End a0_r a1_r h K := by kernel_rfl
  exact fun_sound mixed Tryd.func16 rfl (e.mpr hF)

def F_law28_lives  (h : Hp) (K : Bool → Hp → Prop) : Prop :=
C_config_Check 0 0 0 0 0 0 0 0 h fun (t1 : Value) (h2 : Hp) =>
C_fault_Where t1 h2 fun (t3 : ByteArray) (t4 : Int) (t5 : Int) (t6 : Value) (t7 : Bool) (h8 : Hp) =>
Let (Array.push h8 (Obj.cells #[.string (ByteArray.mk #[]), .int .i64 0, .int .u64 0, .nilIface] 76)) fun (h9 : Hp) =>
Let (Addr.mk (Array.size h8) 0 none) fun (p10 : Addr) =>
stC h9 p10 (
Let (hset h9 p10 (.string t3)) fun (h11 : Hp) =>
stC h11 (Addr.add p10 1) (
Let (hset h11 (Addr.add p10 1) (.int .i64 t4)) fun (h12 : Hp) =>
stC h12 (Addr.add p10 2) (
Let (hset h12 (Addr.add p10 2) (.int .u64 t5)) fun (h13 : Hp) =>
stO h13 (Addr.add p10 3) (t6) (
Let (hset h13 (Addr.add p10 3) (t6)) fun (h14 : Hp) =>
cnd t7 (
ldA .str h14 p10 fun (t15 : ByteArray) =>
cnd (strEq t15 (ByteArray.mk #[75, 105, 110, 100])) (
ldA (.int .i64) h14 (Addr.add p10 1) fun (t16 : Int) =>
cnd (t16 == 0) (
C_config_Check 0 0 0 0 0 0 0 0 h14 fun (t17 : Value) (h18 : Hp) =>
C_fault_Code t17 h18 fun (t19 : Int) (h20 : Hp) =>
K (t19 == 11) h20) (
K false h14)) (
K false h14)) (
K false h14)))))

theorem F_law28_lives_ok  (h : Hp) (K : Bool → Hp → Prop) (hF : F_law28_lives  h K) : C_law28_lives  h K := by
  have e : bodyVC Tryd.prog Tryd.f17 (.seq .no (.seq .no (.seq .no .no))) (Option.getD Tryd.f17.body .skip) [] h [.at .bool] (fun s h => K s.1 h) = F_law28_lives  h K := by kernel_rfl
  exact fun_sound mixed Tryd.func17 rfl (e.mpr hF)

def L1_ref28_Wrong (K : Int → Hp → Prop) (t11 : Sl) (t12 : Sl) (t13 : Sl) (sL1 : (Int × Unit) × Hp) (R1 : (Int × Unit) × Hp → Prop) : Prop :=
cnd (decide (sL1.1.1 < 8)) (
idxS t11.a t11.len sL1.1.1 1 fun (p16 : Addr) =>
ldA (.int .i64) sL1.2 p16 fun (t17 : Int) =>
idxS t12.a t12.len sL1.1.1 1 fun (p18 : Addr) =>
ldA (.int .i64) sL1.2 p18 fun (t19 : Int) =>
cnd (decide (t17 < t19)) (
K sL1.1.1 sL1.2) (
idxS t11.a t11.len sL1.1.1 1 fun (p20 : Addr) =>
ldA (.int .i64) sL1.2 p20 fun (t21 : Int) =>
idxS t13.a t13.len sL1.1.1 1 fun (p22 : Addr) =>
ldA (.int .i64) sL1.2 p22 fun (t23 : Int) =>
cnd (decide (t21 > t23)) (
K sL1.1.1 sL1.2) (
Let (IntKind.wrap .i64 (sL1.1.1 + 1) : Int) fun (t24 : Int) =>
R1 ((t24, ()), sL1.2)))) (
K 8 sL1.2)
def F_ref28_Wrong (a0_c : Int) (a1_c : Int) (a2_c : Int) (a3_c : Int) (a4_c : Int) (a5_c : Int) (a6_c : Int) (a7_c : Int) (h : Hp) (K : Int → Hp → Prop) : Prop :=
Let (Array.push h (Obj.cells #[.int .i64 a0_c, .int .i64 a1_c, .int .i64 a2_c, .int .i64 a3_c, .int .i64 a4_c, .int .i64 a5_c, .int .i64 a6_c, .int .i64 a7_c] 23)) fun (h1 : Hp) =>
Let (Addr.mk (Array.size h) 0 none) fun (p2 : Addr) =>
ldA (.int .i64) h1 p2 fun (t3 : Int) =>
ldA (.int .i64) h1 (Addr.add p2 1) fun (t4 : Int) =>
ldA (.int .i64) h1 (Addr.add p2 2) fun (t5 : Int) =>
ldA (.int .i64) h1 (Addr.add p2 3) fun (t6 : Int) =>
ldA (.int .i64) h1 (Addr.add p2 4) fun (t7 : Int) =>
ldA (.int .i64) h1 (Addr.add p2 5) fun (t8 : Int) =>
ldA (.int .i64) h1 (Addr.add p2 6) fun (t9 : Int) =>
ldA (.int .i64) h1 (Addr.add p2 7) fun (t10 : Int) =>
C_ref28_Fields t3 t4 t5 t6 t7 t8 t9 t10 h1 fun (t11 : Sl) (t12 : Sl) (t13 : Sl) (t14 : Sl) (h15 : Hp) =>
∃ n, Lp (L1_ref28_Wrong K t11 t12 t13) n ((0, ()), h15)

theorem F_ref28_Wrong_ok (a0_c : Int) (a1_c : Int) (a2_c : Int) (a3_c : Int) (a4_c : Int) (a5_c : Int) (a6_c : Int) (a7_c : Int) (h : Hp) (K : Int → Hp → Prop) (hF : F_ref28_Wrong a0_c a1_c a2_c a3_c a4_c a5_c a6_c a7_c h K) : C_ref28_Wrong a0_c a1_c a2_c a3_c a4_c a5_c a6_c a7_c h K := by
  have e : bodyVC Tryd.prog Tryd.f18 (.seq .no (.seq .no (.seq (.seq .no (.block (.loop [(7, .at (.int .i64))] (.seq (.seq .no (.cond .no .no)) (.seq (.block (.seq .no (.cond (.seq .no .no) .no))) .no))))) (.seq .no .no)))) (Option.getD Tryd.f18.body .skip) [.agg #[.int .i64 a0_c, .int .i64 a1_c, .int .i64 a2_c, .int .i64 a3_c, .int .i64 a4_c, .int .i64 a5_c, .int .i64 a6_c, .int .i64 a7_c]] h [.at (.int .i64)] (fun s h => K s.1 h) = F_ref28_Wrong a0_c a1_c a2_c a3_c a4_c a5_c a6_c a7_c h K := by kernel_rfl
  exact fun_sound mixed Tryd.func18 rfl (e.mpr hF)

def F_config_places (a0_c : Option Addr) (h : Hp) (K : Option Addr → Option Addr → Option Addr → Option Addr → Option Addr → Option Addr → Option Addr → Option Addr → Hp → Prop) : Prop :=
Let (Array.push h (Obj.cells #[.pointer none, .pointer none, .pointer none, .pointer none, .pointer none, .pointer none, .pointer none, .pointer none] 57)) fun (h1 : Hp) =>
Let (Addr.mk (Array.size h) 0 none) fun (p2 : Addr) =>
someA a0_c fun (p3 : Addr) =>
someA a0_c fun (p4 : Addr) =>
someA a0_c fun (p5 : Addr) =>
someA a0_c fun (p6 : Addr) =>
someA a0_c fun (p7 : Addr) =>
someA a0_c fun (p8 : Addr) =>
someA a0_c fun (p9 : Addr) =>
someA a0_c fun (p10 : Addr) =>
stC h1 p2 (
Let (hset h1 p2 (.pointer (some p3))) fun (h11 : Hp) =>
stC h11 (Addr.add p2 1) (
Let (hset h11 (Addr.add p2 1) (.pointer (some (Addr.add p4 1)))) fun (h12 : Hp) =>
stC h12 (Addr.add p2 2) (
Let (hset h12 (Addr.add p2 2) (.pointer (some (Addr.add p5 2)))) fun (h13 : Hp) =>
stC h13 (Addr.add p2 3) (
Let (hset h13 (Addr.add p2 3) (.pointer (some (Addr.add p6 3)))) fun (h14 : Hp) =>
stC h14 (Addr.add p2 4) (
Let (hset h14 (Addr.add p2 4) (.pointer (some (Addr.add p7 4)))) fun (h15 : Hp) =>
stC h15 (Addr.add p2 5) (
Let (hset h15 (Addr.add p2 5) (.pointer (some (Addr.add p8 5)))) fun (h16 : Hp) =>
stC h16 (Addr.add p2 6) (
Let (hset h16 (Addr.add p2 6) (.pointer (some (Addr.add p9 6)))) fun (h17 : Hp) =>
stC h17 (Addr.add p2 7) (
Let (hset h17 (Addr.add p2 7) (.pointer (some (Addr.add p10 7)))) fun (h18 : Hp) =>
ldA .ptr h18 p2 fun (r19 : Option Addr) =>
ldA .ptr h18 (Addr.add p2 1) fun (r20 : Option Addr) =>
ldA .ptr h18 (Addr.add p2 2) fun (r21 : Option Addr) =>
ldA .ptr h18 (Addr.add p2 3) fun (r22 : Option Addr) =>
ldA .ptr h18 (Addr.add p2 4) fun (r23 : Option Addr) =>
ldA .ptr h18 (Addr.add p2 5) fun (r24 : Option Addr) =>
ldA .ptr h18 (Addr.add p2 6) fun (r25 : Option Addr) =>
ldA .ptr h18 (Addr.add p2 7) fun (r26 : Option Addr) =>
K r19 r20 r21 r22 r23 r24 r25 r26 h18))))))))

theorem F_config_places_ok (a0_c : Option Addr) (h : Hp) (K : Option Addr → Option Addr → Option Addr → Option Addr → Option Addr → Option Addr → Option Addr → Option Addr → Hp → Prop) (hF : F_config_places a0_c h K) : C_config_places a0_c h K := by
  have e : bodyVC Tryd.prog Tryd.f19 (.seq .no (.seq .no .no)) (Option.getD Tryd.f19.body .skip) [.pointer a0_c] h [.agg [.ptr, .ptr, .ptr, .ptr, .ptr, .ptr, .ptr, .ptr]] (fun s h => K s.1.1 s.1.2.1 s.1.2.2.1 s.1.2.2.2.1 s.1.2.2.2.2.1 s.1.2.2.2.2.2.1 s.1.2.2.2.2.2.2.1 s.1.2.2.2.2.2.2.2.1 h) = F_config_places a0_c h K := by kernel_rfl
  exact fun_sound mixed Tryd.func19 rfl (e.mpr hF)

def F_code_Writer_Int (a0_w : Option Addr) (a1_n : Int) (h : Hp) (K : Hp → Prop) : Prop :=
Let (IntKind.wrap .u64 (a1_n) : Int) fun (t1 : Int) =>
((0 : Int) ≤ 1) ∧ (
Let (IntKind.wrap .u64 (t1 * 2 ^ min (Int.toNat 1) (IntKind.bits .u64)) : Int) fun (t2 : Int) =>
cnd (decide (a1_n < 0)) (
Let (ibNot .u64 t2 : Int) fun (t3 : Int) =>
C_code_Writer_Num a0_w t3 h fun  (h4 : Hp) =>
K h4) (
C_code_Writer_Num a0_w t2 h fun  (h5 : Hp) =>
K h5))

theorem F_code_Writer_Int_ok (a0_w : Option Addr) (a1_n : Int) (h : Hp) (K : Hp → Prop) (hF : F_code_Writer_Int a0_w a1_n h K) : C_code_Writer_Int a0_w a1_n h K := by
  have e : bodyVC Tryd.prog Tryd.f20 (.seq .no (.seq (.seq .no (.cond .no .no)) .no)) (Option.getD Tryd.f20.body .skip) [.pointer a0_w, .int .i64 a1_n] h [] (fun s h => K h) = F_code_Writer_Int a0_w a1_n h K := by kernel_rfl
  exact fun_sound mixed Tryd.func20 rfl (e.mpr hF)

def L1_ref03_number (a0_b : Sl) (K : Int → Sl → Int → Hp → Prop) (sJ1 : Int × Unit) (sL1 : (Int × Int × Unit) × Hp) (R1 : (Int × Int × Unit) × Hp → Prop) : Prop :=
cnd (decide (sL1.1.2.1 ≥ 0)) (
Let (IntKind.wrap .u64 (sL1.1.1 * 128) : Int) fun (t1 : Int) =>
idxS a0_b.a a0_b.len sL1.1.2.1 1 fun (p2 : Addr) =>
ldA (.int .u8) sL1.2 p2 fun (t3 : Int) =>
Let (Int.tmod t3 128 : Int) fun (t4 : Int) =>
Let (IntKind.wrap .u64 (t4) : Int) fun (t5 : Int) =>
Let (IntKind.wrap .u64 (t1 + t5) : Int) fun (t6 : Int) =>
Let (IntKind.wrap .i64 (sL1.1.2.1 - 1) : Int) fun (t7 : Int) =>
R1 ((t6, t7, ()), sL1.2)) (
Let (IntKind.wrap .i64 (sJ1.1 + 1) : Int) fun (t8 : Int) =>
slcS a0_b.a a0_b.len a0_b.cap (some t8) none 1 fun (t9 : Option Addr) (l10 c11 : Nat) =>
K sL1.1.1 (Sl.mk t9 l10 c11) 0 sL1.2)
def J3_ref03_number (a0_b : Sl) (K : Int → Sl → Int → Hp → Prop) (sJ1 : Int × Unit) (sJ3 : Unit) (hJ3 : Hp) : Prop :=
∃ n, Lp (L1_ref03_number a0_b K sJ1) n ((0, sJ1.1, ()), hJ3)
def J2_ref03_number (a0_b : Sl) (K : Int → Sl → Int → Hp → Prop) (sJ1 : Int × Unit) (sJ2 : Unit) (hJ2 : Hp) : Prop :=
cnd (sJ1.1 == (a0_b.len : Int)) (
K 0 (Sl.mk none 0 0) 13 hJ2) (
Jn (J3_ref03_number a0_b K sJ1) fun (J3 : Unit → Hp → Prop) =>
cnd (decide (sJ1.1 > 0)) (
idxS a0_b.a a0_b.len sJ1.1 1 fun (p12 : Addr) =>
ldA (.int .u8) hJ2 p12 fun (t13 : Int) =>
cnd (t13 == 0) (
K 0 (Sl.mk none 0 0) 12 hJ2) (
J3 (()) hJ2)) (
J3 (()) hJ2))
def J1_ref03_number (a0_b : Sl) (K : Int → Sl → Int → Hp → Prop) (sJ1 : Int × Unit) (hJ1 : Hp) : Prop :=
Jn (J2_ref03_number a0_b K sJ1) fun (J2 : Unit → Hp → Prop) =>
cnd (sJ1.1 == 10) (
K 0 (Sl.mk none 0 0) 12 hJ1) (
cnd (sJ1.1 == 9) (
cnd (decide (sJ1.1 < (a0_b.len : Int))) (
idxS a0_b.a a0_b.len sJ1.1 1 fun (p14 : Addr) =>
ldA (.int .u8) hJ1 p14 fun (t15 : Int) =>
cnd (decide (t15 > 1)) (
K 0 (Sl.mk none 0 0) 12 hJ1) (
J2 (()) hJ1)) (
J2 (()) hJ1)) (
J2 (()) hJ1))
def L2_ref03_number (a0_b : Sl) (J1 : Int × Unit → Hp → Prop) (sL2 : (Int × Unit) × Hp) (R2 : (Int × Unit) × Hp → Prop) : Prop :=
cnd (decide (sL2.1.1 < (a0_b.len : Int))) (
cnd (decide (sL2.1.1 < 10)) (
idxS a0_b.a a0_b.len sL2.1.1 1 fun (p16 : Addr) =>
ldA (.int .u8) sL2.2 p16 fun (t17 : Int) =>
cnd (decide (t17 > 127)) (
Let (IntKind.wrap .i64 (sL2.1.1 + 1) : Int) fun (t18 : Int) =>
R2 ((t18, ()), sL2.2)) (
J1 (sL2.1.1, ()) sL2.2)) (
J1 (sL2.1.1, ()) sL2.2)) (
J1 (sL2.1.1, ()) sL2.2)
def F_ref03_number (a0_b : Sl) (h : Hp) (K : Int → Sl → Int → Hp → Prop) : Prop :=
Jn (J1_ref03_number a0_b K) fun (J1 : Int × Unit → Hp → Prop) =>
∃ n, Lp (L2_ref03_number a0_b J1) n ((0, ()), h)

theorem F_ref03_number_ok (a0_b : Sl) (h : Hp) (K : Int → Sl → Int → Hp → Prop) (hF : F_ref03_number a0_b h K) : C_ref03_number a0_b h K := by
  have e : bodyVC Tryd.prog Tryd.f21 (.seq .no (.seq .no (.join [(5, .at (.int .i64))] (.block (.loop [(5, .at (.int .i64))] (.seq (.seq .no (.cond .no .no)) (.block .no)))) (.join [] (.seq .no (.cond (.seq .no .no) .no)) (.seq (.seq .no (.cond (.seq .no .no) .no)) (.join [] (.seq .no (.cond (.seq .no .no) .no)) (.seq .no (.seq (.seq .no (.block (.loop [(6, .at (.int .u64)), (7, .at (.int .i64))] (.seq (.seq .no (.cond .no .no)) (.seq (.block .no) .no))))) (.seq .no .no))))))))) (Option.getD Tryd.f21.body .skip) [.slice a0_b.a a0_b.len a0_b.cap] h [.at (.int .u64), .at .sl, .at (.int .i64)] (fun s h => K s.1 s.2.1 s.2.2.1 h) = F_ref03_number a0_b h K := by kernel_rfl
  exact fun_sound mixed Tryd.func21 rfl (e.mpr hF)

def F_slices_Clone_byte_byte (a0_s : Sl) (h : Hp) (K : Sl → Hp → Prop) : Prop :=
cnd (Option.isNone a0_s.a) (
K (Sl.mk none 0 0) h) (
Let (Array.push h (Obj.cells #[] 5)) fun (h1 : Hp) =>
Let (Addr.mk (Array.size h) 0 none) fun (p2 : Addr) =>
appS 5 1 1 [.int .u8 0] (some p2) 0 0 (.slice a0_s.a a0_s.len a0_s.cap) h1 fun (t3 : Sl) (h4 : Hp) =>
K t3 h4)

theorem F_slices_Clone_byte_byte_ok (a0_s : Sl) (h : Hp) (K : Sl → Hp → Prop) (hF : F_slices_Clone_byte_byte a0_s h K) : C_slices_Clone_byte_byte a0_s h K := by
  have e : bodyVC Tryd.prog Tryd.f22 (.seq .no (.seq (.seq .no (.cond (.seq .no .no) .no)) (.seq .no .no))) (Option.getD Tryd.f22.body .skip) [.slice a0_s.a a0_s.len a0_s.cap] h [.at .sl] (fun s h => K s.1 h) = F_slices_Clone_byte_byte a0_s h K := by kernel_rfl
  exact fun_sound mixed Tryd.func22 rfl (e.mpr hF)

def F_config_fields  (h : Hp) (K : ByteArray → Int → Int → ByteArray → Int → Int → ByteArray → Int → Int → ByteArray → Int → Int → ByteArray → Int → Int → ByteArray → Int → Int → ByteArray → Int → Int → ByteArray → Int → Int → Hp → Prop) : Prop :=
Let (Array.push h (Obj.cells #[.string (ByteArray.mk #[]), .int .i64 0, .int .i64 0, .string (ByteArray.mk #[]), .int .i64 0, .int .i64 0, .string (ByteArray.mk #[]), .int .i64 0, .int .i64 0, .string (ByteArray.mk #[]), .int .i64 0, .int .i64 0, .string (ByteArray.mk #[]), .int .i64 0, .int .i64 0, .string (ByteArray.mk #[]), .int .i64 0, .int .i64 0, .string (ByteArray.mk #[]), .int .i64 0, .int .i64 0, .string (ByteArray.mk #[]), .int .i64 0, .int .i64 0] 68)) fun (h1 : Hp) =>
Let (Addr.mk (Array.size h) 0 none) fun (p2 : Addr) =>
stC h1 p2 (
Let (hset h1 p2 (.string (ByteArray.mk #[75, 105, 110, 100]))) fun (h3 : Hp) =>
stC h3 (Addr.add p2 1) (
Let (hset h3 (Addr.add p2 1) (.int .i64 1)) fun (h4 : Hp) =>
stC h4 (Addr.add p2 2) (
Let (hset h4 (Addr.add p2 2) (.int .i64 4)) fun (h5 : Hp) =>
stC h5 (Addr.add p2 3) (
Let (hset h5 (Addr.add p2 3) (.string (ByteArray.mk #[77, 101, 116, 114, 105, 99]))) fun (h6 : Hp) =>
stC h6 (Addr.add p2 4) (
Let (hset h6 (Addr.add p2 4) (.int .i64 1)) fun (h7 : Hp) =>
stC h7 (Addr.add p2 5) (
Let (hset h7 (Addr.add p2 5) (.int .i64 3)) fun (h8 : Hp) =>
stC h8 (Addr.add p2 6) (
Let (hset h8 (Addr.add p2 6) (.string (ByteArray.mk #[83, 105, 122, 101]))) fun (h9 : Hp) =>
stC h9 (Addr.add p2 7) (
Let (hset h9 (Addr.add p2 7) (.int .i64 0)) fun (h10 : Hp) =>
stC h10 (Addr.add p2 8) (
Let (hset h10 (Addr.add p2 8) (.int .i64 65536)) fun (h11 : Hp) =>
stC h11 (Addr.add p2 9) (
Let (hset h11 (Addr.add p2 9) (.string (ByteArray.mk #[67, 97, 112]))) fun (h12 : Hp) =>
stC h12 (Addr.add p2 10) (
Let (hset h12 (Addr.add p2 10) (.int .i64 4)) fun (h13 : Hp) =>
stC h13 (Addr.add p2 11) (
Let (hset h13 (Addr.add p2 11) (.int .i64 256)) fun (h14 : Hp) =>
stC h14 (Addr.add p2 12) (
Let (hset h14 (Addr.add p2 12) (.string (ByteArray.mk #[80, 111, 108, 105, 99, 121]))) fun (h15 : Hp) =>
stC h15 (Addr.add p2 13) (
Let (hset h15 (Addr.add p2 13) (.int .i64 1)) fun (h16 : Hp) =>
stC h16 (Addr.add p2 14) (
Let (hset h16 (Addr.add p2 14) (.int .i64 2)) fun (h17 : Hp) =>
stC h17 (Addr.add p2 15) (
Let (hset h17 (Addr.add p2 15) (.string (ByteArray.mk #[76, 105, 109, 105, 116]))) fun (h18 : Hp) =>
stC h18 (Addr.add p2 16) (
Let (hset h18 (Addr.add p2 16) (.int .i64 1)) fun (h19 : Hp) =>
stC h19 (Addr.add p2 17) (
Let (hset h19 (Addr.add p2 17) (.int .i64 1048576)) fun (h20 : Hp) =>
stC h20 (Addr.add p2 18) (
Let (hset h20 (Addr.add p2 18) (.string (ByteArray.mk #[67, 117, 114, 115, 111, 114, 115]))) fun (h21 : Hp) =>
stC h21 (Addr.add p2 19) (
Let (hset h21 (Addr.add p2 19) (.int .i64 0)) fun (h22 : Hp) =>
stC h22 (Addr.add p2 20) (
Let (hset h22 (Addr.add p2 20) (.int .i64 64)) fun (h23 : Hp) =>
stC h23 (Addr.add p2 21) (
Let (hset h23 (Addr.add p2 21) (.string (ByteArray.mk #[80, 105, 118, 111, 116, 115]))) fun (h24 : Hp) =>
stC h24 (Addr.add p2 22) (
Let (hset h24 (Addr.add p2 22) (.int .i64 0)) fun (h25 : Hp) =>
stC h25 (Addr.add p2 23) (
Let (hset h25 (Addr.add p2 23) (.int .i64 64)) fun (h26 : Hp) =>
ldA .str h26 p2 fun (r27 : ByteArray) =>
ldA (.int .i64) h26 (Addr.add p2 1) fun (r28 : Int) =>
ldA (.int .i64) h26 (Addr.add p2 2) fun (r29 : Int) =>
ldA .str h26 (Addr.add p2 3) fun (r30 : ByteArray) =>
ldA (.int .i64) h26 (Addr.add p2 4) fun (r31 : Int) =>
ldA (.int .i64) h26 (Addr.add p2 5) fun (r32 : Int) =>
ldA .str h26 (Addr.add p2 6) fun (r33 : ByteArray) =>
ldA (.int .i64) h26 (Addr.add p2 7) fun (r34 : Int) =>
ldA (.int .i64) h26 (Addr.add p2 8) fun (r35 : Int) =>
ldA .str h26 (Addr.add p2 9) fun (r36 : ByteArray) =>
ldA (.int .i64) h26 (Addr.add p2 10) fun (r37 : Int) =>
ldA (.int .i64) h26 (Addr.add p2 11) fun (r38 : Int) =>
ldA .str h26 (Addr.add p2 12) fun (r39 : ByteArray) =>
ldA (.int .i64) h26 (Addr.add p2 13) fun (r40 : Int) =>
ldA (.int .i64) h26 (Addr.add p2 14) fun (r41 : Int) =>
ldA .str h26 (Addr.add p2 15) fun (r42 : ByteArray) =>
ldA (.int .i64) h26 (Addr.add p2 16) fun (r43 : Int) =>
ldA (.int .i64) h26 (Addr.add p2 17) fun (r44 : Int) =>
ldA .str h26 (Addr.add p2 18) fun (r45 : ByteArray) =>
ldA (.int .i64) h26 (Addr.add p2 19) fun (r46 : Int) =>
ldA (.int .i64) h26 (Addr.add p2 20) fun (r47 : Int) =>
ldA .str h26 (Addr.add p2 21) fun (r48 : ByteArray) =>
ldA (.int .i64) h26 (Addr.add p2 22) fun (r49 : Int) =>
ldA (.int .i64) h26 (Addr.add p2 23) fun (r50 : Int) =>
K r27 r28 r29 r30 r31 r32 r33 r34 r35 r36 r37 r38 r39 r40 r41 r42 r43 r44 r45 r46 r47 r48 r49 r50 h26))))))))))))))))))))))))

theorem F_config_fields_ok  (h : Hp) (K : ByteArray → Int → Int → ByteArray → Int → Int → ByteArray → Int → Int → ByteArray → Int → Int → ByteArray → Int → Int → ByteArray → Int → Int → ByteArray → Int → Int → ByteArray → Int → Int → Hp → Prop) (hF : F_config_fields  h K) : C_config_fields  h K := by
  have e : bodyVC Tryd.prog Tryd.f23 (.seq .no (.seq .no .no)) (Option.getD Tryd.f23.body .skip) [] h [.agg [.str, (.int .i64), (.int .i64), .str, (.int .i64), (.int .i64), .str, (.int .i64), (.int .i64), .str, (.int .i64), (.int .i64), .str, (.int .i64), (.int .i64), .str, (.int .i64), (.int .i64), .str, (.int .i64), (.int .i64), .str, (.int .i64), (.int .i64)]] (fun s h => K s.1.1 s.1.2.1 s.1.2.2.1 s.1.2.2.2.1 s.1.2.2.2.2.1 s.1.2.2.2.2.2.1 s.1.2.2.2.2.2.2.1 s.1.2.2.2.2.2.2.2.1 s.1.2.2.2.2.2.2.2.2.1 s.1.2.2.2.2.2.2.2.2.2.1 s.1.2.2.2.2.2.2.2.2.2.2.1 s.1.2.2.2.2.2.2.2.2.2.2.2.1 s.1.2.2.2.2.2.2.2.2.2.2.2.2.1 s.1.2.2.2.2.2.2.2.2.2.2.2.2.2.1 s.1.2.2.2.2.2.2.2.2.2.2.2.2.2.2.1 s.1.2.2.2.2.2.2.2.2.2.2.2.2.2.2.2.1 s.1.2.2.2.2.2.2.2.2.2.2.2.2.2.2.2.2.1 s.1.2.2.2.2.2.2.2.2.2.2.2.2.2.2.2.2.2.1 s.1.2.2.2.2.2.2.2.2.2.2.2.2.2.2.2.2.2.2.1 s.1.2.2.2.2.2.2.2.2.2.2.2.2.2.2.2.2.2.2.2.1 s.1.2.2.2.2.2.2.2.2.2.2.2.2.2.2.2.2.2.2.2.2.1 s.1.2.2.2.2.2.2.2.2.2.2.2.2.2.2.2.2.2.2.2.2.2.1 s.1.2.2.2.2.2.2.2.2.2.2.2.2.2.2.2.2.2.2.2.2.2.2.1 s.1.2.2.2.2.2.2.2.2.2.2.2.2.2.2.2.2.2.2.2.2.2.2.2.1 h) = F_config_fields  h K := by kernel_rfl
  exact fun_sound mixed Tryd.func23 rfl (e.mpr hF)

def F_code_Reader_Int (a0_r : Option Addr) (a1_low : Int) (a2_high : Int) (h : Hp) (K : Int → Hp → Prop) : Prop :=
Let (Array.push h (Obj.cells #[.int .i64 a1_low] 3)) fun (h1 : Hp) =>
Let (Addr.mk (Array.size h) 0 none) fun (p2 : Addr) =>
Let (Array.push h1 (Obj.cells #[.int .i64 a2_high] 3)) fun (h3 : Hp) =>
Let (Addr.mk (Array.size h1) 0 none) fun (p4 : Addr) =>
Let (Array.push h3 (Obj.cells #[.bool false] 4)) fun (h5 : Hp) =>
Let (Addr.mk (Array.size h3) 0 none) fun (p6 : Addr) =>
((1 : Nat) = 1) ∧ (
stC h5 p6 (
Let (hset h5 p6 (.bool false)) fun (h7 : Hp) =>
C_code_Reader_take a0_r (.func (.func 32) #[] #[.pointer (some p2), .pointer (some p4), .pointer (some p6)]) h7 fun (t8 : Int) (h9 : Hp) =>
ldA .bool h9 p6 fun (t10 : Bool) =>
cnd (!t10) (
K 0 h9) (
C_code_signed t8 h9 fun (t11 : Int) (h12 : Hp) =>
K t11 h12)))

theorem F_code_Reader_Int_ok (a0_r : Option Addr) (a1_low : Int) (a2_high : Int) (h : Hp) (K : Int → Hp → Prop) (hF : F_code_Reader_Int a0_r a1_low a2_high h K) : C_code_Reader_Int a0_r a1_low a2_high h K := by
  have e : bodyVC Tryd.prog Tryd.f24 (.seq .no (.seq .no (.seq .no (.seq (.seq .no (.cond (.seq .no .no) .no)) (.seq .no .no))))) (Option.getD Tryd.f24.body .skip) [.pointer a0_r, .int .i64 a1_low, .int .i64 a2_high] h [.at (.int .i64)] (fun s h => K s.1 h) = F_code_Reader_Int a0_r a1_low a2_high h K := by kernel_rfl
  exact fun_sound mixed Tryd.func24 rfl (e.mpr hF)

def J1_ref03_Num (K : Sl → Hp → Prop) (sJ1 : Int × Sl × Unit) (hJ1 : Hp) : Prop :=
Let (IntKind.wrap .u8 (sJ1.1) : Int) fun (t3 : Int) =>
Let (Array.push hJ1 (Obj.cells #[.int .u8 t3] 5)) fun (h4 : Hp) =>
Let (Addr.mk (Array.size hJ1) 0 none) fun (p5 : Addr) =>
appS 5 1 1 [.int .u8 0] sJ1.2.1.a sJ1.2.1.len sJ1.2.1.cap (.slice (some p5) 1 1) h4 fun (t6 : Sl) (h7 : Hp) =>
K t6 h7
def L1_ref03_Num (J1 : Int × Sl × Unit → Hp → Prop) (sL1 : (Int × Sl × Unit) × Hp) (R1 : (Int × Sl × Unit) × Hp → Prop) : Prop :=
(128 ≠ (0 : Int)) ∧ (
Let (IntKind.wrap .u64 (Int.tdiv sL1.1.1 128) : Int) fun (t8 : Int) =>
cnd (decide (t8 > 0)) (
(128 ≠ (0 : Int)) ∧ (
Let (Int.tmod sL1.1.1 128 : Int) fun (t9 : Int) =>
Let (IntKind.wrap .u64 ((128 : Int) + t9) : Int) fun (t10 : Int) =>
Let (IntKind.wrap .u8 (t10) : Int) fun (t11 : Int) =>
Let (Array.push sL1.2 (Obj.cells #[.int .u8 t11] 5)) fun (h12 : Hp) =>
Let (Addr.mk (Array.size sL1.2) 0 none) fun (p13 : Addr) =>
appS 5 1 1 [.int .u8 0] sL1.1.2.1.a sL1.1.2.1.len sL1.1.2.1.cap (.slice (some p13) 1 1) h12 fun (t14 : Sl) (h15 : Hp) =>
(128 ≠ (0 : Int)) ∧ (
Let (IntKind.wrap .u64 (Int.tdiv sL1.1.1 128) : Int) fun (t16 : Int) =>
R1 ((t16, t14, ()), h15)))) (
J1 (sL1.1.1, (Sl.mk sL1.1.2.1.a sL1.1.2.1.len sL1.1.2.1.cap), ()) sL1.2))
def F_ref03_Num (a0_b : Sl) (a1_n : Int) (h : Hp) (K : Sl → Hp → Prop) : Prop :=
appS 5 1 1 [.int .u8 0] none 0 0 (.slice a0_b.a a0_b.len a0_b.cap) h fun (t1 : Sl) (h2 : Hp) =>
Jn (J1_ref03_Num K) fun (J1 : Int × Sl × Unit → Hp → Prop) =>
∃ n, Lp (L1_ref03_Num J1) n ((a1_n, t1, ()), h2)

theorem F_ref03_Num_ok (a0_b : Sl) (a1_n : Int) (h : Hp) (K : Sl → Hp → Prop) (hF : F_ref03_Num a0_b a1_n h K) : C_ref03_Num a0_b a1_n h K := by
  have e : bodyVC Tryd.prog Tryd.f25 (.seq .no (.seq .no (.join [(1, .at (.int .u64)), (5, .at .sl)] (.block (.loop [(1, .at (.int .u64)), (5, .at .sl)] (.seq (.seq .no (.cond .no .no)) (.block (.seq .no .no))))) (.seq .no .no)))) (Option.getD Tryd.f25.body .skip) [.slice a0_b.a a0_b.len a0_b.cap, .int .u64 a1_n] h [.at .sl] (fun s h => K s.1 h) = F_ref03_Num a0_b a1_n h K := by kernel_rfl
  exact fun_sound mixed Tryd.func25 rfl (e.mpr hF)

def F_ref03_Signed (a0_n : Int) (h : Hp) (K : Int → Hp → Prop) : Prop :=
cnd (decide (a0_n < 0)) (
Let (IntKind.wrap .i64 (a0_n + 1) : Int) fun (t1 : Int) =>
Let (IntKind.wrap .i64 (0 - t1) : Int) fun (t2 : Int) =>
Let (IntKind.wrap .u64 (t2) : Int) fun (t3 : Int) =>
Let (IntKind.wrap .u64 (t3 * 2) : Int) fun (t4 : Int) =>
Let (IntKind.wrap .u64 (t4 + 1) : Int) fun (t5 : Int) =>
K t5 h) (
Let (IntKind.wrap .u64 (a0_n) : Int) fun (t6 : Int) =>
Let (IntKind.wrap .u64 (t6 * 2) : Int) fun (t7 : Int) =>
K t7 h)

theorem F_ref03_Signed_ok (a0_n : Int) (h : Hp) (K : Int → Hp → Prop) (hF : F_ref03_Signed a0_n h K) : C_ref03_Signed a0_n h K := by
  have e : bodyVC Tryd.prog Tryd.f26 (.seq .no (.seq (.seq .no (.cond (.seq .no .no) .no)) (.seq .no .no))) (Option.getD Tryd.f26.body .skip) [.int .i64 a0_n] h [.at (.int .u64)] (fun s h => K s.1 h) = F_ref03_Signed a0_n h K := by kernel_rfl
  exact fun_sound mixed Tryd.func26 rfl (e.mpr hF)

def J1_fault_Where (K : ByteArray → Int → Int → Value → Bool → Hp → Prop) (p2 : Addr) (p4 : Addr) (sJ1 : Bool × Unit) (hJ1 : Hp) : Prop :=
cnd sJ1.1 (
stC hJ1 p2 (
Let (hset hJ1 p2 (.string (ByteArray.mk #[]))) fun (h5 : Hp) =>
stC h5 (Addr.add p2 1) (
Let (hset h5 (Addr.add p2 1) (.int .i64 0)) fun (h6 : Hp) =>
stC h6 (Addr.add p2 2) (
Let (hset h6 (Addr.add p2 2) (.int .u64 0)) fun (h7 : Hp) =>
stC h7 (Addr.add p2 3) (
Let (hset h7 (Addr.add p2 3) (.nilIface)) fun (h8 : Hp) =>
ldA .str h8 p2 fun (r9 : ByteArray) =>
ldA (.int .i64) h8 (Addr.add p2 1) fun (r10 : Int) =>
ldA (.int .u64) h8 (Addr.add p2 2) fun (r11 : Int) =>
ldA .raw h8 (Addr.add p2 3) fun (r12 : Value) =>
K r9 r10 r11 r12 false h8))))) (
ldA .ptr hJ1 p4 fun (t13 : Option Addr) =>
someA t13 fun (p14 : Addr) =>
ldA .str hJ1 p14 fun (t15 : ByteArray) =>
ldA (.int .i64) hJ1 (Addr.add p14 1) fun (t16 : Int) =>
ldA (.int .u64) hJ1 (Addr.add p14 2) fun (t17 : Int) =>
ldA .raw hJ1 (Addr.add p14 3) fun (t18 : Value) =>
stC hJ1 p2 (
Let (hset hJ1 p2 (.string t15)) fun (h19 : Hp) =>
stC h19 (Addr.add p2 1) (
Let (hset h19 (Addr.add p2 1) (.int .i64 t16)) fun (h20 : Hp) =>
stC h20 (Addr.add p2 2) (
Let (hset h20 (Addr.add p2 2) (.int .u64 t17)) fun (h21 : Hp) =>
stO h21 (Addr.add p2 3) (t18) (
Let (hset h21 (Addr.add p2 3) (t18)) fun (h22 : Hp) =>
ldA .str h22 p2 fun (r23 : ByteArray) =>
ldA (.int .i64) h22 (Addr.add p2 1) fun (r24 : Int) =>
ldA (.int .u64) h22 (Addr.add p2 2) fun (r25 : Int) =>
ldA .raw h22 (Addr.add p2 3) fun (r26 : Value) =>
K r23 r24 r25 r26 true h22)))))
def F_fault_Where (a0_err : Value) (h : Hp) (K : ByteArray → Int → Int → Value → Bool → Hp → Prop) : Prop :=
Let (Array.push h (Obj.cells #[.string (ByteArray.mk #[]), .int .i64 0, .int .u64 0, .nilIface] 76)) fun (h1 : Hp) =>
Let (Addr.mk (Array.size h) 0 none) fun (p2 : Addr) =>
Let (Array.push h1 (Obj.cells #[.pointer none] 86)) fun (h3 : Hp) =>
Let (Addr.mk (Array.size h1) 0 none) fun (p4 : Addr) =>
Jn (J1_fault_Where K p2 p4) fun (J1 : Bool × Unit → Hp → Prop) =>
C_errors_As a0_err (.iface 88 (.pointer (some p4))) h3 fun (t27 : Bool) (h28 : Hp) =>
cnd (!t27) (
J1 (true, ()) h28) (
ldA .ptr h28 p4 fun (t29 : Option Addr) =>
J1 (Option.isNone t29, ()) h28)

theorem F_fault_Where_ok (a0_err : Value) (h : Hp) (K : ByteArray → Int → Int → Value → Bool → Hp → Prop) (hF : F_fault_Where a0_err h K) : C_fault_Where a0_err h K := by
  have e : bodyVC Tryd.prog Tryd.f27 (.seq .no (.seq .no (.seq (.join [(12, .at .bool)] .no (.cond (.seq .no .no) .no)) (.seq .no .no)))) (Option.getD Tryd.f27.body .skip) [a0_err] h [.agg [.str, (.int .i64), (.int .u64), .raw], .at .bool] (fun s h => K s.1.1 s.1.2.1 s.1.2.2.1 s.1.2.2.2.1 s.2.1 h) = F_fault_Where a0_err h K := by kernel_rfl
  exact fun_sound mixed Tryd.func27 rfl (e.mpr hF)

def J1_config_Check (K : Value → Hp → Prop) (sL1 : (Int × Unit) × Hp) (R1 : (Int × Unit) × Hp → Prop) (p30 : Addr) (sJ1 : Bool × Unit) (hJ1 : Hp) : Prop :=
cnd sJ1.1 (
ldA .str hJ1 p30 fun (t44 : ByteArray) =>
C_fault_Wrap t44 sL1.1.1 0 (.iface 47 (.int .i64 11)) hJ1 fun (t45 : Value) (h46 : Hp) =>
K t45 h46) (
Let (IntKind.wrap .i64 (sL1.1.1 + 1) : Int) fun (t47 : Int) =>
R1 ((t47, ()), hJ1))
def L1_config_Check (K : Value → Hp → Prop) (p2 : Addr) (t3 : ByteArray) (t4 : Int) (t5 : Int) (t6 : ByteArray) (t7 : Int) (t8 : Int) (t9 : ByteArray) (t10 : Int) (t11 : Int) (t12 : ByteArray) (t13 : Int) (t14 : Int) (t15 : ByteArray) (t16 : Int) (t17 : Int) (t18 : ByteArray) (t19 : Int) (t20 : Int) (t21 : ByteArray) (t22 : Int) (t23 : Int) (t24 : ByteArray) (t25 : Int) (t26 : Int) (sL1 : (Int × Unit) × Hp) (R1 : (Int × Unit) × Hp → Prop) : Prop :=
cnd (decide (sL1.1.1 < 8)) (
idxAg [.str, .int .i64, .int .i64] [.string t3, .int .i64 t4, .int .i64 t5, .string t6, .int .i64 t7, .int .i64 t8, .string t9, .int .i64 t10, .int .i64 t11, .string t12, .int .i64 t13, .int .i64 t14, .string t15, .int .i64 t16, .int .i64 t17, .string t18, .int .i64 t19, .int .i64 t20, .string t21, .int .i64 t22, .int .i64 t23, .string t24, .int .i64 t25, .int .i64 t26] 8 sL1.1.1 fun (t28 : StA [.str, .int .i64, .int .i64]) =>
Let (Array.push sL1.2 (Obj.cells #[.string (ByteArray.mk #[]), .int .i64 0, .int .i64 0] 67)) fun (h29 : Hp) =>
Let (Addr.mk (Array.size sL1.2) 0 none) fun (p30 : Addr) =>
stC h29 p30 (
Let (hset h29 p30 (.string t28.1)) fun (h31 : Hp) =>
stC h31 (Addr.add p30 1) (
Let (hset h31 (Addr.add p30 1) (.int .i64 t28.2.1)) fun (h32 : Hp) =>
stC h32 (Addr.add p30 2) (
Let (hset h32 (Addr.add p30 2) (.int .i64 t28.2.2.1)) fun (h33 : Hp) =>
ldA (.int .i64) h33 p2 fun (t34 : Int) =>
ldA (.int .i64) h33 (Addr.add p2 1) fun (t35 : Int) =>
ldA (.int .i64) h33 (Addr.add p2 2) fun (t36 : Int) =>
ldA (.int .i64) h33 (Addr.add p2 3) fun (t37 : Int) =>
ldA (.int .i64) h33 (Addr.add p2 4) fun (t38 : Int) =>
ldA (.int .i64) h33 (Addr.add p2 5) fun (t39 : Int) =>
ldA (.int .i64) h33 (Addr.add p2 6) fun (t40 : Int) =>
ldA (.int .i64) h33 (Addr.add p2 7) fun (t41 : Int) =>
C_config_At t34 t35 t36 t37 t38 t39 t40 t41 sL1.1.1 h33 fun (t42 : Int) (h43 : Hp) =>
Jn (J1_config_Check K sL1 R1 p30) fun (J1 : Bool × Unit → Hp → Prop) =>
ldA (.int .i64) h43 (Addr.add p30 1) fun (t48 : Int) =>
cnd (decide (t42 < t48)) (
J1 (true, ()) h43) (
ldA (.int .i64) h43 (Addr.add p30 2) fun (t49 : Int) =>
J1 (decide (t42 > t49), ()) h43))))) (
K .nilIface sL1.2)
def F_config_Check (a0_c : Int) (a1_c : Int) (a2_c : Int) (a3_c : Int) (a4_c : Int) (a5_c : Int) (a6_c : Int) (a7_c : Int) (h : Hp) (K : Value → Hp → Prop) : Prop :=
Let (Array.push h (Obj.cells #[.int .i64 a0_c, .int .i64 a1_c, .int .i64 a2_c, .int .i64 a3_c, .int .i64 a4_c, .int .i64 a5_c, .int .i64 a6_c, .int .i64 a7_c] 23)) fun (h1 : Hp) =>
Let (Addr.mk (Array.size h) 0 none) fun (p2 : Addr) =>
C_config_fields  h1 fun (t3 : ByteArray) (t4 : Int) (t5 : Int) (t6 : ByteArray) (t7 : Int) (t8 : Int) (t9 : ByteArray) (t10 : Int) (t11 : Int) (t12 : ByteArray) (t13 : Int) (t14 : Int) (t15 : ByteArray) (t16 : Int) (t17 : Int) (t18 : ByteArray) (t19 : Int) (t20 : Int) (t21 : ByteArray) (t22 : Int) (t23 : Int) (t24 : ByteArray) (t25 : Int) (t26 : Int) (h27 : Hp) =>
∃ n, Lp (L1_config_Check K p2 t3 t4 t5 t6 t7 t8 t9 t10 t11 t12 t13 t14 t15 t16 t17 t18 t19 t20 t21 t22 t23 t24 t25 t26) n ((0, ()), h27)

theorem F_config_Check_ok (a0_c : Int) (a1_c : Int) (a2_c : Int) (a3_c : Int) (a4_c : Int) (a5_c : Int) (a6_c : Int) (a7_c : Int) (h : Hp) (K : Value → Hp → Prop) (hF : F_config_Check a0_c a1_c a2_c a3_c a4_c a5_c a6_c a7_c h K) : C_config_Check a0_c a1_c a2_c a3_c a4_c a5_c a6_c a7_c h K := by
  have e : bodyVC Tryd.prog Tryd.f28 (.seq .no (.seq (.seq .no (.block (.loop [(7, .at (.int .i64))] (.seq .no (.seq (.cond .no .no) (.seq (.block (.seq .no (.seq .no (.join [(23, .at .bool)] .no (.cond (.seq .no .no) .no))))) .no)))))) (.seq .no .no))) (Option.getD Tryd.f28.body .skip) [.agg #[.int .i64 a0_c, .int .i64 a1_c, .int .i64 a2_c, .int .i64 a3_c, .int .i64 a4_c, .int .i64 a5_c, .int .i64 a6_c, .int .i64 a7_c]] h [.at .raw] (fun s h => K s.1 h) = F_config_Check a0_c a1_c a2_c a3_c a4_c a5_c a6_c a7_c h K := by kernel_rfl
  exact fun_sound mixed Tryd.func28 rfl (e.mpr hF)

def F_fault_Code (a0_err : Value) (h : Hp) (K : Int → Hp → Prop) : Prop :=
Let (Array.push h (Obj.cells #[.int .i64 0] 47)) fun (h1 : Hp) =>
Let (Addr.mk (Array.size h) 0 none) fun (p2 : Addr) =>
ifcNil a0_err fun (t3 : Bool) =>
cnd t3 (
K 0 h1) (
C_errors_As a0_err (.iface 91 (.pointer (some p2))) h1 fun (t4 : Bool) (h5 : Hp) =>
cnd t4 (
ldA (.int .i64) h5 p2 fun (t6 : Int) =>
K t6 h5) (
K 2 h5))

theorem F_fault_Code_ok (a0_err : Value) (h : Hp) (K : Int → Hp → Prop) (hF : F_fault_Code a0_err h K) : C_fault_Code a0_err h K := by
  have e : bodyVC Tryd.prog Tryd.f29 (.seq .no (.seq .no (.seq (.block (.seq .no (.cond (.seq .no .no) (.seq .no (.cond (.seq .no .no) .no))))) (.seq .no .no)))) (Option.getD Tryd.f29.body .skip) [a0_err] h [.at (.int .i64)] (fun s h => K s.1 h) = F_fault_Code a0_err h K := by kernel_rfl
  exact fun_sound mixed Tryd.func29 rfl (e.mpr hF)

def J1_code_Writer_Num (a0_w : Option Addr) (K : Hp → Prop) (sJ1 : Int × Unit) (hJ1 : Hp) : Prop :=
someA a0_w fun (p1 : Addr) =>
ldA .sl hJ1 p1 fun (t2 : Sl) =>
Let (IntKind.wrap .u8 (sJ1.1) : Int) fun (t3 : Int) =>
Let (Array.push hJ1 (Obj.cells #[.int .u8 t3] 5)) fun (h4 : Hp) =>
Let (Addr.mk (Array.size hJ1) 0 none) fun (p5 : Addr) =>
appS 5 1 1 [.int .u8 0] t2.a t2.len t2.cap (.slice (some p5) 1 1) h4 fun (t6 : Sl) (h7 : Hp) =>
someA a0_w fun (p8 : Addr) =>
((1 : Nat) = 1) ∧ (
stC h7 p8 (
Let (hset h7 p8 (.slice t6.a t6.len t6.cap)) fun (h9 : Hp) =>
K h9))
def L1_code_Writer_Num (a0_w : Option Addr) (J1 : Int × Unit → Hp → Prop) (sL1 : (Int × Unit) × Hp) (R1 : (Int × Unit) × Hp → Prop) : Prop :=
cnd (decide (sL1.1.1 ≥ 128)) (
someA a0_w fun (p10 : Addr) =>
ldA .sl sL1.2 p10 fun (t11 : Sl) =>
Let (IntKind.wrap .u8 (sL1.1.1) : Int) fun (t12 : Int) =>
Let (ibOr .u8 t12 128 : Int) fun (t13 : Int) =>
Let (Array.push sL1.2 (Obj.cells #[.int .u8 t13] 5)) fun (h14 : Hp) =>
Let (Addr.mk (Array.size sL1.2) 0 none) fun (p15 : Addr) =>
appS 5 1 1 [.int .u8 0] t11.a t11.len t11.cap (.slice (some p15) 1 1) h14 fun (t16 : Sl) (h17 : Hp) =>
someA a0_w fun (p18 : Addr) =>
((1 : Nat) = 1) ∧ (
stC h17 p18 (
Let (hset h17 p18 (.slice t16.a t16.len t16.cap)) fun (h19 : Hp) =>
((0 : Int) ≤ 7) ∧ (
Let (Int.fdiv sL1.1.1 (2 ^ min (Int.toNat 7) (IntKind.bits .u64)) : Int) fun (t20 : Int) =>
R1 ((t20, ()), h19))))) (
J1 (sL1.1.1, ()) sL1.2)
def F_code_Writer_Num (a0_w : Option Addr) (a1_n : Int) (h : Hp) (K : Hp → Prop) : Prop :=
cnd (Option.isNone a0_w) (
K h) (
Jn (J1_code_Writer_Num a0_w K) fun (J1 : Int × Unit → Hp → Prop) =>
∃ n, Lp (L1_code_Writer_Num a0_w J1) n ((a1_n, ()), h))

theorem F_code_Writer_Num_ok (a0_w : Option Addr) (a1_n : Int) (h : Hp) (K : Hp → Prop) (hF : F_code_Writer_Num a0_w a1_n h K) : C_code_Writer_Num a0_w a1_n h K := by
  have e : bodyVC Tryd.prog Tryd.f30 (.seq (.seq .no (.cond .no .no)) (.join [(1, .at (.int .u64))] (.block (.loop [(1, .at (.int .u64))] (.seq (.seq .no (.cond .no .no)) (.block (.seq .no .no))))) .no)) (Option.getD Tryd.f30.body .skip) [.pointer a0_w, .int .u64 a1_n] h [] (fun s h => K h) = F_code_Writer_Num a0_w a1_n h K := by kernel_rfl
  exact fun_sound mixed Tryd.func30 rfl (e.mpr hF)

def J2_code_Reader_take (a0_r : Option Addr) (K : Int → Hp → Prop) (t3 : Int) (t4 : Int) (sJ2 : Int × Unit) (hJ2 : Hp) : Prop :=
cnd (sJ2.1 != 0) (
someA a0_r fun (p7 : Addr) =>
((1 : Nat) = 1) ∧ (
stC hJ2 (Addr.add p7 1) (
Let (hset hJ2 (Addr.add p7 1) (.int .i64 sJ2.1)) fun (h8 : Hp) =>
K 0 h8))) (
someA a0_r fun (p9 : Addr) =>
ldA .sl hJ2 p9 fun (t10 : Sl) =>
slcS t10.a t10.len t10.cap (some t4) none 1 fun (t11 : Option Addr) (l12 c13 : Nat) =>
someA a0_r fun (p14 : Addr) =>
((1 : Nat) = 1) ∧ (
stC hJ2 p14 (
Let (hset hJ2 p14 (.slice t11 l12 c13)) fun (h15 : Hp) =>
K t3 h15)))
def J1_code_Reader_take (a0_r : Option Addr) (a1_may : Value) (K : Int → Hp → Prop) (sJ1 : Unit) (hJ1 : Hp) : Prop :=
someA a0_r fun (p1 : Addr) =>
ldA .sl hJ1 p1 fun (t2 : Sl) =>
C_code_number t2 hJ1 fun (t3 : Int) (t4 : Int) (t5 : Int) (h6 : Hp) =>
Jn (J2_code_Reader_take a0_r K t3 t4) fun (J2 : Int × Unit → Hp → Prop) =>
cnd (t5 == 0) (
callV Tryd.prog a1_may [.int .u64 t3] [.at .bool] h6 fun (s : Bool × Unit) (h17 : Hp) =>
cnd (!s.1) (
J2 (14, ()) h17) (
J2 (t5, ()) h17)) (
J2 (t5, ()) h6)
def F_code_Reader_take (a0_r : Option Addr) (a1_may : Value) (h : Hp) (K : Int → Hp → Prop) : Prop :=
Jn (J1_code_Reader_take a0_r a1_may K) fun (J1 : Unit → Hp → Prop) =>
cnd (Option.isNone a0_r) (
K 0 h) (
someA a0_r fun (p18 : Addr) =>
ldA (.int .i64) h (Addr.add p18 1) fun (t19 : Int) =>
cnd (t19 != 0) (
K 0 h) (
J1 (()) h))

theorem F_code_Reader_take_ok (a0_r : Option Addr) (a1_may : Value) (h : Hp) (K : Int → Hp → Prop) (hF : F_code_Reader_take a0_r a1_may h K) : C_code_Reader_take a0_r a1_may h K := by
  have e : bodyVC Tryd.prog Tryd.f31 (.seq .no (.join [] (.seq .no (.cond (.seq .no .no) .no)) (.seq .no (.join [(7, .at (.int .i64))] (.seq .no (.cond .no .no)) (.seq (.seq .no (.cond (.seq .no (.seq .no .no)) .no)) (.seq .no (.seq .no .no))))))) (Option.getD Tryd.f31.body .skip) [.pointer a0_r, a1_may] h [.at (.int .u64)] (fun s h => K s.1 h) = F_code_Reader_take a0_r a1_may h K := by kernel_rfl
  exact fun_sound mixed Tryd.func31 rfl (e.mpr hF)

def F_code_Reader_Int_1 (a0_n : Int) (a1_t : Option Addr) (a2_t : Option Addr) (a3_t : Option Addr) (h : Hp) (K : Bool → Hp → Prop) : Prop :=
C_code_signed a0_n h fun (t1 : Int) (h2 : Hp) =>
Ext h h2 ∧ (
someA a1_t fun (p3 : Addr) =>
ldA (.int .i64) h p3 fun (t4 : Int) =>
cnd (decide (t1 ≥ t4)) (
C_code_signed a0_n h2 fun (t5 : Int) (h6 : Hp) =>
Ext h2 h6 ∧ (
someA a2_t fun (p7 : Addr) =>
ldA (.int .i64) h2 p7 fun (t8 : Int) =>
((1 : Nat) = 1) ∧ (
someA a3_t fun (p9 : Addr) =>
stC h6 p9 (
Let (hset h6 p9 (.bool (decide (t5 ≤ t8)))) fun (h10 : Hp) =>
someA a3_t fun (p11 : Addr) =>
ldA .bool h10 p11 fun (t12 : Bool) =>
K t12 h10)))) (
((1 : Nat) = 1) ∧ (
someA a3_t fun (p13 : Addr) =>
stC h2 p13 (
Let (hset h2 p13 (.bool false)) fun (h14 : Hp) =>
someA a3_t fun (p15 : Addr) =>
ldA .bool h14 p15 fun (t16 : Bool) =>
K t16 h14))))

theorem F_code_Reader_Int_1_ok (a0_n : Int) (a1_t : Option Addr) (a2_t : Option Addr) (a3_t : Option Addr) (h : Hp) (K : Bool → Hp → Prop) (hF : F_code_Reader_Int_1 a0_n a1_t a2_t a3_t h K) : C_code_Reader_Int_1 a0_n a1_t a2_t a3_t h K := by
  have e : bodyVC Tryd.prog Tryd.f32 (.seq .no (.seq .no (.seq .no .no))) (Option.getD Tryd.f32.body .skip) [.int .u64 a0_n, .pointer a1_t, .pointer a2_t, .pointer a3_t] h [.at .bool] (fun s h => K s.1 h) = F_code_Reader_Int_1 a0_n a1_t a2_t a3_t h K := by kernel_rfl
  exact fun_sound mixed Tryd.func32 rfl (e.mpr hF)

def F_code_signed (a0_n : Int) (h : Hp) (K : Int → Hp → Prop) : Prop :=
Let (ibAnd .u64 a0_n 1 : Int) fun (t1 : Int) =>
cnd (t1 == 1) (
((0 : Int) ≤ 1) ∧ (
Let (Int.fdiv a0_n (2 ^ min (Int.toNat 1) (IntKind.bits .u64)) : Int) fun (t2 : Int) =>
Let (ibNot .u64 t2 : Int) fun (t3 : Int) =>
Let (IntKind.wrap .i64 (t3) : Int) fun (t4 : Int) =>
K t4 h)) (
((0 : Int) ≤ 1) ∧ (
Let (Int.fdiv a0_n (2 ^ min (Int.toNat 1) (IntKind.bits .u64)) : Int) fun (t5 : Int) =>
Let (IntKind.wrap .i64 (t5) : Int) fun (t6 : Int) =>
K t6 h))

theorem F_code_signed_ok (a0_n : Int) (h : Hp) (K : Int → Hp → Prop) (hF : F_code_signed a0_n h K) : C_code_signed a0_n h K := by
  have e : bodyVC Tryd.prog Tryd.f33 (.seq .no (.seq (.seq .no (.cond (.seq .no .no) .no)) (.seq .no .no))) (Option.getD Tryd.f33.body .skip) [.int .u64 a0_n] h [.at (.int .i64)] (fun s h => K s.1 h) = F_code_signed a0_n h K := by kernel_rfl
  exact fun_sound mixed Tryd.func33 rfl (e.mpr hF)

def J3_errors_As (a0_err : Value) (a1_target : Value) (K : Bool → Hp → Prop) (p7 : Addr) (s16 : Value × Unit) (sJ3 : Bool × Unit) (hJ3 : Hp) : Prop :=
cnd sJ3.1 (
False) (
ldA .ptr hJ3 p7 fun (t18 : Option Addr) =>
ldA .ptr hJ3 (Addr.add p7 1) fun (t19 : Option Addr) =>
ldA (.int .u64) hJ3 (Addr.add p7 2) fun (t20 : Int) =>
C_errors_as a0_err a1_target t18 t19 t20 s16.1 hJ3 fun (t21 : Bool) (h22 : Hp) =>
K t21 h22)
def J2_errors_As (a0_err : Value) (a1_target : Value) (K : Bool → Hp → Prop) (p7 : Addr) (t14 : Value) (sJ2 : Unit) (hJ2 : Hp) : Prop :=
invV Tryd.prog (t14) "Elem" [] [.at .raw] hJ2 fun (s16 : Value × Unit) (h17 : Hp) =>
Jn (J3_errors_As a0_err a1_target K p7 s16) fun (J3 : Bool × Unit → Hp → Prop) =>
invV Tryd.prog (s16.1) "Kind" [] [.at (.int .u8)] h17 fun (s23 : Int × Unit) (h24 : Hp) =>
cnd (s23.1 != 20) (
ldA .raw h24 (Addr.mk 0 0 none) fun (t25 : Value) =>
invV Tryd.prog (s16.1) "Implements" [t25] [.at .bool] h24 fun (s26 : Bool × Unit) (h27 : Hp) =>
J3 (!s26.1, ()) h27) (
J3 (false, ()) h24)
def J4_errors_As (J2 : Unit → Hp → Prop) (sJ4 : Bool × Unit) (hJ4 : Hp) : Prop :=
cnd sJ4.1 (
False) (
J2 (()) hJ4)
def J1_errors_As (a0_err : Value) (a1_target : Value) (K : Bool → Hp → Prop) (sJ1 : Unit) (hJ1 : Hp) : Prop :=
C_internal_reflectlite_ValueOf a1_target hJ1 fun (t2 : Option Addr) (t3 : Option Addr) (t4 : Int) (h5 : Hp) =>
Let (Array.push h5 (Obj.cells #[.pointer none, .pointer none, .int .u64 0] 97)) fun (h6 : Hp) =>
Let (Addr.mk (Array.size h5) 0 none) fun (p7 : Addr) =>
stC h6 p7 (
Let (hset h6 p7 (.pointer t2)) fun (h8 : Hp) =>
stC h8 (Addr.add p7 1) (
Let (hset h8 (Addr.add p7 1) (.pointer t3)) fun (h9 : Hp) =>
stC h9 (Addr.add p7 2) (
Let (hset h9 (Addr.add p7 2) (.int .u64 t4)) fun (h10 : Hp) =>
ldA .ptr h10 p7 fun (t11 : Option Addr) =>
ldA .ptr h10 (Addr.add p7 1) fun (t12 : Option Addr) =>
ldA (.int .u64) h10 (Addr.add p7 2) fun (t13 : Int) =>
C_internal_reflectlite_Value_Type t11 t12 t13 h10 fun (t14 : Value) (h15 : Hp) =>
Jn (J2_errors_As a0_err a1_target K p7 t14) fun (J2 : Unit → Hp → Prop) =>
Jn (J4_errors_As J2) fun (J4 : Bool × Unit → Hp → Prop) =>
invV Tryd.prog (t14) "Kind" [] [.at (.int .u8)] h15 fun (s28 : Int × Unit) (h29 : Hp) =>
cnd (s28.1 != 22) (
J4 (true, ()) h29) (
ldA .ptr h29 p7 fun (t30 : Option Addr) =>
ldA .ptr h29 (Addr.add p7 1) fun (t31 : Option Addr) =>
ldA (.int .u64) h29 (Addr.add p7 2) fun (t32 : Int) =>
C_internal_reflectlite_Value_IsNil t30 t31 t32 h29 fun (t33 : Bool) (h34 : Hp) =>
J4 (t33, ()) h34))))
def F_errors_As (a0_err : Value) (a1_target : Value) (h : Hp) (K : Bool → Hp → Prop) : Prop :=
ifcNil a0_err fun (t1 : Bool) =>
cnd t1 (
K false h) (
Jn (J1_errors_As a0_err a1_target K) fun (J1 : Unit → Hp → Prop) =>
ifcNil a1_target fun (t35 : Bool) =>
cnd t35 (
False) (
J1 (()) h))

theorem F_errors_As_ok (a0_err : Value) (a1_target : Value) (h : Hp) (K : Bool → Hp → Prop) (hF : F_errors_As a0_err a1_target h K) : C_errors_As a0_err a1_target h K := by
  have e : bodyVC Tryd.prog Tryd.f34 (.seq .no (.seq (.seq .no (.cond (.seq .no .no) .no)) (.join [] (.seq .no (.cond .no .no)) (.seq .no (.seq .no (.join [] (.join [(23, .at .bool)] .no (.cond .no .no)) (.seq .no (.seq (.join [(35, .at .bool)] .no (.cond .no .no)) (.seq .no .no))))))))) (Option.getD Tryd.f34.body .skip) [a0_err, a1_target] h [.at .bool] (fun s h => K s.1 h) = F_errors_As a0_err a1_target h K := by kernel_rfl
  exact fun_sound mixed Tryd.func34 rfl (e.mpr hF)

def J1_config_At (a8_i : Int) (K : Int → Hp → Prop) (p13 : Addr) (sJ1 : Unit) (hJ1 : Hp) : Prop :=
idxS (some p13) 8 a8_i 1 fun (p22 : Addr) =>
ldA .ptr hJ1 p22 fun (t23 : Option Addr) =>
someA t23 fun (p24 : Addr) =>
ldA (.int .i64) hJ1 p24 fun (t25 : Int) =>
K t25 hJ1
def F_config_At (a0_c : Int) (a1_c : Int) (a2_c : Int) (a3_c : Int) (a4_c : Int) (a5_c : Int) (a6_c : Int) (a7_c : Int) (a8_i : Int) (h : Hp) (K : Int → Hp → Prop) : Prop :=
Let (Array.push h (Obj.cells #[.int .i64 a0_c, .int .i64 a1_c, .int .i64 a2_c, .int .i64 a3_c, .int .i64 a4_c, .int .i64 a5_c, .int .i64 a6_c, .int .i64 a7_c] 23)) fun (h1 : Hp) =>
Let (Addr.mk (Array.size h) 0 none) fun (p2 : Addr) =>
C_config_places (some p2) h1 fun (t3 : Option Addr) (t4 : Option Addr) (t5 : Option Addr) (t6 : Option Addr) (t7 : Option Addr) (t8 : Option Addr) (t9 : Option Addr) (t10 : Option Addr) (h11 : Hp) =>
Let (Array.push h11 (Obj.cells #[.pointer none, .pointer none, .pointer none, .pointer none, .pointer none, .pointer none, .pointer none, .pointer none] 57)) fun (h12 : Hp) =>
Let (Addr.mk (Array.size h11) 0 none) fun (p13 : Addr) =>
stC h12 p13 (
Let (hset h12 p13 (.pointer t3)) fun (h14 : Hp) =>
stC h14 (Addr.add p13 1) (
Let (hset h14 (Addr.add p13 1) (.pointer t4)) fun (h15 : Hp) =>
stC h15 (Addr.add p13 2) (
Let (hset h15 (Addr.add p13 2) (.pointer t5)) fun (h16 : Hp) =>
stC h16 (Addr.add p13 3) (
Let (hset h16 (Addr.add p13 3) (.pointer t6)) fun (h17 : Hp) =>
stC h17 (Addr.add p13 4) (
Let (hset h17 (Addr.add p13 4) (.pointer t7)) fun (h18 : Hp) =>
stC h18 (Addr.add p13 5) (
Let (hset h18 (Addr.add p13 5) (.pointer t8)) fun (h19 : Hp) =>
stC h19 (Addr.add p13 6) (
Let (hset h19 (Addr.add p13 6) (.pointer t9)) fun (h20 : Hp) =>
stC h20 (Addr.add p13 7) (
Let (hset h20 (Addr.add p13 7) (.pointer t10)) fun (h21 : Hp) =>
Jn (J1_config_At a8_i K p13) fun (J1 : Unit → Hp → Prop) =>
cnd (decide (a8_i < 0)) (
K 0 h21) (
cnd (decide (a8_i ≥ 8)) (
K 0 h21) (
J1 (()) h21))))))))))

theorem F_config_At_ok (a0_c : Int) (a1_c : Int) (a2_c : Int) (a3_c : Int) (a4_c : Int) (a5_c : Int) (a6_c : Int) (a7_c : Int) (a8_i : Int) (h : Hp) (K : Int → Hp → Prop) (hF : F_config_At a0_c a1_c a2_c a3_c a4_c a5_c a6_c a7_c a8_i h K) : C_config_At a0_c a1_c a2_c a3_c a4_c a5_c a6_c a7_c a8_i h K := by
  have e : bodyVC Tryd.prog Tryd.f35 (.seq .no (.seq .no (.join [] (.seq .no (.cond (.seq .no .no) .no)) (.seq .no .no)))) (Option.getD Tryd.f35.body .skip) [.agg #[.int .i64 a0_c, .int .i64 a1_c, .int .i64 a2_c, .int .i64 a3_c, .int .i64 a4_c, .int .i64 a5_c, .int .i64 a6_c, .int .i64 a7_c], .int .i64 a8_i] h [.at (.int .i64)] (fun s h => K s.1 h) = F_config_At a0_c a1_c a2_c a3_c a4_c a5_c a6_c a7_c a8_i h K := by kernel_rfl
  exact fun_sound mixed Tryd.func35 rfl (e.mpr hF)

def F_fault_Wrap (a0_op : ByteArray) (a1_at : Int) (a2_id : Int) (a3_err : Value) (h : Hp) (K : Value → Hp → Prop) : Prop :=
ifcNil a3_err fun (t1 : Bool) =>
cnd t1 (
K .nilIface h) (
oneA a3_err fun (v2 : Value) =>
Let (Array.push h (Obj.cells #[.string a0_op, .int .i64 a1_at, .int .u64 a2_id, v2] 76)) fun (h3 : Hp) =>
Let (Addr.mk (Array.size h) 0 none) fun (p4 : Addr) =>
K (.iface 86 (.pointer (some p4))) h3)

theorem F_fault_Wrap_ok (a0_op : ByteArray) (a1_at : Int) (a2_id : Int) (a3_err : Value) (h : Hp) (K : Value → Hp → Prop) (hF : F_fault_Wrap a0_op a1_at a2_id a3_err h K) : C_fault_Wrap a0_op a1_at a2_id a3_err h K := by
  have e : bodyVC Tryd.prog Tryd.f36 (.seq .no (.seq (.seq .no (.cond (.seq .no .no) .no)) (.seq .no .no))) (Option.getD Tryd.f36.body .skip) [.string a0_op, .int .i64 a1_at, .int .u64 a2_id, a3_err] h [.at .raw] (fun s h => K s.1 h) = F_fault_Wrap a0_op a1_at a2_id a3_err h K := by kernel_rfl
  exact fun_sound mixed Tryd.func36 rfl (e.mpr hF)

def J2_code_number (K : Int → Int → Int → Hp → Prop) (sL1 : (Int × Int × Unit) × Hp) (t2 : Int) (sJ2 : Bool × Unit) (hJ2 : Hp) : Prop :=
cnd sJ2.1 (
K 0 0 12 hJ2) (
Let (IntKind.wrap .u64 (t2) : Int) fun (t9 : Int) =>
Let (IntKind.wrap .i64 ((7 : Int) * sL1.1.2.1) : Int) fun (t10 : Int) =>
((0 : Int) ≤ t10) ∧ (
Let (IntKind.wrap .u64 (t9 * 2 ^ min (Int.toNat t10) (IntKind.bits .u64)) : Int) fun (t11 : Int) =>
Let (ibOr .u64 sL1.1.1 t11 : Int) fun (t12 : Int) =>
Let (IntKind.wrap .i64 (sL1.1.2.1 + 1) : Int) fun (t13 : Int) =>
K t12 t13 0 hJ2))
def J1_code_number (K : Int → Int → Int → Hp → Prop) (sL1 : (Int × Int × Unit) × Hp) (R1 : (Int × Int × Unit) × Hp → Prop) (t2 : Int) (sJ1 : Bool × Unit) (hJ1 : Hp) : Prop :=
cnd sJ1.1 (
K 0 0 12 hJ1) (
cnd (decide (t2 ≥ 128)) (
Let (ibAnd .u8 t2 127 : Int) fun (t3 : Int) =>
Let (IntKind.wrap .u64 (t3) : Int) fun (t4 : Int) =>
Let (IntKind.wrap .i64 ((7 : Int) * sL1.1.2.1) : Int) fun (t5 : Int) =>
((0 : Int) ≤ t5) ∧ (
Let (IntKind.wrap .u64 (t4 * 2 ^ min (Int.toNat t5) (IntKind.bits .u64)) : Int) fun (t6 : Int) =>
Let (ibOr .u64 sL1.1.1 t6 : Int) fun (t7 : Int) =>
Let (IntKind.wrap .i64 (sL1.1.2.1 + 1) : Int) fun (t8 : Int) =>
R1 ((t7, t8, ()), hJ1))) (
Jn (J2_code_number K sL1 t2) fun (J2 : Bool × Unit → Hp → Prop) =>
cnd (t2 == 0) (
J2 (decide (sL1.1.2.1 > 0), ()) hJ1) (
J2 (false, ()) hJ1)))
def L1_code_number (a0_b : Sl) (K : Int → Int → Int → Hp → Prop) (sL1 : (Int × Int × Unit) × Hp) (R1 : (Int × Int × Unit) × Hp → Prop) : Prop :=
cnd (decide (sL1.1.2.1 < (a0_b.len : Int))) (
idxS a0_b.a a0_b.len sL1.1.2.1 1 fun (p1 : Addr) =>
ldA (.int .u8) sL1.2 p1 fun (t2 : Int) =>
Jn (J1_code_number K sL1 R1 t2) fun (J1 : Bool × Unit → Hp → Prop) =>
cnd (sL1.1.2.1 == 9) (
J1 (decide (t2 > 1), ()) sL1.2) (
J1 (false, ()) sL1.2)) (
K 0 0 13 sL1.2)
def F_code_number (a0_b : Sl) (h : Hp) (K : Int → Int → Int → Hp → Prop) : Prop :=
∃ n, Lp (L1_code_number a0_b K) n ((0, 0, ()), h)

theorem F_code_number_ok (a0_b : Sl) (h : Hp) (K : Int → Int → Int → Hp → Prop) (hF : F_code_number a0_b h K) : C_code_number a0_b h K := by
  have e : bodyVC Tryd.prog Tryd.f37 (.seq .no (.seq .no (.seq (.seq .no (.block (.loop [(5, .at (.int .u64)), (10, .at (.int .i64))] (.seq .no (.seq (.cond .no .no) (.seq (.block (.seq .no (.block (.join [(24, .at .bool)] .no (.cond (.seq .no .no) (.seq .no (.cond .no (.join [(42, .at .bool)] .no (.cond (.seq .no .no) (.seq .no .no)))))))))) .no)))))) (.seq .no .no)))) (Option.getD Tryd.f37.body .skip) [.slice a0_b.a a0_b.len a0_b.cap] h [.at (.int .u64), .at (.int .i64), .at (.int .i64)] (fun s h => K s.1 s.2.1 s.2.2.1 h) = F_code_number a0_b h K := by kernel_rfl
  exact fun_sound mixed Tryd.func37 rfl (e.mpr hF)

def L2_errors_as (a1_target : Value) (a5_targetType : Value) (K : Bool → Hp → Prop) (p2 : Addr) (s24 : Sl × Unit) (sL2 : (Int × Unit) × Hp) (R2 : (Int × Unit) × Hp → Prop) : Prop :=
cnd (decide (sL2.1.1 < (s24.1.len : Int))) (
idxS s24.1.a s24.1.len sL2.1.1 1 fun (p26 : Addr) =>
ldA .raw sL2.2 p26 fun (t27 : Value) =>
ifcNil t27 fun (t28 : Bool) =>
cnd t28 (
Let (IntKind.wrap .i64 (sL2.1.1 + 1) : Int) fun (t29 : Int) =>
R2 ((t29, ()), sL2.2)) (
ldA .ptr sL2.2 p2 fun (t30 : Option Addr) =>
ldA .ptr sL2.2 (Addr.add p2 1) fun (t31 : Option Addr) =>
ldA (.int .u64) sL2.2 (Addr.add p2 2) fun (t32 : Int) =>
C_errors_as t27 a1_target t30 t31 t32 a5_targetType sL2.2 fun (t33 : Bool) (h34 : Hp) =>
cnd t33 (
K true h34) (
Let (IntKind.wrap .i64 (sL2.1.1 + 1) : Int) fun (t35 : Int) =>
R2 ((t35, ()), h34)))) (
K false sL2.2)
def J1_errors_as (a1_target : Value) (a5_targetType : Value) (K : Bool → Hp → Prop) (p2 : Addr) (sL1 : (Value × Unit) × Hp) (R1 : (Value × Unit) × Hp → Prop) (sJ1 : Unit) (hJ1 : Hp) : Prop :=
taV Tryd.prog (sL1.1.1) 74 115 true [.at .raw, .at .bool] hJ1 fun (s19 : Value × Bool × Unit) =>
cnd s19.2.1 (
invV Tryd.prog (s19.1) "Unwrap" [] [.at .raw] hJ1 fun (s20 : Value × Unit) (h21 : Hp) =>
ifcNil s20.1 fun (t22 : Bool) =>
cnd t22 (
K false h21) (
R1 ((s20.1, ()), h21))) (
taV Tryd.prog (sL1.1.1) 74 117 true [.at .raw, .at .bool] hJ1 fun (s23 : Value × Bool × Unit) =>
cnd s23.2.1 (
invV Tryd.prog (s23.1) "Unwrap" [] [.at .sl] hJ1 fun (s24 : Sl × Unit) (h25 : Hp) =>
∃ n, Lp (L2_errors_as a1_target a5_targetType K p2 s24) n ((0, ()), h25)) (
K false hJ1))
def L1_errors_as (a1_target : Value) (a5_targetType : Value) (K : Bool → Hp → Prop) (p2 : Addr) (sL1 : (Value × Unit) × Hp) (R1 : (Value × Unit) × Hp → Prop) : Prop :=
C_internal_reflectlite_TypeOf sL1.1.1 sL1.2 fun (t3 : Value) (h4 : Hp) =>
invV Tryd.prog (t3) "AssignableTo" [a5_targetType] [.at .bool] h4 fun (s5 : Bool × Unit) (h6 : Hp) =>
cnd s5.1 (
ldA .ptr h6 p2 fun (t7 : Option Addr) =>
ldA .ptr h6 (Addr.add p2 1) fun (t8 : Option Addr) =>
ldA (.int .u64) h6 (Addr.add p2 2) fun (t9 : Int) =>
C_internal_reflectlite_Value_Elem t7 t8 t9 h6 fun (t10 : Option Addr) (t11 : Option Addr) (t12 : Int) (h13 : Hp) =>
C_internal_reflectlite_ValueOf sL1.1.1 h13 fun (t14 : Option Addr) (t15 : Option Addr) (t16 : Int) (h17 : Hp) =>
C_internal_reflectlite_Value_Set t10 t11 t12 t14 t15 t16 h17 fun  (h18 : Hp) =>
K true h18) (
Jn (J1_errors_as a1_target a5_targetType K p2 sL1 R1) fun (J1 : Unit → Hp → Prop) =>
taV Tryd.prog (sL1.1.1) 74 112 true [.at .raw, .at .bool] h6 fun (s36 : Value × Bool × Unit) =>
cnd s36.2.1 (
invV Tryd.prog (s36.1) "As" [a1_target] [.at .bool] h6 fun (s37 : Bool × Unit) (h38 : Hp) =>
cnd s37.1 (
K true h38) (
J1 (()) h38)) (
J1 (()) h6))
def F_errors_as (a0_err : Value) (a1_target : Value) (a2_targetVal : Option Addr) (a3_targetVal : Option Addr) (a4_targetVal : Int) (a5_targetType : Value) (h : Hp) (K : Bool → Hp → Prop) : Prop :=
Let (Array.push h (Obj.cells #[.pointer a2_targetVal, .pointer a3_targetVal, .int .u64 a4_targetVal] 97)) fun (h1 : Hp) =>
Let (Addr.mk (Array.size h) 0 none) fun (p2 : Addr) =>
∃ n, Lp (L1_errors_as a1_target a5_targetType K p2) n ((a0_err, ()), h1)

theorem F_errors_as_ok (a0_err : Value) (a1_target : Value) (a2_targetVal : Option Addr) (a3_targetVal : Option Addr) (a4_targetVal : Int) (a5_targetType : Value) (h : Hp) (K : Bool → Hp → Prop) (hF : F_errors_as a0_err a1_target a2_targetVal a3_targetVal a4_targetVal a5_targetType h K) : C_errors_as a0_err a1_target a2_targetVal a3_targetVal a4_targetVal a5_targetType h K := by
  have e : bodyVC Tryd.prog Tryd.f41 (.seq .no (.block (.loop [(0, .at .raw)] (.block (.seq (.seq .no (.cond (.seq .no (.seq .no .no)) .no)) (.join [] (.seq .no (.seq .no (.cond (.seq .no .no) .no))) (.seq .no (.block (.seq .no (.cond (.seq .no (.seq .no (.seq .no (.cond (.seq .no .no) .no)))) (.seq .no (.cond (.seq .no (.seq (.seq .no (.block (.loop [(50, .at (.int .i64))] (.seq .no (.seq (.cond .no .no) (.seq (.block (.seq .no (.seq (.seq .no (.cond .no .no)) (.seq .no (.cond (.seq .no .no) .no))))) .no)))))) (.seq .no .no))) (.seq .no (.seq .no .no)))))))))))))) (Option.getD Tryd.f41.body .skip) [a0_err, a1_target, .agg #[.pointer a2_targetVal, .pointer a3_targetVal, .int .u64 a4_targetVal], a5_targetType] h [.at .bool] (fun s h => K s.1 h) = F_errors_as a0_err a1_target a2_targetVal a3_targetVal a4_targetVal a5_targetType h K := by kernel_rfl
  exact fun_sound mixed Tryd.func41 rfl (e.mpr hF)

def F_fault_Fault_Unwrap (a0_f : Option Addr) (h : Hp) (K : Value → Hp → Prop) : Prop :=
cnd (Option.isNone a0_f) (
K .nilIface h) (
someA a0_f fun (p1 : Addr) =>
ldA .raw h (Addr.add p1 3) fun (t2 : Value) =>
K t2 h)

theorem F_fault_Fault_Unwrap_ok (a0_f : Option Addr) (h : Hp) (K : Value → Hp → Prop) (hF : F_fault_Fault_Unwrap a0_f h K) : C_fault_Fault_Unwrap a0_f h K := by
  have e : bodyVC Tryd.prog Tryd.f66 (.seq .no (.seq (.seq .no (.cond (.seq .no .no) .no)) (.seq .no .no))) (Option.getD Tryd.f66.body .skip) [.pointer a0_f] h [.at .raw] (fun s h => K s.1 h) = F_fault_Fault_Unwrap a0_f h K := by kernel_rfl
  exact fun_sound mixed Tryd.func66 rfl (e.mpr hF)

def F_gosem_cut_vars  (h : Hp) (K : Hp → Prop) : Prop :=
C_internal_reflectlite_TypeOf (.iface 149 (.pointer none)) h fun (t1 : Value) (h2 : Hp) =>
invV Tryd.prog (t1) "Elem" [] [.at .raw] h2 fun (s3 : Value × Unit) (h4 : Hp) =>
((1 : Nat) = 1) ∧ (
stO h4 (Addr.mk 0 0 none) (s3.1) (
Let (hset h4 (Addr.mk 0 0 none) (s3.1)) fun (h5 : Hp) =>
K h5))

theorem F_gosem_cut_vars_ok  (h : Hp) (K : Hp → Prop) (hF : F_gosem_cut_vars  h K) : C_gosem_cut_vars  h K := by
  have e : bodyVC Tryd.prog Tryd.f85 .no (Option.getD Tryd.f85.body .skip) [] h [] (fun s h => K h) = F_gosem_cut_vars  h K := by kernel_rfl
  exact fun_sound mixed Tryd.func85 rfl (e.mpr hF)

end Go.Proofs.YtjifeclbpgonpaaDoorF
