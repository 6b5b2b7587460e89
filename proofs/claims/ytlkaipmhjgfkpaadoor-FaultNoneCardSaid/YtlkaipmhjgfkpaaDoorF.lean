/- The formulas of the seat's functions and the proofs that they are enough, printed by gen.py of this session. No condition. -/
import Derived.Test.YtlkaipmhjgfkpaaDoorProg
import Derived.Test.YtlkaipmhjgfkpaaDoorK7
namespace Go.Proofs.YtlkaipmhjgfkpaaDoorF
open Go Go.Proofs.YtlkaipmhjgfkpaaDoorK Go.Proofs
set_option linter.unusedVariables false
set_option maxRecDepth 100000
theorem mixed : Tryd.prog.follows .mixedOrders = true := by kernel_rfl
def C_gosem_cut  (h : Hp) (K : Hp → Prop) : Prop :=
  ExtT Tryd.prog 1 [] [] h fun s h => K h
def C_gosem_cut_init  (h : Hp) (K : Hp → Prop) : Prop :=
  CallT Tryd.prog 2 [] [] h fun s h => K h
def C_law04_FaultWraps (a0_l : Sl) (a1_code : Int) (a2_other : Int) (h : Hp) (K : Bool → Hp → Prop) : Prop :=
  CallT Tryd.prog 3 [.slice a0_l.a a0_l.len a0_l.cap, .int .i64 a1_code, .int .i64 a2_other] [.at .bool] h fun s h => K s.1 h
def C_law04_FaultWhere (a0_l : Sl) (a1_code : Int) (h : Hp) (K : Bool → Hp → Prop) : Prop :=
  CallT Tryd.prog 4 [.slice a0_l.a a0_l.len a0_l.cap, .int .i64 a1_code] [.at .bool] h fun s h => K s.1 h
def C_law04_FaultNone (a0_s : ByteArray) (a1_s : Int) (a2_s : Int) (a3_text : ByteArray) (h : Hp) (K : Bool → Hp → Prop) : Prop :=
  CallT Tryd.prog 5 [.agg #[.string a0_s, .int .i64 a1_s, .int .u64 a2_s], .string a3_text] [.at .bool] h fun s h => K s.1 h
def C_law04_wrap (a0_l : Sl) (a1_e : Int) (h : Hp) (K : Value → Hp → Prop) : Prop :=
  CallT Tryd.prog 6 [.slice a0_l.a a0_l.len a0_l.cap, .int .i64 a1_e] [.at .raw] h fun s h => K s.1 h
def C_ref04_Text (a0_l : Sl) (a1_code : Int) (h : Hp) (K : ByteArray → Hp → Prop) : Prop :=
  CallT Tryd.prog 7 [.slice a0_l.a a0_l.len a0_l.cap, .int .i64 a1_code] [.at .str] h fun s h => K s.1 h
def C_fault_Code (a0_err : Value) (h : Hp) (K : Int → Hp → Prop) : Prop :=
  CallT Tryd.prog 8 [a0_err] [.at (.int .i64)] h fun s h => K s.1 h
def C_fault_Is (a0_err : Value) (a1_e : Int) (h : Hp) (K : Bool → Hp → Prop) : Prop :=
  CallT Tryd.prog 9 [a0_err, .int .i64 a1_e] [.at .bool] h fun s h => K s.1 h
def C_errors_Is (a0_err : Value) (a1_target : Value) (h : Hp) (K : Bool → Hp → Prop) : Prop :=
  CallT Tryd.prog 10 [a0_err, a1_target] [.at .bool] h fun s h => K s.1 h
def C_ref04_Texts (a0_a : Sl) (a1_b : Sl) (h : Hp) (K : Bool → Hp → Prop) : Prop :=
  CallT Tryd.prog 11 [.slice a0_a.a a0_a.len a0_a.cap, .slice a1_b.a a1_b.len a1_b.cap] [.at .bool] h fun s h => K s.1 h
def C_fault_Trace (a0_err : Value) (h : Hp) (K : Sl → Hp → Prop) : Prop :=
  CallT Tryd.prog 12 [a0_err] [.at .sl] h fun s h => K s.1 h
def C_ref04_Trace (a0_l : Sl) (h : Hp) (K : Sl → Hp → Prop) : Prop :=
  CallT Tryd.prog 13 [.slice a0_l.a a0_l.len a0_l.cap] [.at .sl] h fun s h => K s.1 h
def C_law04_lives  (h : Hp) (K : Bool → Hp → Prop) : Prop :=
  CallT Tryd.prog 14 [] [.at .bool] h fun s h => K s.1 h
def C_fault_Where (a0_err : Value) (h : Hp) (K : ByteArray → Int → Int → Value → Bool → Hp → Prop) : Prop :=
  CallT Tryd.prog 15 [a0_err] [.agg [.str, (.int .i64), (.int .u64), .raw], .at .bool] h fun s h => K s.1.1 s.1.2.1 s.1.2.2.1 s.1.2.2.2.1 s.2.1 h
def C_fault_Wrap (a0_op : ByteArray) (a1_at : Int) (a2_id : Int) (a3_err : Value) (h : Hp) (K : Value → Hp → Prop) : Prop :=
  CallT Tryd.prog 16 [.string a0_op, .int .i64 a1_at, .int .u64 a2_id, a3_err] [.at .raw] h fun s h => K s.1 h
def C_errors_New (a0_text : ByteArray) (h : Hp) (K : Value → Hp → Prop) : Prop :=
  CallT Tryd.prog 17 [.string a0_text] [.at .raw] h fun s h => K s.1 h
def C_fault_Fault_Error (a0_f : Option Addr) (h : Hp) (K : ByteArray → Hp → Prop) : Prop :=
  CallT Tryd.prog 18 [.pointer a0_f] [.at .str] h fun s h => K s.1 h
def C_fault_Fault_Unwrap (a0_f : Option Addr) (h : Hp) (K : Value → Hp → Prop) : Prop :=
  CallT Tryd.prog 19 [.pointer a0_f] [.at .raw] h fun s h => K s.1 h
def C_ref04_Num (a0_n : Int) (h : Hp) (K : ByteArray → Hp → Prop) : Prop :=
  CallT Tryd.prog 20 [.int .i64 a0_n] [.at .str] h fun s h => K s.1 h
def C_ref04_figures (a0_n : Int) (h : Hp) (K : ByteArray → Hp → Prop) : Prop :=
  CallT Tryd.prog 21 [.int .u64 a0_n] [.at .str] h fun s h => K s.1 h
def C_errors_As (a0_err : Value) (a1_target : Value) (h : Hp) (K : Bool → Hp → Prop) : Prop :=
  CallT Tryd.prog 22 [a0_err, a1_target] [.at .bool] h fun s h => K s.1 h
def C_internal_reflectlite_TypeOf (a0_t : Value) (h : Hp) (K : Value → Hp → Prop) : Prop :=
  ExtT Tryd.prog 23 [a0_t] [.at .raw] h fun s h => K s.1 h
def C_errors_is (a0_err : Value) (a1_target : Value) (a2_targetComparable : Bool) (h : Hp) (K : Bool → Hp → Prop) : Prop :=
  CallT Tryd.prog 24 [a0_err, a1_target, .bool a2_targetComparable] [.at .bool] h fun s h => K s.1 h
def C_strconv_Itoa (a0_i : Int) (h : Hp) (K : ByteArray → Hp → Prop) : Prop :=
  CallT Tryd.prog 25 [.int .i64 a0_i] [.at .str] h fun s h => K s.1 h
def C_strconv_FormatUint (a0_i : Int) (a1_base : Int) (h : Hp) (K : ByteArray → Hp → Prop) : Prop :=
  CallT Tryd.prog 26 [.int .u64 a0_i, .int .i64 a1_base] [.at .str] h fun s h => K s.1 h
def C_internal_reflectlite_ValueOf (a0_t : Value) (h : Hp) (K : Option Addr → Option Addr → Int → Hp → Prop) : Prop :=
  ExtT Tryd.prog 27 [a0_t] [.agg [.ptr, .ptr, (.int .u64)]] h fun s h => K s.1.1 s.1.2.1 s.1.2.2.1 h
def C_internal_reflectlite_Value_Type (a0_t : Option Addr) (a1_t : Option Addr) (a2_t : Int) (h : Hp) (K : Value → Hp → Prop) : Prop :=
  ExtT Tryd.prog 28 [.agg #[.pointer a0_t, .pointer a1_t, .int .u64 a2_t]] [.at .raw] h fun s h => K s.1 h
def C_internal_reflectlite_Value_IsNil (a0_t : Option Addr) (a1_t : Option Addr) (a2_t : Int) (h : Hp) (K : Bool → Hp → Prop) : Prop :=
  ExtT Tryd.prog 29 [.agg #[.pointer a0_t, .pointer a1_t, .int .u64 a2_t]] [.at .bool] h fun s h => K s.1 h
def C_errors_as (a0_err : Value) (a1_target : Value) (a2_targetVal : Option Addr) (a3_targetVal : Option Addr) (a4_targetVal : Int) (a5_targetType : Value) (h : Hp) (K : Bool → Hp → Prop) : Prop :=
  CallT Tryd.prog 30 [a0_err, a1_target, .agg #[.pointer a2_targetVal, .pointer a3_targetVal, .int .u64 a4_targetVal], a5_targetType] [.at .bool] h fun s h => K s.1 h
def C_internal_strconv_Itoa (a0_i : Int) (h : Hp) (K : ByteArray → Hp → Prop) : Prop :=
  CallT Tryd.prog 31 [.int .i64 a0_i] [.at .str] h fun s h => K s.1 h
def C_internal_strconv_FormatUint (a0_i : Int) (a1_base : Int) (h : Hp) (K : ByteArray → Hp → Prop) : Prop :=
  CallT Tryd.prog 32 [.int .u64 a0_i, .int .i64 a1_base] [.at .str] h fun s h => K s.1 h
def C_internal_reflectlite_Value_Elem (a0_t : Option Addr) (a1_t : Option Addr) (a2_t : Int) (h : Hp) (K : Option Addr → Option Addr → Int → Hp → Prop) : Prop :=
  ExtT Tryd.prog 33 [.agg #[.pointer a0_t, .pointer a1_t, .int .u64 a2_t]] [.agg [.ptr, .ptr, (.int .u64)]] h fun s h => K s.1.1 s.1.2.1 s.1.2.2.1 h
def C_internal_reflectlite_Value_Set (a0_t : Option Addr) (a1_t : Option Addr) (a2_t : Int) (a3_t : Option Addr) (a4_t : Option Addr) (a5_t : Int) (h : Hp) (K : Hp → Prop) : Prop :=
  ExtT Tryd.prog 34 [.agg #[.pointer a0_t, .pointer a1_t, .int .u64 a2_t], .agg #[.pointer a3_t, .pointer a4_t, .int .u64 a5_t]] [] h fun s h => K h
def C_internal_strconv_FormatInt (a0_i : Int) (a1_base : Int) (h : Hp) (K : ByteArray → Hp → Prop) : Prop :=
  CallT Tryd.prog 35 [.int .i64 a0_i, .int .i64 a1_base] [.at .str] h fun s h => K s.1 h
def C_internal_strconv_small (a0_i : Int) (h : Hp) (K : ByteArray → Hp → Prop) : Prop :=
  CallT Tryd.prog 36 [.int .i64 a0_i] [.at .str] h fun s h => K s.1 h
def C_internal_strconv_numDigits (a0_d : Int) (h : Hp) (K : Int → Hp → Prop) : Prop :=
  CallT Tryd.prog 37 [.int .u64 a0_d] [.at (.int .i64)] h fun s h => K s.1 h
def C_internal_strconv_formatBase10 (a0_a : Sl) (a1_u : Int) (h : Hp) (K : Hp → Prop) : Prop :=
  CallT Tryd.prog 38 [.slice a0_a.a a0_a.len a0_a.cap, .int .u64 a1_u] [] h fun s h => K h
def C_internal_strconv_formatBits (a0_dst : Sl) (a1_u : Int) (a2_base : Int) (a3_neg : Bool) (a4_append : Bool) (h : Hp) (K : Sl → ByteArray → Hp → Prop) : Prop :=
  CallT Tryd.prog 39 [.slice a0_dst.a a0_dst.len a0_dst.cap, .int .u64 a1_u, .int .i64 a2_base, .bool a3_neg, .bool a4_append] [.at .sl, .at .str] h fun s h => K s.1 s.2.1 h
def C_internal_strconv_log10Pow2 (a0_x : Int) (h : Hp) (K : Int → Hp → Prop) : Prop :=
  CallT Tryd.prog 40 [.int .i64 a0_x] [.at (.int .i64)] h fun s h => K s.1 h
def C_math_bits_Len64 (a0_x : Int) (h : Hp) (K : Int → Hp → Prop) : Prop :=
  CallT Tryd.prog 41 [.int .u64 a0_x] [.at (.int .i64)] h fun s h => K s.1 h
def C_internal_strconv_bool2_int (a0_b : Bool) (h : Hp) (K : Int → Hp → Prop) : Prop :=
  CallT Tryd.prog 42 [.bool a0_b] [.at (.int .i64)] h fun s h => K s.1 h
def C_internal_strconv_isPowerOfTwo (a0_x : Int) (h : Hp) (K : Bool → Hp → Prop) : Prop :=
  CallT Tryd.prog 43 [.int .i64 a0_x] [.at .bool] h fun s h => K s.1 h
def C_math_bits_TrailingZeros (a0_x : Int) (h : Hp) (K : Int → Hp → Prop) : Prop :=
  CallT Tryd.prog 44 [.int .u64 a0_x] [.at (.int .i64)] h fun s h => K s.1 h
def C_math_bits_TrailingZeros32 (a0_x : Int) (h : Hp) (K : Int → Hp → Prop) : Prop :=
  CallT Tryd.prog 45 [.int .u32 a0_x] [.at (.int .i64)] h fun s h => K s.1 h
def C_math_bits_TrailingZeros64 (a0_x : Int) (h : Hp) (K : Int → Hp → Prop) : Prop :=
  CallT Tryd.prog 46 [.int .u64 a0_x] [.at (.int .i64)] h fun s h => K s.1 h
def C_internal_abi_Type_Kind (a0_t : Option Addr) (h : Hp) (K : Int → Hp → Prop) : Prop :=
  ExtT Tryd.prog 61 [.pointer a0_t] [.at (.int .u8)] h fun s h => K s.1 h
def C_api_Errno_Error (a0_e : Int) (h : Hp) (K : ByteArray → Hp → Prop) : Prop :=
  CallT Tryd.prog 64 [.int .i64 a0_e] [.at .str] h fun s h => K s.1 h
def C_errors_errorString_Error (a0_e : Option Addr) (h : Hp) (K : ByteArray → Hp → Prop) : Prop :=
  CallT Tryd.prog 65 [.pointer a0_e] [.at .str] h fun s h => K s.1 h
def C_internal_reflectlite_rtype_AssignableTo (a0_t : Option Addr) (a1_t : Value) (h : Hp) (K : Bool → Hp → Prop) : Prop :=
  ExtT Tryd.prog 70 [.agg #[.pointer a0_t], a1_t] [.at .bool] h fun s h => K s.1 h
def C_internal_reflectlite_rtype_Comparable (a0_t : Option Addr) (h : Hp) (K : Bool → Hp → Prop) : Prop :=
  ExtT Tryd.prog 71 [.agg #[.pointer a0_t]] [.at .bool] h fun s h => K s.1 h
def C_internal_reflectlite_rtype_Elem (a0_t : Option Addr) (h : Hp) (K : Value → Hp → Prop) : Prop :=
  ExtT Tryd.prog 72 [.agg #[.pointer a0_t]] [.at .raw] h fun s h => K s.1 h
def C_internal_reflectlite_rtype_Implements (a0_t : Option Addr) (a1_t : Value) (h : Hp) (K : Bool → Hp → Prop) : Prop :=
  ExtT Tryd.prog 73 [.agg #[.pointer a0_t], a1_t] [.at .bool] h fun s h => K s.1 h
def C_gosem_cut_vars  (h : Hp) (K : Hp → Prop) : Prop :=
  CallT Tryd.prog 87 [] [] h fun s h => K h
abbrev T_ : TypeId := 0
abbrev T_func : TypeId := 1
abbrev T_int64 : TypeId := 2
abbrev T_int : TypeId := 3
abbrev T_bool : TypeId := 4
abbrev T_uint8 : TypeId := 5
abbrev T_abi_BoundsErrorCode : TypeId := 6
abbrev T_struct_x_int64_y_int_signed_bool_code_abi_BoundsErrorCode : TypeId := 7
abbrev T_runtime_boundsError : TypeId := 8
abbrev T_string : TypeId := 9
abbrev T_runtime_errorString : TypeId := 10
abbrev T_runtime_plainError : TypeId := 11
abbrev T_uintptr : TypeId := 12
abbrev T_struct_msg_string_addr_uintptr : TypeId := 13
abbrev T_runtime_errorAddressString : TypeId := 14
abbrev T_Pruntime_TypeAssertionError : TypeId := 15
abbrev T_Pruntime_PanicNilError : TypeId := 16
abbrev T_Pabi_Type : TypeId := 17
abbrev T_struct_typ_Pabi_Type : TypeId := 18
abbrev T_maps_unhashableTypeError : TypeId := 19
abbrev T_interface : TypeId := 20
abbrev T_int32 : TypeId := 21
abbrev T_Swaywiserref04_Step : TypeId := 22
abbrev T_api_Errno : TypeId := 23
abbrev T_interface_Error_string : TypeId := 24
abbrev T_error : TypeId := 25
abbrev T_func_Swaywiserref04_Step_api_Errno_error : TypeId := 26
abbrev T_func_string : TypeId := 27
abbrev T_func_Swaywiserref04_Step_int_string : TypeId := 28
abbrev T_func_error_api_Errno : TypeId := 29
abbrev T_func_error_api_Errno_bool : TypeId := 30
abbrev T_func_error_error_bool : TypeId := 31
abbrev T_func_Sstring_Sstring_bool : TypeId := 32
abbrev T_Sstring : TypeId := 33
abbrev T_func_error_Sstring : TypeId := 34
abbrev T_func_Swaywiserref04_Step_Sstring : TypeId := 35
abbrev T_func_bool : TypeId := 36
abbrev T_func_Swaywiserref04_Step_int_int_bool : TypeId := 37
abbrev T_uint64 : TypeId := 38
abbrev T_struct_Op_string_At_int_Id_uint64_Err_error : TypeId := 39
abbrev T_fault_Fault : TypeId := 40
abbrev T_fault_Fault_bool : TypeId := 41
abbrev T_func_error_fault_Fault_bool : TypeId := 42
abbrev T_struct_Op_string_At_int_Id_uint64 : TypeId := 43
abbrev T_waywiserref04_Step : TypeId := 44
abbrev T_func_Swaywiserref04_Step_int_bool : TypeId := 45
abbrev T_Pfault_Fault : TypeId := 46
abbrev T_func_string_int_uint64_error_error : TypeId := 47
abbrev T_func_string_error : TypeId := 48
abbrev T_func_error : TypeId := 49
abbrev T_func_int_string : TypeId := 50
abbrev T_func_waywiserref04_Step_string_bool : TypeId := 51
abbrev T_func_uint64_string : TypeId := 52
abbrev T_func_error_interface_bool : TypeId := 53
abbrev T_Papi_Errno : TypeId := 54
abbrev T_reflectlite_Type : TypeId := 56
abbrev T_func_interface_reflectlite_Type : TypeId := 57
abbrev T_func_error_error_bool_bool : TypeId := 58
abbrev T_PPfault_Fault : TypeId := 59
abbrev T_Perrors_errorString : TypeId := 60
abbrev T_struct_s_string : TypeId := 61
abbrev T_errors_errorString : TypeId := 62
abbrev T_func_uint64_int_string : TypeId := 63
abbrev T_Suint8 : TypeId := 64
abbrev T_unsafe_Pointer : TypeId := 65
abbrev T_reflectlite_flag : TypeId := 66
abbrev T_struct_typ_Pabi_Type_ptr_unsafe_Pointer_reflectlite_flag : TypeId := 67
abbrev T_reflectlite_Value : TypeId := 68
abbrev T_func_interface_reflectlite_Value : TypeId := 69
abbrev T_func_reflectlite_Type : TypeId := 70
abbrev T_abi_Kind : TypeId := 71
abbrev T_func_abi_Kind : TypeId := 72
abbrev T_func_reflectlite_Type_bool : TypeId := 73
abbrev T_struct_Pabi_Type : TypeId := 75
abbrev T_reflectlite_rtype : TypeId := 76
abbrev T_Preflectlite_ValueError : TypeId := 77
abbrev T_interface_Is_error_bool : TypeId := 78
abbrev T_interface_Is_error_bool_bool : TypeId := 79
abbrev T_func_error_bool : TypeId := 80
abbrev T_interface_Unwrap_error : TypeId := 81
abbrev T_interface_Unwrap_Serror : TypeId := 82
abbrev T_Serror : TypeId := 83
abbrev T_func_Serror : TypeId := 84
abbrev T_func_reflectlite_Value : TypeId := 85
abbrev T_interface_As_interface_bool : TypeId := 87
abbrev T_interface_As_interface_bool_bool : TypeId := 88
abbrev T_func_interface_bool : TypeId := 89
abbrev T_func_int64_int_string : TypeId := 90
abbrev T_24_uint8 : TypeId := 91
abbrev T_func_uint64_int : TypeId := 92
abbrev T_func_Suint8_uint64 : TypeId := 93
abbrev T_Suint8_string : TypeId := 94
abbrev T_func_Suint8_uint64_int_bool_bool_Suint8_string : TypeId := 95
abbrev T_func_int_int : TypeId := 96
abbrev T_func_bool_int : TypeId := 97
abbrev T_20_uint64 : TypeId := 98
abbrev T_uint32 : TypeId := 99
abbrev T_65_uint8 : TypeId := 100
abbrev T_func_int_bool : TypeId := 101
abbrev T_uint : TypeId := 102
abbrev T_func_uint_int : TypeId := 103
abbrev T_func_uint32_int : TypeId := 104
abbrev T_32_uint8 : TypeId := 105
abbrev T_64_uint8 : TypeId := 106
abbrev T_runtime_TypeAssertionError : TypeId := 108
abbrev T_0_Pruntime_PanicNilError : TypeId := 109
abbrev T_struct_0_Pruntime_PanicNilError : TypeId := 110
abbrev T_runtime_PanicNilError : TypeId := 111
abbrev T_func_int : TypeId := 112
abbrev T_func_Pabi_Type : TypeId := 113
abbrev T_abi_TFlag : TypeId := 114
abbrev T_func_unsafe_Pointer_unsafe_Pointer_bool : TypeId := 115
abbrev T_Puint8 : TypeId := 116
abbrev T_abi_NameOff : TypeId := 117
abbrev T_abi_TypeOff : TypeId := 118
abbrev T_abi_Type : TypeId := 120
abbrev T_func_uintptr : TypeId := 121
abbrev T_func_Pabi_UncommonType : TypeId := 122
abbrev T_struct_Method_string_Kind_abi_Kind : TypeId := 123
abbrev T_reflectlite_ValueError : TypeId := 124
abbrev T_Pabi_UncommonType : TypeId := 125
abbrev T_func_Sabi_Method : TypeId := 126
abbrev T_uint16 : TypeId := 127
abbrev T_abi_UncommonType : TypeId := 129
abbrev T_Sabi_Method : TypeId := 130
abbrev T_abi_TextOff : TypeId := 131
abbrev T_abi_Method : TypeId := 133
abbrev T_Perror : TypeId := 134
abbrev N_main_main : FuncId := 0
abbrev N_gosem_cut : FuncId := 1
abbrev N_gosem_cut_init : FuncId := 2
abbrev N_law04_FaultWraps : FuncId := 3
abbrev N_law04_FaultWhere : FuncId := 4
abbrev N_law04_FaultNone : FuncId := 5
abbrev N_law04_wrap : FuncId := 6
abbrev N_ref04_Text : FuncId := 7
abbrev N_fault_Code : FuncId := 8
abbrev N_fault_Is : FuncId := 9
abbrev N_errors_Is : FuncId := 10
abbrev N_ref04_Texts : FuncId := 11
abbrev N_fault_Trace : FuncId := 12
abbrev N_ref04_Trace : FuncId := 13
abbrev N_law04_lives : FuncId := 14
abbrev N_fault_Where : FuncId := 15
abbrev N_fault_Wrap : FuncId := 16
abbrev N_errors_New : FuncId := 17
abbrev N_fault_Fault_Error : FuncId := 18
abbrev N_fault_Fault_Unwrap : FuncId := 19
abbrev N_ref04_Num : FuncId := 20
abbrev N_ref04_figures : FuncId := 21
abbrev N_errors_As : FuncId := 22
abbrev N_internal_reflectlite_TypeOf : FuncId := 23
abbrev N_errors_is : FuncId := 24
abbrev N_strconv_Itoa : FuncId := 25
abbrev N_strconv_FormatUint : FuncId := 26
abbrev N_internal_reflectlite_ValueOf : FuncId := 27
abbrev N_internal_reflectlite_Value_Type : FuncId := 28
abbrev N_internal_reflectlite_Value_IsNil : FuncId := 29
abbrev N_errors_as : FuncId := 30
abbrev N_internal_strconv_Itoa : FuncId := 31
abbrev N_internal_strconv_FormatUint : FuncId := 32
abbrev N_internal_reflectlite_Value_Elem : FuncId := 33
abbrev N_internal_reflectlite_Value_Set : FuncId := 34
abbrev N_internal_strconv_FormatInt : FuncId := 35
abbrev N_internal_strconv_small : FuncId := 36
abbrev N_internal_strconv_numDigits : FuncId := 37
abbrev N_internal_strconv_formatBase10 : FuncId := 38
abbrev N_internal_strconv_formatBits : FuncId := 39
abbrev N_internal_strconv_log10Pow2 : FuncId := 40
abbrev N_math_bits_Len64 : FuncId := 41
abbrev N_internal_strconv_bool2_int : FuncId := 42
abbrev N_internal_strconv_isPowerOfTwo : FuncId := 43
abbrev N_math_bits_TrailingZeros : FuncId := 44
abbrev N_math_bits_TrailingZeros32 : FuncId := 45
abbrev N_math_bits_TrailingZeros64 : FuncId := 46
abbrev N_runtime_boundsError_Error : FuncId := 47
abbrev N_runtime_boundsError_RuntimeError : FuncId := 48
abbrev N_runtime_errorString_Error : FuncId := 49
abbrev N_runtime_errorString_RuntimeError : FuncId := 50
abbrev N_runtime_plainError_Error : FuncId := 51
abbrev N_runtime_plainError_RuntimeError : FuncId := 52
abbrev N_runtime_errorAddressString_Error : FuncId := 53
abbrev N_runtime_errorAddressString_RuntimeError : FuncId := 54
abbrev N_runtime_TypeAssertionError_Error : FuncId := 55
abbrev N_runtime_TypeAssertionError_RuntimeError : FuncId := 56
abbrev N_runtime_PanicNilError_Error : FuncId := 57
abbrev N_runtime_PanicNilError_RuntimeError : FuncId := 58
abbrev N_internal_abi_Type_Align : FuncId := 59
abbrev N_internal_abi_Type_Elem : FuncId := 60
abbrev N_internal_abi_Type_Kind : FuncId := 61
abbrev N_internal_runtime_maps_unhashableTypeError_Error : FuncId := 62
abbrev N_internal_runtime_maps_unhashableTypeError_RuntimeError : FuncId := 63
abbrev N_api_Errno_Error : FuncId := 64
abbrev N_errors_errorString_Error : FuncId := 65
abbrev N_internal_reflectlite_flag_mustBeAssignable : FuncId := 66
abbrev N_internal_reflectlite_Value_Kind : FuncId := 67
abbrev N_internal_abi_Kind_String : FuncId := 68
abbrev N_internal_abi_Type_Size : FuncId := 69
abbrev N_internal_reflectlite_rtype_AssignableTo : FuncId := 70
abbrev N_internal_reflectlite_rtype_Comparable : FuncId := 71
abbrev N_internal_reflectlite_rtype_Elem : FuncId := 72
abbrev N_internal_reflectlite_rtype_Implements : FuncId := 73
abbrev N_internal_reflectlite_rtype_Name : FuncId := 74
abbrev N_internal_reflectlite_rtype_PkgPath : FuncId := 75
abbrev N_internal_reflectlite_rtype_String : FuncId := 76
abbrev N_internal_reflectlite_rtype_common : FuncId := 77
abbrev N_internal_reflectlite_rtype_uncommon : FuncId := 78
abbrev N_internal_reflectlite_ValueError_Error : FuncId := 79
abbrev N_internal_abi_UncommonType_ExportedMethods : FuncId := 80
abbrev N_var_s_door_errors_errorType_is_laid_by_its_own_call_of_reflectlite_TypeOf_on_a_nil_pointer_and_Elem_of_it_handle_1 : FuncId := 81
abbrev N_var_s_door_gosem_cut_vars_holds_initialisers_alone_see_the_manifest_s_row_cutvarsword_look_11_test_files_too : FuncId := 82
abbrev N_var_s_door_internal_strconv_uint64pow10_is_laid_by_its_own_initialiser_plain_data_look_11 : FuncId := 83
abbrev N_var_s_door_math_bits_deBruijn32tab_is_laid_by_its_own_initialiser_plain_data_look_11 : FuncId := 84
abbrev N_var_s_door_math_bits_deBruijn64tab_is_laid_by_its_own_initialiser_plain_data_look_11 : FuncId := 85
abbrev N_var_s_door_the_look_of_gosem_cut_vars_went_over_the_folder_that_the_caller_named_as_the_repository_s_root_look_11 : FuncId := 86
abbrev N_gosem_cut_vars : FuncId := 87
abbrev G_size : Nat := 4
theorem E_internal_reflectlite_TypeOf_ok (a0_t : Value) (h : Hp) (K : Value → Hp → Prop) (hk : wpS Tryd.prog (Extern.ReflectliteType.typeOf #[a0_t]) h fun v h => ∃ s : St [.at .raw], v = mkRes [.at .raw] s ∧ K s.1 h) : C_internal_reflectlite_TypeOf a0_t h K := ext_to (e := Extern.ReflectliteType.typeOf) Tryd.func23 rfl rfl (by kernel_rfl) (by kernel_rfl) hk

theorem E_internal_reflectlite_ValueOf_ok (a0_t : Value) (h : Hp) (K : Option Addr → Option Addr → Int → Hp → Prop) (hk : wpS Tryd.prog ((fun args : Array Value => Extern.ReflectliteValue.unpack (args.getD 0 (.tuple #[]))) #[a0_t]) h fun v h => ∃ s : St [.agg [.ptr, .ptr, (.int .u64)]], v = mkRes [.agg [.ptr, .ptr, (.int .u64)]] s ∧ K s.1.1 s.1.2.1 s.1.2.2.1 h) : C_internal_reflectlite_ValueOf a0_t h K := ext_to (e := (fun args : Array Value => Extern.ReflectliteValue.unpack (args.getD 0 (.tuple #[])))) Tryd.func27 rfl rfl (by kernel_rfl) (by kernel_rfl) hk

theorem E_internal_reflectlite_Value_Type_ok (a0_t : Option Addr) (a1_t : Option Addr) (a2_t : Int) (h : Hp) (K : Value → Hp → Prop) (hk : wpS Tryd.prog (Extern.ReflectliteValue.methodAny (Extern.ReflectliteValue.valueError "reflectlite.Value.Type" 0) (fun t _ _ _ => Extern.ReflectliteType.toType t) #[.agg #[.pointer a0_t, .pointer a1_t, .int .u64 a2_t]]) h fun v h => ∃ s : St [.at .raw], v = mkRes [.at .raw] s ∧ K s.1 h) : C_internal_reflectlite_Value_Type a0_t a1_t a2_t h K := ext_to (e := Extern.ReflectliteValue.methodAny (Extern.ReflectliteValue.valueError "reflectlite.Value.Type" 0) (fun t _ _ _ => Extern.ReflectliteType.toType t)) Tryd.func28 rfl rfl (by kernel_rfl) (by kernel_rfl) hk

theorem E_internal_reflectlite_Value_IsNil_ok (a0_t : Option Addr) (a1_t : Option Addr) (a2_t : Int) (h : Hp) (K : Bool → Hp → Prop) (hk : wpS Tryd.prog (Extern.ReflectliteValue.method (Extern.ReflectliteValue.valueError "reflectlite.Value.IsNil" 0) Extern.ReflectliteValue.isNil #[.agg #[.pointer a0_t, .pointer a1_t, .int .u64 a2_t]]) h fun v h => ∃ s : St [.at .bool], v = mkRes [.at .bool] s ∧ K s.1 h) : C_internal_reflectlite_Value_IsNil a0_t a1_t a2_t h K := ext_to (e := Extern.ReflectliteValue.method (Extern.ReflectliteValue.valueError "reflectlite.Value.IsNil" 0) Extern.ReflectliteValue.isNil) Tryd.func29 rfl rfl (by kernel_rfl) (by kernel_rfl) hk

theorem E_internal_reflectlite_Value_Elem_ok (a0_t : Option Addr) (a1_t : Option Addr) (a2_t : Int) (h : Hp) (K : Option Addr → Option Addr → Int → Hp → Prop) (hk : wpS Tryd.prog (Extern.ReflectliteValue.method (Extern.ReflectliteValue.valueError "reflectlite.Value.Elem" 0) Extern.ReflectliteValue.elem #[.agg #[.pointer a0_t, .pointer a1_t, .int .u64 a2_t]]) h fun v h => ∃ s : St [.agg [.ptr, .ptr, (.int .u64)]], v = mkRes [.agg [.ptr, .ptr, (.int .u64)]] s ∧ K s.1.1 s.1.2.1 s.1.2.2.1 h) : C_internal_reflectlite_Value_Elem a0_t a1_t a2_t h K := ext_to (e := Extern.ReflectliteValue.method (Extern.ReflectliteValue.valueError "reflectlite.Value.Elem" 0) Extern.ReflectliteValue.elem) Tryd.func33 rfl rfl (by kernel_rfl) (by kernel_rfl) hk

theorem E_internal_reflectlite_Value_Set_ok (a0_t : Option Addr) (a1_t : Option Addr) (a2_t : Int) (a3_t : Option Addr) (a4_t : Option Addr) (a5_t : Int) (h : Hp) (K : Hp → Prop) (hk : wpS Tryd.prog (Extern.ReflectliteValue.set #[.agg #[.pointer a0_t, .pointer a1_t, .int .u64 a2_t], .agg #[.pointer a3_t, .pointer a4_t, .int .u64 a5_t]]) h fun v h => ∃ s : St [], v = mkRes [] s ∧ K h) : C_internal_reflectlite_Value_Set a0_t a1_t a2_t a3_t a4_t a5_t h K := ext_to (e := Extern.ReflectliteValue.set) Tryd.func34 rfl rfl (by kernel_rfl) (by kernel_rfl) hk

theorem E_internal_abi_Type_Kind_ok (a0_t : Option Addr) (h : Hp) (K : Int → Hp → Prop) (hk : wpS Tryd.prog ((Extern.ReflectliteType.abiMethod fun t => do pure (.int .u8 (← Extern.Rtype.kind t))) #[.pointer a0_t]) h fun v h => ∃ s : St [.at (.int .u8)], v = mkRes [.at (.int .u8)] s ∧ K s.1 h) : C_internal_abi_Type_Kind a0_t h K := ext_to (e := (Extern.ReflectliteType.abiMethod fun t => do pure (.int .u8 (← Extern.Rtype.kind t)))) Tryd.func61 rfl rfl (by kernel_rfl) (by kernel_rfl) hk

theorem E_internal_reflectlite_rtype_AssignableTo_ok (a0_t : Option Addr) (a1_t : Value) (h : Hp) (K : Bool → Hp → Prop) (hk : wpS Tryd.prog (Extern.ReflectliteType.relation "AssignableTo" Extern.ReflectliteType.assignableTo #[.agg #[.pointer a0_t], a1_t]) h fun v h => ∃ s : St [.at .bool], v = mkRes [.at .bool] s ∧ K s.1 h) : C_internal_reflectlite_rtype_AssignableTo a0_t a1_t h K := ext_to (e := Extern.ReflectliteType.relation "AssignableTo" Extern.ReflectliteType.assignableTo) Tryd.func70 rfl rfl (by kernel_rfl) (by kernel_rfl) hk

theorem E_internal_reflectlite_rtype_Comparable_ok (a0_t : Option Addr) (h : Hp) (K : Bool → Hp → Prop) (hk : wpS Tryd.prog ((Extern.ReflectliteType.method fun t => do Extern.Rtype.noPackHeld "Comparable" t; pure (.bool (← typeInfo t).comparable)) #[.agg #[.pointer a0_t]]) h fun v h => ∃ s : St [.at .bool], v = mkRes [.at .bool] s ∧ K s.1 h) : C_internal_reflectlite_rtype_Comparable a0_t h K := ext_to (e := (Extern.ReflectliteType.method fun t => do Extern.Rtype.noPackHeld "Comparable" t; pure (.bool (← typeInfo t).comparable))) Tryd.func71 rfl rfl (by kernel_rfl) (by kernel_rfl) hk

theorem E_internal_reflectlite_rtype_Elem_ok (a0_t : Option Addr) (h : Hp) (K : Value → Hp → Prop) (hk : wpS Tryd.prog (Extern.ReflectliteType.method Extern.ReflectliteType.elem #[.agg #[.pointer a0_t]]) h fun v h => ∃ s : St [.at .raw], v = mkRes [.at .raw] s ∧ K s.1 h) : C_internal_reflectlite_rtype_Elem a0_t h K := ext_to (e := Extern.ReflectliteType.method Extern.ReflectliteType.elem) Tryd.func72 rfl rfl (by kernel_rfl) (by kernel_rfl) hk

theorem E_internal_reflectlite_rtype_Implements_ok (a0_t : Option Addr) (a1_t : Value) (h : Hp) (K : Bool → Hp → Prop) (hk : wpS Tryd.prog (Extern.ReflectliteType.relation "Implements" Extern.ReflectliteType.implements_ #[.agg #[.pointer a0_t], a1_t]) h fun v h => ∃ s : St [.at .bool], v = mkRes [.at .bool] s ∧ K s.1 h) : C_internal_reflectlite_rtype_Implements a0_t a1_t h K := ext_to (e := Extern.ReflectliteType.relation "Implements" Extern.ReflectliteType.implements_) Tryd.func73 rfl rfl (by kernel_rfl) (by kernel_rfl) hk

def F_gosem_cut_init  (h : Hp) (K : Hp → Prop) : Prop :=
C_gosem_cut  h fun  (h1 : Hp) =>
K h1

theorem F_gosem_cut_init_ok  (h : Hp) (K : Hp → Prop) (hF : F_gosem_cut_init  h K) : C_gosem_cut_init  h K := by
  have e : bodyVC Tryd.prog Tryd.f2 .no (Option.getD Tryd.f2.body .skip) [] h [] (fun s h => K h) = F_gosem_cut_init  h K := by kernel_rfl
  exact fun_sound mixed Tryd.func2 rfl (e.mpr hF)

def J1_law04_FaultWraps (a0_l : Sl) (a1_code : Int) (K : Bool → Hp → Prop) (t1 : Value) (sJ1 : Unit) (hJ1 : Hp) : Prop :=
C_errors_Is t1 (.iface 23 (.int .i64 a1_code)) hJ1 fun (t3 : Bool) (h4 : Hp) =>
cnd t3 (
C_fault_Trace t1 h4 fun (t5 : Sl) (h6 : Hp) =>
C_ref04_Trace a0_l h6 fun (t7 : Sl) (h8 : Hp) =>
C_ref04_Texts t5 t7 h8 fun (t9 : Bool) (h10 : Hp) =>
cnd t9 (
C_law04_lives  h10 fun (t11 : Bool) (h12 : Hp) =>
K t11 h12) (
K false h10)) (
K false h4)
def F_law04_FaultWraps (a0_l : Sl) (a1_code : Int) (a2_other : Int) (h : Hp) (K : Bool → Hp → Prop) : Prop :=
C_law04_wrap a0_l a1_code h fun (t1 : Value) (h2 : Hp) =>
Jn (J1_law04_FaultWraps a0_l a1_code K t1) fun (J1 : Unit → Hp → Prop) =>
ifcNil t1 fun (t13 : Bool) =>
cnd t13 (
K false h2) (
invV Tryd.prog (t1) "Error" [] [.at .str] h2 fun (s14 : ByteArray × Unit) (h15 : Hp) =>
C_ref04_Text a0_l a1_code h15 fun (t16 : ByteArray) (h17 : Hp) =>
cnd (!strEq s14.1 t16) (
K false h17) (
C_fault_Code t1 h17 fun (t18 : Int) (h19 : Hp) =>
cnd (t18 != a1_code) (
K false h19) (
C_fault_Is t1 a1_code h19 fun (t20 : Bool) (h21 : Hp) =>
cnd (!t20) (
K false h21) (
C_fault_Is t1 a2_other h21 fun (t22 : Bool) (h23 : Hp) =>
cnd (!(t22 == (a1_code == a2_other))) (
K false h23) (
J1 (()) h23)))))

theorem F_law04_FaultWraps_ok (a0_l : Sl) (a1_code : Int) (a2_other : Int) (h : Hp) (K : Bool → Hp → Prop) (hF : F_law04_FaultWraps a0_l a1_code a2_other h K) : C_law04_FaultWraps a0_l a1_code a2_other h K := by
  have e : bodyVC Tryd.prog Tryd.f3 (.seq .no (.seq .no (.seq .no (.join [] (.seq .no (.cond (.seq .no .no) .no)) (.seq .no .no))))) (Option.getD Tryd.f3.body .skip) [.slice a0_l.a a0_l.len a0_l.cap, .int .i64 a1_code, .int .i64 a2_other] h [.at .bool] (fun s h => K s.1 h) = F_law04_FaultWraps a0_l a1_code a2_other h K := by kernel_rfl
  exact fun_sound mixed Tryd.func3 rfl (e.mpr hF)

def J1_law04_FaultWhere (a1_code : Int) (K : Bool → Hp → Prop) (p10 : Addr) (sJ1 : Unit) (hJ1 : Hp) : Prop :=
ldA .raw hJ1 (Addr.add p10 3) fun (t32 : Value) =>
C_fault_Code t32 hJ1 fun (t33 : Int) (h34 : Hp) =>
cnd (t33 == a1_code) (
C_law04_lives  h34 fun (t35 : Bool) (h36 : Hp) =>
K t35 h36) (
K false h34)
def F_law04_FaultWhere (a0_l : Sl) (a1_code : Int) (h : Hp) (K : Bool → Hp → Prop) : Prop :=
C_law04_wrap a0_l a1_code h fun (t1 : Value) (h2 : Hp) =>
C_fault_Where t1 h2 fun (t3 : ByteArray) (t4 : Int) (t5 : Int) (t6 : Value) (t7 : Bool) (h8 : Hp) =>
Let (Array.push h8 (Obj.cells #[.string (ByteArray.mk #[]), .int .i64 0, .int .u64 0, .nilIface] 40)) fun (h9 : Hp) =>
Let (Addr.mk (Array.size h8) 0 none) fun (p10 : Addr) =>
stC h9 p10 (
Let (hset h9 p10 (.string t3)) fun (h11 : Hp) =>
stC h11 (Addr.add p10 1) (
Let (hset h11 (Addr.add p10 1) (.int .i64 t4)) fun (h12 : Hp) =>
stC h12 (Addr.add p10 2) (
Let (hset h12 (Addr.add p10 2) (.int .u64 t5)) fun (h13 : Hp) =>
stO h13 (Addr.add p10 3) (t6) (
Let (hset h13 (Addr.add p10 3) (t6)) fun (h14 : Hp) =>
cnd ((a0_l.len : Int) == 0) (
cnd (!t7) (
ldA .str h14 p10 fun (t15 : ByteArray) =>
cnd (strEq t15 (ByteArray.mk #[])) (
ldA (.int .i64) h14 (Addr.add p10 1) fun (t16 : Int) =>
cnd (t16 == 0) (
ldA (.int .u64) h14 (Addr.add p10 2) fun (t17 : Int) =>
cnd (t17 == 0) (
ldA .raw h14 (Addr.add p10 3) fun (t18 : Value) =>
ifcNil t18 fun (t19 : Bool) =>
cnd t19 (
C_law04_lives  h14 fun (t20 : Bool) (h21 : Hp) =>
K t20 h21) (
K false h14)) (
K false h14)) (
K false h14)) (
K false h14)) (
K false h14)) (
Let (IntKind.wrap .i64 ((a0_l.len : Int) - 1) : Int) fun (t22 : Int) =>
idxS a0_l.a a0_l.len t22 3 fun (p23 : Addr) =>
ldA .str h14 p23 fun (t24 : ByteArray) =>
ldA (.int .i64) h14 (Addr.add p23 1) fun (t25 : Int) =>
ldA (.int .u64) h14 (Addr.add p23 2) fun (t26 : Int) =>
Let (Array.push h14 (Obj.cells #[.string (ByteArray.mk #[]), .int .i64 0, .int .u64 0] 44)) fun (h27 : Hp) =>
Let (Addr.mk (Array.size h14) 0 none) fun (p28 : Addr) =>
stC h27 p28 (
Let (hset h27 p28 (.string t24)) fun (h29 : Hp) =>
stC h29 (Addr.add p28 1) (
Let (hset h29 (Addr.add p28 1) (.int .i64 t25)) fun (h30 : Hp) =>
stC h30 (Addr.add p28 2) (
Let (hset h30 (Addr.add p28 2) (.int .u64 t26)) fun (h31 : Hp) =>
Jn (J1_law04_FaultWhere a1_code K p10) fun (J1 : Unit → Hp → Prop) =>
cnd (!t7) (
K false h31) (
ldA .str h31 p10 fun (t37 : ByteArray) =>
ldA .str h31 p28 fun (t38 : ByteArray) =>
cnd (!strEq t37 t38) (
K false h31) (
ldA (.int .i64) h31 (Addr.add p10 1) fun (t39 : Int) =>
ldA (.int .i64) h31 (Addr.add p28 1) fun (t40 : Int) =>
cnd (t39 != t40) (
K false h31) (
ldA (.int .u64) h31 (Addr.add p10 2) fun (t41 : Int) =>
ldA (.int .u64) h31 (Addr.add p28 2) fun (t42 : Int) =>
cnd (t41 != t42) (
K false h31) (
ldA .raw h31 (Addr.add p10 3) fun (t43 : Value) =>
ifcNil t43 fun (t44 : Bool) =>
cnd t44 (
K false h31) (
ldA .raw h31 (Addr.add p10 3) fun (t45 : Value) =>
invV Tryd.prog (t45) "Error" [] [.at .str] h31 fun (s46 : ByteArray × Unit) (h47 : Hp) =>
Let (IntKind.wrap .i64 ((a0_l.len : Int) - 1) : Int) fun (t48 : Int) =>
slcS a0_l.a a0_l.len a0_l.cap none (some t48) 3 fun (t49 : Option Addr) (l50 c51 : Nat) =>
C_ref04_Text (Sl.mk t49 l50 c51) a1_code h47 fun (t52 : ByteArray) (h53 : Hp) =>
cnd (!strEq s46.1 t52) (
K false h53) (
J1 (()) h53))))))))))))))

theorem F_law04_FaultWhere_ok (a0_l : Sl) (a1_code : Int) (h : Hp) (K : Bool → Hp → Prop) (hF : F_law04_FaultWhere a0_l a1_code h K) : C_law04_FaultWhere a0_l a1_code h K := by
  have e : bodyVC Tryd.prog Tryd.f4 (.seq .no (.seq .no (.seq .no (.seq (.seq .no (.cond (.seq .no .no) .no)) (.seq .no (.join [] (.seq .no (.cond (.seq .no .no) .no)) (.seq .no .no))))))) (Option.getD Tryd.f4.body .skip) [.slice a0_l.a a0_l.len a0_l.cap, .int .i64 a1_code] h [.at .bool] (fun s h => K s.1 h) = F_law04_FaultWhere a0_l a1_code h K := by kernel_rfl
  exact fun_sound mixed Tryd.func4 rfl (e.mpr hF)

def J2_law04_FaultNone (K : Bool → Hp → Prop) (t13 : Value) (p19 : Addr) (sJ2 : Unit) (hJ2 : Hp) : Prop :=
C_fault_Code t13 hJ2 fun (t41 : Int) (h42 : Hp) =>
cnd (t41 == 2) (
C_fault_Code (.iface 46 (.pointer (some p19))) h42 fun (t43 : Int) (h44 : Hp) =>
cnd (t43 == 2) (
C_fault_Is .nilIface 0 h44 fun (t45 : Bool) (h46 : Hp) =>
cnd (!t45) (
C_fault_Is t13 2 h46 fun (t47 : Bool) (h48 : Hp) =>
cnd (!t47) (
C_law04_lives  h48 fun (t49 : Bool) (h50 : Hp) =>
K t49 h50) (
K false h48)) (
K false h46)) (
K false h44)) (
K false h42)
def J1_law04_FaultNone (K : Bool → Hp → Prop) (p2 : Addr) (t13 : Value) (p19 : Addr) (sJ1 : Unit) (hJ1 : Hp) : Prop :=
ldA .str hJ1 p2 fun (t32 : ByteArray) =>
catS t32 (ByteArray.mk #[32, 97, 116, 32]) fun (t33 : ByteArray) =>
ldA (.int .i64) hJ1 (Addr.add p2 1) fun (t34 : Int) =>
C_ref04_Num t34 hJ1 fun (t35 : ByteArray) (h36 : Hp) =>
Ext hJ1 h36 ∧ (
catS t33 t35 fun (t37 : ByteArray) =>
catS t37 (ByteArray.mk #[32, 111, 102, 32]) fun (t38 : ByteArray) =>
C_fault_Fault_Error (some p19) h36 fun (t39 : ByteArray) (h40 : Hp) =>
Jn (J2_law04_FaultNone K t13 p19) fun (J2 : Unit → Hp → Prop) =>
Let (IntKind.wrap .i64 ((ByteArray.size t38 : Int) + 9) : Int) fun (t51 : Int) =>
cnd (decide ((ByteArray.size t39 : Int) < t51)) (
K false h40) (
slcStr t39 none (some (ByteArray.size t38 : Int)) fun (t52 : ByteArray) =>
cnd (!strEq t52 t38) (
K false h40) (
Let (IntKind.wrap .i64 ((ByteArray.size t39 : Int) - 9) : Int) fun (t53 : Int) =>
slcStr t39 (some t53) none fun (t54 : ByteArray) =>
cnd (!strEq t54 (ByteArray.mk #[58, 32, 110, 111, 116, 104, 105, 110, 103])) (
K false h40) (
J2 (()) h40))))
def F_law04_FaultNone (a0_s : ByteArray) (a1_s : Int) (a2_s : Int) (a3_text : ByteArray) (h : Hp) (K : Bool → Hp → Prop) : Prop :=
Let (Array.push h (Obj.cells #[.string a0_s, .int .i64 a1_s, .int .u64 a2_s] 44)) fun (h1 : Hp) =>
Let (Addr.mk (Array.size h) 0 none) fun (p2 : Addr) =>
ldA .str h1 p2 fun (t3 : ByteArray) =>
ldA (.int .i64) h1 (Addr.add p2 1) fun (t4 : Int) =>
ldA (.int .u64) h1 (Addr.add p2 2) fun (t5 : Int) =>
C_fault_Wrap t3 t4 t5 .nilIface h1 fun (t6 : Value) (h7 : Hp) =>
ldA .str h7 p2 fun (t8 : ByteArray) =>
ldA (.int .i64) h7 (Addr.add p2 1) fun (t9 : Int) =>
ldA (.int .u64) h7 (Addr.add p2 2) fun (t10 : Int) =>
C_errors_New a3_text h7 fun (t11 : Value) (h12 : Hp) =>
Ext h7 h12 ∧ (
C_fault_Wrap t8 t9 t10 t11 h12 fun (t13 : Value) (h14 : Hp) =>
ldA .str h14 p2 fun (t15 : ByteArray) =>
ldA (.int .i64) h14 (Addr.add p2 1) fun (t16 : Int) =>
ldA (.int .u64) h14 (Addr.add p2 2) fun (t17 : Int) =>
Let (Array.push h14 (Obj.cells #[.string t15, .int .i64 t16, .int .u64 t17, .nilIface] 40)) fun (h18 : Hp) =>
Let (Addr.mk (Array.size h14) 0 none) fun (p19 : Addr) =>
C_fault_Where .nilIface h18 fun (t20 : ByteArray) (t21 : Int) (t22 : Int) (t23 : Value) (t24 : Bool) (h25 : Hp) =>
Let (Array.push h25 (Obj.cells #[.string (ByteArray.mk #[]), .int .i64 0, .int .u64 0, .nilIface] 40)) fun (h26 : Hp) =>
Let (Addr.mk (Array.size h25) 0 none) fun (p27 : Addr) =>
stC h26 p27 (
Let (hset h26 p27 (.string t20)) fun (h28 : Hp) =>
stC h28 (Addr.add p27 1) (
Let (hset h28 (Addr.add p27 1) (.int .i64 t21)) fun (h29 : Hp) =>
stC h29 (Addr.add p27 2) (
Let (hset h29 (Addr.add p27 2) (.int .u64 t22)) fun (h30 : Hp) =>
stO h30 (Addr.add p27 3) (t23) (
Let (hset h30 (Addr.add p27 3) (t23)) fun (h31 : Hp) =>
Jn (J1_law04_FaultNone K p2 t13 p19) fun (J1 : Unit → Hp → Prop) =>
ifcNil t6 fun (t55 : Bool) =>
cnd (!t55) (
K false h31) (
ifcNil t13 fun (t56 : Bool) =>
cnd t56 (
K false h31) (
C_fault_Fault_Error none h31 fun (t57 : ByteArray) (h58 : Hp) =>
cnd (!strEq t57 (ByteArray.mk #[])) (
K false h58) (
C_fault_Fault_Unwrap none h58 fun (t59 : Value) (h60 : Hp) =>
ifcNil t59 fun (t61 : Bool) =>
cnd (!t61) (
K false h60) (
cnd t24 (
K false h60) (
C_fault_Trace .nilIface h60 fun (t62 : Sl) (h63 : Hp) =>
cnd (decide ((t62.len : Int) > 0)) (
K false h63) (
J1 (()) h63)))))))))))

theorem F_law04_FaultNone_ok (a0_s : ByteArray) (a1_s : Int) (a2_s : Int) (a3_text : ByteArray) (h : Hp) (K : Bool → Hp → Prop) (hF : F_law04_FaultNone a0_s a1_s a2_s a3_text h K) : C_law04_FaultNone a0_s a1_s a2_s a3_text h K := by
  have e : bodyVC Tryd.prog Tryd.f5 (.seq .no (.seq .no (.seq .no (.seq .no (.seq .no (.seq .no (.join [] (.seq .no (.cond (.seq .no .no) .no)) (.seq .no (.seq .no (.seq .no (.join [] (.seq .no (.cond (.seq .no .no) .no)) (.seq .no .no)))))))))))) (Option.getD Tryd.f5.body .skip) [.agg #[.string a0_s, .int .i64 a1_s, .int .u64 a2_s], .string a3_text] h [.at .bool] (fun s h => K s.1 h) = F_law04_FaultNone a0_s a1_s a2_s a3_text h K := by kernel_rfl
  exact fun_sound mixed Tryd.func5 rfl (e.mpr hF)

def L1_law04_wrap (a0_l : Sl) (K : Value → Hp → Prop) (sL1 : (Value × Int × Unit) × Hp) (R1 : (Value × Int × Unit) × Hp → Prop) : Prop :=
cnd (decide (sL1.1.2.1 < (a0_l.len : Int))) (
idxS a0_l.a a0_l.len sL1.1.2.1 3 fun (p1 : Addr) =>
ldA .str sL1.2 p1 fun (t2 : ByteArray) =>
idxS a0_l.a a0_l.len sL1.1.2.1 3 fun (p3 : Addr) =>
ldA (.int .i64) sL1.2 (Addr.add p3 1) fun (t4 : Int) =>
idxS a0_l.a a0_l.len sL1.1.2.1 3 fun (p5 : Addr) =>
ldA (.int .u64) sL1.2 (Addr.add p5 2) fun (t6 : Int) =>
C_fault_Wrap t2 t4 t6 sL1.1.1 sL1.2 fun (t7 : Value) (h8 : Hp) =>
Let (IntKind.wrap .i64 (sL1.1.2.1 + 1) : Int) fun (t9 : Int) =>
R1 ((t7, t9, ()), h8)) (
K sL1.1.1 sL1.2)
def F_law04_wrap (a0_l : Sl) (a1_e : Int) (h : Hp) (K : Value → Hp → Prop) : Prop :=
∃ n, Lp (L1_law04_wrap a0_l K) n ((.iface 23 (.int .i64 a1_e), 0, ()), h)

theorem F_law04_wrap_ok (a0_l : Sl) (a1_e : Int) (h : Hp) (K : Value → Hp → Prop) (hF : F_law04_wrap a0_l a1_e h K) : C_law04_wrap a0_l a1_e h K := by
  have e : bodyVC Tryd.prog Tryd.f6 (.seq .no (.seq .no (.seq .no (.seq (.seq .no (.block (.loop [(5, .at .raw), (6, .at (.int .i64))] (.seq (.seq .no (.cond .no .no)) (.seq (.block .no) .no))))) (.seq .no .no))))) (Option.getD Tryd.f6.body .skip) [.slice a0_l.a a0_l.len a0_l.cap, .int .i64 a1_e] h [.at .raw] (fun s h => K s.1 h) = F_law04_wrap a0_l a1_e h K := by kernel_rfl
  exact fun_sound mixed Tryd.func6 rfl (e.mpr hF)

def L1_ref04_Text (a0_l : Sl) (K : ByteArray → Hp → Prop) (sL1 : (ByteArray × Int × Unit) × Hp) (R1 : (ByteArray × Int × Unit) × Hp → Prop) : Prop :=
cnd (decide (sL1.1.2.1 < (a0_l.len : Int))) (
idxS a0_l.a a0_l.len sL1.1.2.1 3 fun (p4 : Addr) =>
ldA .str sL1.2 p4 fun (t5 : ByteArray) =>
catS t5 (ByteArray.mk #[32, 97, 116, 32]) fun (t6 : ByteArray) =>
idxS a0_l.a a0_l.len sL1.1.2.1 3 fun (p7 : Addr) =>
ldA (.int .i64) sL1.2 (Addr.add p7 1) fun (t8 : Int) =>
C_ref04_Num t8 sL1.2 fun (t9 : ByteArray) (h10 : Hp) =>
Ext sL1.2 h10 ∧ (
catS t6 t9 fun (t11 : ByteArray) =>
catS t11 (ByteArray.mk #[32, 111, 102, 32]) fun (t12 : ByteArray) =>
idxS a0_l.a a0_l.len sL1.1.2.1 3 fun (p13 : Addr) =>
ldA (.int .u64) sL1.2 (Addr.add p13 2) fun (t14 : Int) =>
C_ref04_figures t14 h10 fun (t15 : ByteArray) (h16 : Hp) =>
Ext h10 h16 ∧ (
catS t12 t15 fun (t17 : ByteArray) =>
catS t17 (ByteArray.mk #[58, 32]) fun (t18 : ByteArray) =>
catS t18 sL1.1.1 fun (t19 : ByteArray) =>
Let (IntKind.wrap .i64 (sL1.1.2.1 + 1) : Int) fun (t20 : Int) =>
R1 ((t19, t20, ()), h16)))) (
K sL1.1.1 sL1.2)
def F_ref04_Text (a0_l : Sl) (a1_code : Int) (h : Hp) (K : ByteArray → Hp → Prop) : Prop :=
C_ref04_Num a1_code h fun (t1 : ByteArray) (h2 : Hp) =>
catS (ByteArray.mk #[101, 114, 114, 110, 111, 32]) t1 fun (t3 : ByteArray) =>
∃ n, Lp (L1_ref04_Text a0_l K) n ((t3, 0, ()), h2)

theorem F_ref04_Text_ok (a0_l : Sl) (a1_code : Int) (h : Hp) (K : ByteArray → Hp → Prop) (hF : F_ref04_Text a0_l a1_code h K) : C_ref04_Text a0_l a1_code h K := by
  have e : bodyVC Tryd.prog Tryd.f7 (.seq .no (.seq .no (.seq (.seq .no (.block (.loop [(5, .at .str), (6, .at (.int .i64))] (.seq (.seq .no (.cond .no .no)) (.seq (.block .no) .no))))) (.seq .no .no)))) (Option.getD Tryd.f7.body .skip) [.slice a0_l.a a0_l.len a0_l.cap, .int .i64 a1_code] h [.at .str] (fun s h => K s.1 h) = F_ref04_Text a0_l a1_code h K := by kernel_rfl
  exact fun_sound mixed Tryd.func7 rfl (e.mpr hF)

def F_fault_Code (a0_err : Value) (h : Hp) (K : Int → Hp → Prop) : Prop :=
Let (Array.push h (Obj.cells #[.int .i64 0] 23)) fun (h1 : Hp) =>
Let (Addr.mk (Array.size h) 0 none) fun (p2 : Addr) =>
ifcNil a0_err fun (t3 : Bool) =>
cnd t3 (
K 0 h1) (
C_errors_As a0_err (.iface 54 (.pointer (some p2))) h1 fun (t4 : Bool) (h5 : Hp) =>
cnd t4 (
ldA (.int .i64) h5 p2 fun (t6 : Int) =>
K t6 h5) (
K 2 h5))

theorem F_fault_Code_ok (a0_err : Value) (h : Hp) (K : Int → Hp → Prop) (hF : F_fault_Code a0_err h K) : C_fault_Code a0_err h K := by
  have e : bodyVC Tryd.prog Tryd.f8 (.seq .no (.seq .no (.seq (.block (.seq .no (.cond (.seq .no .no) (.seq .no (.cond (.seq .no .no) .no))))) (.seq .no .no)))) (Option.getD Tryd.f8.body .skip) [a0_err] h [.at (.int .i64)] (fun s h => K s.1 h) = F_fault_Code a0_err h K := by kernel_rfl
  exact fun_sound mixed Tryd.func8 rfl (e.mpr hF)

def F_fault_Is (a0_err : Value) (a1_e : Int) (h : Hp) (K : Bool → Hp → Prop) : Prop :=
ifcNil a0_err fun (t1 : Bool) =>
cnd (!t1) (
C_errors_Is a0_err (.iface 23 (.int .i64 a1_e)) h fun (t2 : Bool) (h3 : Hp) =>
K t2 h3) (
K false h)

theorem F_fault_Is_ok (a0_err : Value) (a1_e : Int) (h : Hp) (K : Bool → Hp → Prop) (hF : F_fault_Is a0_err a1_e h K) : C_fault_Is a0_err a1_e h K := by
  have e : bodyVC Tryd.prog Tryd.f9 (.seq .no (.seq .no .no)) (Option.getD Tryd.f9.body .skip) [a0_err, .int .i64 a1_e] h [.at .bool] (fun s h => K s.1 h) = F_fault_Is a0_err a1_e h K := by kernel_rfl
  exact fun_sound mixed Tryd.func9 rfl (e.mpr hF)

def J1_errors_Is (a0_err : Value) (a1_target : Value) (K : Bool → Hp → Prop) (sJ1 : Bool × Unit) (hJ1 : Hp) : Prop :=
cnd sJ1.1 (
ifcEq Tryd.prog 25 (a0_err) (a1_target) fun (t1 : Bool) =>
K t1 hJ1) (
C_internal_reflectlite_TypeOf a1_target hJ1 fun (t2 : Value) (h3 : Hp) =>
invV Tryd.prog (t2) "Comparable" [] [.at .bool] h3 fun (s4 : Bool × Unit) (h5 : Hp) =>
C_errors_is a0_err a1_target s4.1 h5 fun (t6 : Bool) (h7 : Hp) =>
K t6 h7)
def F_errors_Is (a0_err : Value) (a1_target : Value) (h : Hp) (K : Bool → Hp → Prop) : Prop :=
Jn (J1_errors_Is a0_err a1_target K) fun (J1 : Bool × Unit → Hp → Prop) =>
ifcNil a0_err fun (t8 : Bool) =>
cnd t8 (
J1 (true, ()) h) (
ifcNil a1_target fun (t9 : Bool) =>
J1 (t9, ()) h)

theorem F_errors_Is_ok (a0_err : Value) (a1_target : Value) (h : Hp) (K : Bool → Hp → Prop) (hF : F_errors_Is a0_err a1_target h K) : C_errors_Is a0_err a1_target h K := by
  have e : bodyVC Tryd.prog Tryd.f10 (.seq .no (.seq (.join [(11, .at .bool)] .no (.cond (.seq .no .no) .no)) (.seq .no (.seq .no .no)))) (Option.getD Tryd.f10.body .skip) [a0_err, a1_target] h [.at .bool] (fun s h => K s.1 h) = F_errors_Is a0_err a1_target h K := by kernel_rfl
  exact fun_sound mixed Tryd.func10 rfl (e.mpr hF)

def L1_ref04_Texts (a0_a : Sl) (a1_b : Sl) (K : Bool → Hp → Prop) (sL1 : (Int × Unit) × Hp) (R1 : (Int × Unit) × Hp → Prop) : Prop :=
cnd (decide (sL1.1.1 < (a0_a.len : Int))) (
idxS a0_a.a a0_a.len sL1.1.1 1 fun (p1 : Addr) =>
ldA .str sL1.2 p1 fun (t2 : ByteArray) =>
idxS a1_b.a a1_b.len sL1.1.1 1 fun (p3 : Addr) =>
ldA .str sL1.2 p3 fun (t4 : ByteArray) =>
cnd (!strEq t2 t4) (
K false sL1.2) (
Let (IntKind.wrap .i64 (sL1.1.1 + 1) : Int) fun (t5 : Int) =>
R1 ((t5, ()), sL1.2))) (
K true sL1.2)
def F_ref04_Texts (a0_a : Sl) (a1_b : Sl) (h : Hp) (K : Bool → Hp → Prop) : Prop :=
cnd ((a0_a.len : Int) != (a1_b.len : Int)) (
K false h) (
∃ n, Lp (L1_ref04_Texts a0_a a1_b K) n ((0, ()), h))

theorem F_ref04_Texts_ok (a0_a : Sl) (a1_b : Sl) (h : Hp) (K : Bool → Hp → Prop) (hF : F_ref04_Texts a0_a a1_b h K) : C_ref04_Texts a0_a a1_b h K := by
  have e : bodyVC Tryd.prog Tryd.f11 (.seq .no (.seq (.seq .no (.cond (.seq .no .no) .no)) (.seq (.seq .no (.block (.loop [(5, .at (.int .i64))] (.seq (.seq .no (.cond .no .no)) (.seq (.block (.seq .no (.cond (.seq .no .no) .no))) .no))))) (.seq .no .no)))) (Option.getD Tryd.f11.body .skip) [.slice a0_a.a a0_a.len a0_a.cap, .slice a1_b.a a1_b.len a1_b.cap] h [.at .bool] (fun s h => K s.1 h) = F_ref04_Texts a0_a a1_b h K := by kernel_rfl
  exact fun_sound mixed Tryd.func11 rfl (e.mpr hF)

def L1_fault_Trace (K : Sl → Hp → Prop) (sL1 : (Value × Sl × Unit) × Hp) (R1 : (Value × Sl × Unit) × Hp → Prop) : Prop :=
ifcNil sL1.1.1 fun (t1 : Bool) =>
cnd (!t1) (
C_fault_Where sL1.1.1 sL1.2 fun (t2 : ByteArray) (t3 : Int) (t4 : Int) (t5 : Value) (t6 : Bool) (h7 : Hp) =>
Let (Array.push h7 (Obj.cells #[.string (ByteArray.mk #[]), .int .i64 0, .int .u64 0, .nilIface] 40)) fun (h8 : Hp) =>
Let (Addr.mk (Array.size h7) 0 none) fun (p9 : Addr) =>
stC h8 p9 (
Let (hset h8 p9 (.string t2)) fun (h10 : Hp) =>
stC h10 (Addr.add p9 1) (
Let (hset h10 (Addr.add p9 1) (.int .i64 t3)) fun (h11 : Hp) =>
stC h11 (Addr.add p9 2) (
Let (hset h11 (Addr.add p9 2) (.int .u64 t4)) fun (h12 : Hp) =>
stO h12 (Addr.add p9 3) (t5) (
Let (hset h12 (Addr.add p9 3) (t5)) fun (h13 : Hp) =>
cnd (!t6) (
K (Sl.mk sL1.1.2.1.a sL1.1.2.1.len sL1.1.2.1.cap) h13) (
ldA .str h13 p9 fun (t14 : ByteArray) =>
Let (Array.push h13 (Obj.cells #[.string t14] 9)) fun (h15 : Hp) =>
Let (Addr.mk (Array.size h13) 0 none) fun (p16 : Addr) =>
appS 9 1 16 [.string (ByteArray.mk #[])] sL1.1.2.1.a sL1.1.2.1.len sL1.1.2.1.cap (.slice (some p16) 1 1) h15 fun (t17 : Sl) (h18 : Hp) =>
ldA .raw h18 (Addr.add p9 3) fun (t19 : Value) =>
R1 ((t19, t17, ()), h18))))))) (
K (Sl.mk sL1.1.2.1.a sL1.1.2.1.len sL1.1.2.1.cap) sL1.2)
def F_fault_Trace (a0_err : Value) (h : Hp) (K : Sl → Hp → Prop) : Prop :=
∃ n, Lp (L1_fault_Trace K) n ((a0_err, (Sl.mk none 0 0), ()), h)

theorem F_fault_Trace_ok (a0_err : Value) (h : Hp) (K : Sl → Hp → Prop) (hF : F_fault_Trace a0_err h K) : C_fault_Trace a0_err h K := by
  have e : bodyVC Tryd.prog Tryd.f12 (.seq .no (.seq .no (.seq (.block (.loop [(0, .at .raw), (3, .at .sl)] (.seq (.seq .no (.cond .no .no)) (.block (.seq .no (.seq (.seq .no (.cond .no .no)) (.seq .no .no))))))) (.seq .no .no)))) (Option.getD Tryd.f12.body .skip) [a0_err] h [.at .sl] (fun s h => K s.1 h) = F_fault_Trace a0_err h K := by kernel_rfl
  exact fun_sound mixed Tryd.func12 rfl (e.mpr hF)

def L1_ref04_Trace (a0_l : Sl) (K : Sl → Hp → Prop) (sL1 : (Sl × Int × Unit) × Hp) (R1 : (Sl × Int × Unit) × Hp → Prop) : Prop :=
cnd (decide (sL1.1.2.1 ≥ 0)) (
idxS a0_l.a a0_l.len sL1.1.2.1 3 fun (p2 : Addr) =>
ldA .str sL1.2 p2 fun (t3 : ByteArray) =>
Let (Array.push sL1.2 (Obj.cells #[.string t3] 9)) fun (h4 : Hp) =>
Let (Addr.mk (Array.size sL1.2) 0 none) fun (p5 : Addr) =>
appS 9 1 16 [.string (ByteArray.mk #[])] sL1.1.1.a sL1.1.1.len sL1.1.1.cap (.slice (some p5) 1 1) h4 fun (t6 : Sl) (h7 : Hp) =>
Let (IntKind.wrap .i64 (sL1.1.2.1 - 1) : Int) fun (t8 : Int) =>
R1 ((t6, t8, ()), h7)) (
K (Sl.mk sL1.1.1.a sL1.1.1.len sL1.1.1.cap) sL1.2)
def F_ref04_Trace (a0_l : Sl) (h : Hp) (K : Sl → Hp → Prop) : Prop :=
Let (IntKind.wrap .i64 ((a0_l.len : Int) - 1) : Int) fun (t1 : Int) =>
∃ n, Lp (L1_ref04_Trace a0_l K) n (((Sl.mk none 0 0), t1, ()), h)

theorem F_ref04_Trace_ok (a0_l : Sl) (h : Hp) (K : Sl → Hp → Prop) (hF : F_ref04_Trace a0_l h K) : C_ref04_Trace a0_l h K := by
  have e : bodyVC Tryd.prog Tryd.f13 (.seq .no (.seq .no (.seq (.seq .no (.block (.loop [(3, .at .sl), (4, .at (.int .i64))] (.seq (.seq .no (.cond .no .no)) (.seq (.block .no) .no))))) (.seq .no .no)))) (Option.getD Tryd.f13.body .skip) [.slice a0_l.a a0_l.len a0_l.cap] h [.at .sl] (fun s h => K s.1 h) = F_ref04_Trace a0_l h K := by kernel_rfl
  exact fun_sound mixed Tryd.func13 rfl (e.mpr hF)

def F_law04_lives  (h : Hp) (K : Bool → Hp → Prop) : Prop :=
C_fault_Wrap (ByteArray.mk #[105, 110, 115, 101, 114, 116]) 0 7 (.iface 23 (.int .i64 4)) h fun (t1 : Value) (h2 : Hp) =>
ifcNil t1 fun (t3 : Bool) =>
cnd (!t3) (
invV Tryd.prog (t1) "Error" [] [.at .str] h2 fun (s4 : ByteArray × Unit) (h5 : Hp) =>
cnd (strEq s4.1 (ByteArray.mk #[105, 110, 115, 101, 114, 116, 32, 97, 116, 32, 48, 32, 111, 102, 32, 55, 58, 32, 101, 114, 114, 110, 111, 32, 52])) (
C_fault_Code t1 h5 fun (t6 : Int) (h7 : Hp) =>
cnd (t6 == 4) (
C_fault_Code .nilIface h7 fun (t8 : Int) (h9 : Hp) =>
K (t8 == 0) h9) (
K false h7)) (
K false h5)) (
K false h2)

theorem F_law04_lives_ok  (h : Hp) (K : Bool → Hp → Prop) (hF : F_law04_lives  h K) : C_law04_lives  h K := by
  have e : bodyVC Tryd.prog Tryd.f14 (.seq .no (.seq .no (.seq .no .no))) (Option.getD Tryd.f14.body .skip) [] h [.at .bool] (fun s h => K s.1 h) = F_law04_lives  h K := by kernel_rfl
  exact fun_sound mixed Tryd.func14 rfl (e.mpr hF)

def J1_fault_Where (K : ByteArray → Int → Int → Value → Bool → Hp → Prop) (p2 : Addr) (p4 : Addr) (sJ1 : Bool × Unit) (hJ1 : Hp) : Prop :=
cnd sJ1.1 (
stC hJ1 p2 (
Let (hset hJ1 p2 (.string (ByteArray.mk #[]))) fun (h5 : Hp) =>
stC h5 (Addr.add p2 1) (
Let (hset h5 (Addr.add p2 1) (.int .i64 0)) fun (h6 : Hp) =>
stC h6 (Addr.add p2 2) (
Let (hset h6 (Addr.add p2 2) (.int .u64 0)) fun (h7 : Hp) =>
stC h7 (Addr.add p2 3) (
Let (hset h7 (Addr.add p2 3) (.nilIface)) fun (h8 : Hp) =>
ldA .str h8 p2 fun (r9 : ByteArray) =>
ldA (.int .i64) h8 (Addr.add p2 1) fun (r10 : Int) =>
ldA (.int .u64) h8 (Addr.add p2 2) fun (r11 : Int) =>
ldA .raw h8 (Addr.add p2 3) fun (r12 : Value) =>
K r9 r10 r11 r12 false h8))))) (
ldA .ptr hJ1 p4 fun (t13 : Option Addr) =>
someA t13 fun (p14 : Addr) =>
ldA .str hJ1 p14 fun (t15 : ByteArray) =>
ldA (.int .i64) hJ1 (Addr.add p14 1) fun (t16 : Int) =>
ldA (.int .u64) hJ1 (Addr.add p14 2) fun (t17 : Int) =>
ldA .raw hJ1 (Addr.add p14 3) fun (t18 : Value) =>
stC hJ1 p2 (
Let (hset hJ1 p2 (.string t15)) fun (h19 : Hp) =>
stC h19 (Addr.add p2 1) (
Let (hset h19 (Addr.add p2 1) (.int .i64 t16)) fun (h20 : Hp) =>
stC h20 (Addr.add p2 2) (
Let (hset h20 (Addr.add p2 2) (.int .u64 t17)) fun (h21 : Hp) =>
stO h21 (Addr.add p2 3) (t18) (
Let (hset h21 (Addr.add p2 3) (t18)) fun (h22 : Hp) =>
ldA .str h22 p2 fun (r23 : ByteArray) =>
ldA (.int .i64) h22 (Addr.add p2 1) fun (r24 : Int) =>
ldA (.int .u64) h22 (Addr.add p2 2) fun (r25 : Int) =>
ldA .raw h22 (Addr.add p2 3) fun (r26 : Value) =>
K r23 r24 r25 r26 true h22)))))
def F_fault_Where (a0_err : Value) (h : Hp) (K : ByteArray → Int → Int → Value → Bool → Hp → Prop) : Prop :=
Let (Array.push h (Obj.cells #[.string (ByteArray.mk #[]), .int .i64 0, .int .u64 0, .nilIface] 40)) fun (h1 : Hp) =>
Let (Addr.mk (Array.size h) 0 none) fun (p2 : Addr) =>
Let (Array.push h1 (Obj.cells #[.pointer none] 46)) fun (h3 : Hp) =>
Let (Addr.mk (Array.size h1) 0 none) fun (p4 : Addr) =>
Jn (J1_fault_Where K p2 p4) fun (J1 : Bool × Unit → Hp → Prop) =>
C_errors_As a0_err (.iface 59 (.pointer (some p4))) h3 fun (t27 : Bool) (h28 : Hp) =>
cnd (!t27) (
J1 (true, ()) h28) (
ldA .ptr h28 p4 fun (t29 : Option Addr) =>
J1 (Option.isNone t29, ()) h28)

theorem F_fault_Where_ok (a0_err : Value) (h : Hp) (K : ByteArray → Int → Int → Value → Bool → Hp → Prop) (hF : F_fault_Where a0_err h K) : C_fault_Where a0_err h K := by
  have e : bodyVC Tryd.prog Tryd.f15 (.seq .no (.seq .no (.seq (.join [(12, .at .bool)] .no (.cond (.seq .no .no) .no)) (.seq .no .no)))) (Option.getD Tryd.f15.body .skip) [a0_err] h [.agg [.str, (.int .i64), (.int .u64), .raw], .at .bool] (fun s h => K s.1.1 s.1.2.1 s.1.2.2.1 s.1.2.2.2.1 s.2.1 h) = F_fault_Where a0_err h K := by kernel_rfl
  exact fun_sound mixed Tryd.func15 rfl (e.mpr hF)

def F_fault_Wrap (a0_op : ByteArray) (a1_at : Int) (a2_id : Int) (a3_err : Value) (h : Hp) (K : Value → Hp → Prop) : Prop :=
ifcNil a3_err fun (t1 : Bool) =>
cnd t1 (
K .nilIface h) (
oneA a3_err fun (v2 : Value) =>
Let (Array.push h (Obj.cells #[.string a0_op, .int .i64 a1_at, .int .u64 a2_id, v2] 40)) fun (h3 : Hp) =>
Let (Addr.mk (Array.size h) 0 none) fun (p4 : Addr) =>
K (.iface 46 (.pointer (some p4))) h3)

theorem F_fault_Wrap_ok (a0_op : ByteArray) (a1_at : Int) (a2_id : Int) (a3_err : Value) (h : Hp) (K : Value → Hp → Prop) (hF : F_fault_Wrap a0_op a1_at a2_id a3_err h K) : C_fault_Wrap a0_op a1_at a2_id a3_err h K := by
  have e : bodyVC Tryd.prog Tryd.f16 (.seq .no (.seq (.seq .no (.cond (.seq .no .no) .no)) (.seq .no .no))) (Option.getD Tryd.f16.body .skip) [.string a0_op, .int .i64 a1_at, .int .u64 a2_id, a3_err] h [.at .raw] (fun s h => K s.1 h) = F_fault_Wrap a0_op a1_at a2_id a3_err h K := by kernel_rfl
  exact fun_sound mixed Tryd.func16 rfl (e.mpr hF)

def F_errors_New (a0_text : ByteArray) (h : Hp) (K : Value → Hp → Prop) : Prop :=
Let (Array.push h (Obj.cells #[.string a0_text] 62)) fun (h1 : Hp) =>
Let (Addr.mk (Array.size h) 0 none) fun (p2 : Addr) =>
K (.iface 60 (.pointer (some p2))) h1

theorem F_errors_New_ok (a0_text : ByteArray) (h : Hp) (K : Value → Hp → Prop) (hF : F_errors_New a0_text h K) : C_errors_New a0_text h K := by
  have e : bodyVC Tryd.prog Tryd.f17 (.seq .no (.seq .no .no)) (Option.getD Tryd.f17.body .skip) [.string a0_text] h [.at .raw] (fun s h => K s.1 h) = F_errors_New a0_text h K := by kernel_rfl
  exact fun_sound mixed Tryd.func17 rfl (e.mpr hF)

def J1_fault_Fault_Error (a0_f : Option Addr) (K : ByteArray → Hp → Prop) (sJ1 : ByteArray × Unit) (hJ1 : Hp) : Prop :=
someA a0_f fun (p1 : Addr) =>
ldA .str hJ1 p1 fun (t2 : ByteArray) =>
catS t2 (ByteArray.mk #[32, 97, 116, 32]) fun (t3 : ByteArray) =>
someA a0_f fun (p4 : Addr) =>
ldA (.int .i64) hJ1 (Addr.add p4 1) fun (t5 : Int) =>
C_strconv_Itoa t5 hJ1 fun (t6 : ByteArray) (h7 : Hp) =>
Ext hJ1 h7 ∧ (
catS t3 t6 fun (t8 : ByteArray) =>
catS t8 (ByteArray.mk #[32, 111, 102, 32]) fun (t9 : ByteArray) =>
someA a0_f fun (p10 : Addr) =>
ldA (.int .u64) hJ1 (Addr.add p10 2) fun (t11 : Int) =>
C_strconv_FormatUint t11 10 h7 fun (t12 : ByteArray) (h13 : Hp) =>
Ext h7 h13 ∧ (
catS t9 t12 fun (t14 : ByteArray) =>
catS t14 (ByteArray.mk #[58, 32]) fun (t15 : ByteArray) =>
catS t15 sJ1.1 fun (t16 : ByteArray) =>
K t16 h13))
def F_fault_Fault_Error (a0_f : Option Addr) (h : Hp) (K : ByteArray → Hp → Prop) : Prop :=
cnd (Option.isNone a0_f) (
K (ByteArray.mk #[]) h) (
Jn (J1_fault_Fault_Error a0_f K) fun (J1 : ByteArray × Unit → Hp → Prop) =>
someA a0_f fun (p17 : Addr) =>
ldA .raw h (Addr.add p17 3) fun (t18 : Value) =>
ifcNil t18 fun (t19 : Bool) =>
cnd (!t19) (
someA a0_f fun (p20 : Addr) =>
ldA .raw h (Addr.add p20 3) fun (t21 : Value) =>
invV Tryd.prog (t21) "Error" [] [.at .str] h fun (s22 : ByteArray × Unit) (h23 : Hp) =>
J1 (s22.1, ()) h23) (
J1 ((ByteArray.mk #[110, 111, 116, 104, 105, 110, 103]), ()) h))

theorem F_fault_Fault_Error_ok (a0_f : Option Addr) (h : Hp) (K : ByteArray → Hp → Prop) (hF : F_fault_Fault_Error a0_f h K) : C_fault_Fault_Error a0_f h K := by
  have e : bodyVC Tryd.prog Tryd.f18 (.seq .no (.seq (.seq .no (.cond (.seq .no .no) .no)) (.seq .no (.join [(3, .at .str)] (.seq .no (.cond .no .no)) (.seq .no .no))))) (Option.getD Tryd.f18.body .skip) [.pointer a0_f] h [.at .str] (fun s h => K s.1 h) = F_fault_Fault_Error a0_f h K := by kernel_rfl
  exact fun_sound mixed Tryd.func18 rfl (e.mpr hF)

def F_fault_Fault_Unwrap (a0_f : Option Addr) (h : Hp) (K : Value → Hp → Prop) : Prop :=
cnd (Option.isNone a0_f) (
K .nilIface h) (
someA a0_f fun (p1 : Addr) =>
ldA .raw h (Addr.add p1 3) fun (t2 : Value) =>
K t2 h)

theorem F_fault_Fault_Unwrap_ok (a0_f : Option Addr) (h : Hp) (K : Value → Hp → Prop) (hF : F_fault_Fault_Unwrap a0_f h K) : C_fault_Fault_Unwrap a0_f h K := by
  have e : bodyVC Tryd.prog Tryd.f19 (.seq .no (.seq (.seq .no (.cond (.seq .no .no) .no)) (.seq .no .no))) (Option.getD Tryd.f19.body .skip) [.pointer a0_f] h [.at .raw] (fun s h => K s.1 h) = F_fault_Fault_Unwrap a0_f h K := by kernel_rfl
  exact fun_sound mixed Tryd.func19 rfl (e.mpr hF)

def F_ref04_Num (a0_n : Int) (h : Hp) (K : ByteArray → Hp → Prop) : Prop :=
cnd (decide (a0_n < 0)) (
Let (IntKind.wrap .i64 (a0_n + 1) : Int) fun (t1 : Int) =>
Let (IntKind.wrap .i64 (0 - t1) : Int) fun (t2 : Int) =>
Let (IntKind.wrap .u64 (t2) : Int) fun (t3 : Int) =>
Let (IntKind.wrap .u64 (t3 + 1) : Int) fun (t4 : Int) =>
C_ref04_figures t4 h fun (t5 : ByteArray) (h6 : Hp) =>
catS (ByteArray.mk #[45]) t5 fun (t7 : ByteArray) =>
K t7 h6) (
Let (IntKind.wrap .u64 (a0_n) : Int) fun (t8 : Int) =>
C_ref04_figures t8 h fun (t9 : ByteArray) (h10 : Hp) =>
K t9 h10)

theorem F_ref04_Num_ok (a0_n : Int) (h : Hp) (K : ByteArray → Hp → Prop) (hF : F_ref04_Num a0_n h K) : C_ref04_Num a0_n h K := by
  have e : bodyVC Tryd.prog Tryd.f20 (.seq .no (.seq (.seq .no (.cond (.seq .no .no) .no)) (.seq .no .no))) (Option.getD Tryd.f20.body .skip) [.int .i64 a0_n] h [.at .str] (fun s h => K s.1 h) = F_ref04_Num a0_n h K := by kernel_rfl
  exact fun_sound mixed Tryd.func20 rfl (e.mpr hF)

def F_ref04_figures (a0_n : Int) (h : Hp) (K : ByteArray → Hp → Prop) : Prop :=
(10 ≠ (0 : Int)) ∧ (
Let (Int.tmod a0_n 10 : Int) fun (t1 : Int) =>
Let (IntKind.wrap .u64 ((48 : Int) + t1) : Int) fun (t2 : Int) =>
Let (IntKind.wrap .u8 (t2) : Int) fun (t3 : Int) =>
Let (Array.push h (Obj.cells #[.int .u8 t3] 5)) fun (h4 : Hp) =>
Let (Addr.mk (Array.size h) 0 none) fun (p5 : Addr) =>
btS h4 (some p5) 1 fun (t6 : ByteArray) =>
cnd (decide (a0_n < 10)) (
K t6 h4) (
(10 ≠ (0 : Int)) ∧ (
Let (IntKind.wrap .u64 (Int.tdiv a0_n 10) : Int) fun (t7 : Int) =>
C_ref04_figures t7 h4 fun (t8 : ByteArray) (h9 : Hp) =>
catS t8 t6 fun (t10 : ByteArray) =>
K t10 h9)))

theorem F_ref04_figures_ok (a0_n : Int) (h : Hp) (K : ByteArray → Hp → Prop) (hF : F_ref04_figures a0_n h K) : C_ref04_figures a0_n h K := by
  have e : bodyVC Tryd.prog Tryd.f21 (.seq .no (.seq .no (.seq (.seq .no (.cond (.seq .no .no) .no)) (.seq .no .no)))) (Option.getD Tryd.f21.body .skip) [.int .u64 a0_n] h [.at .str] (fun s h => K s.1 h) = F_ref04_figures a0_n h K := by kernel_rfl
  exact fun_sound mixed Tryd.func21 rfl (e.mpr hF)

def J3_errors_As (a0_err : Value) (a1_target : Value) (K : Bool → Hp → Prop) (p7 : Addr) (s16 : Value × Unit) (sJ3 : Bool × Unit) (hJ3 : Hp) : Prop :=
cnd sJ3.1 (
False) (
ldA .ptr hJ3 p7 fun (t18 : Option Addr) =>
ldA .ptr hJ3 (Addr.add p7 1) fun (t19 : Option Addr) =>
ldA (.int .u64) hJ3 (Addr.add p7 2) fun (t20 : Int) =>
C_errors_as a0_err a1_target t18 t19 t20 s16.1 hJ3 fun (t21 : Bool) (h22 : Hp) =>
K t21 h22)
def J2_errors_As (a0_err : Value) (a1_target : Value) (K : Bool → Hp → Prop) (p7 : Addr) (t14 : Value) (sJ2 : Unit) (hJ2 : Hp) : Prop :=
invV Tryd.prog (t14) "Elem" [] [.at .raw] hJ2 fun (s16 : Value × Unit) (h17 : Hp) =>
Jn (J3_errors_As a0_err a1_target K p7 s16) fun (J3 : Bool × Unit → Hp → Prop) =>
invV Tryd.prog (s16.1) "Kind" [] [.at (.int .u8)] h17 fun (s23 : Int × Unit) (h24 : Hp) =>
cnd (s23.1 != 20) (
ldA .raw h24 (Addr.mk 0 0 none) fun (t25 : Value) =>
invV Tryd.prog (s16.1) "Implements" [t25] [.at .bool] h24 fun (s26 : Bool × Unit) (h27 : Hp) =>
J3 (!s26.1, ()) h27) (
J3 (false, ()) h24)
def J4_errors_As (J2 : Unit → Hp → Prop) (sJ4 : Bool × Unit) (hJ4 : Hp) : Prop :=
cnd sJ4.1 (
False) (
J2 (()) hJ4)
def J1_errors_As (a0_err : Value) (a1_target : Value) (K : Bool → Hp → Prop) (sJ1 : Unit) (hJ1 : Hp) : Prop :=
C_internal_reflectlite_ValueOf a1_target hJ1 fun (t2 : Option Addr) (t3 : Option Addr) (t4 : Int) (h5 : Hp) =>
Let (Array.push h5 (Obj.cells #[.pointer none, .pointer none, .int .u64 0] 68)) fun (h6 : Hp) =>
Let (Addr.mk (Array.size h5) 0 none) fun (p7 : Addr) =>
stC h6 p7 (
Let (hset h6 p7 (.pointer t2)) fun (h8 : Hp) =>
stC h8 (Addr.add p7 1) (
Let (hset h8 (Addr.add p7 1) (.pointer t3)) fun (h9 : Hp) =>
stC h9 (Addr.add p7 2) (
Let (hset h9 (Addr.add p7 2) (.int .u64 t4)) fun (h10 : Hp) =>
ldA .ptr h10 p7 fun (t11 : Option Addr) =>
ldA .ptr h10 (Addr.add p7 1) fun (t12 : Option Addr) =>
ldA (.int .u64) h10 (Addr.add p7 2) fun (t13 : Int) =>
C_internal_reflectlite_Value_Type t11 t12 t13 h10 fun (t14 : Value) (h15 : Hp) =>
Jn (J2_errors_As a0_err a1_target K p7 t14) fun (J2 : Unit → Hp → Prop) =>
Jn (J4_errors_As J2) fun (J4 : Bool × Unit → Hp → Prop) =>
invV Tryd.prog (t14) "Kind" [] [.at (.int .u8)] h15 fun (s28 : Int × Unit) (h29 : Hp) =>
cnd (s28.1 != 22) (
J4 (true, ()) h29) (
ldA .ptr h29 p7 fun (t30 : Option Addr) =>
ldA .ptr h29 (Addr.add p7 1) fun (t31 : Option Addr) =>
ldA (.int .u64) h29 (Addr.add p7 2) fun (t32 : Int) =>
C_internal_reflectlite_Value_IsNil t30 t31 t32 h29 fun (t33 : Bool) (h34 : Hp) =>
J4 (t33, ()) h34))))
def F_errors_As (a0_err : Value) (a1_target : Value) (h : Hp) (K : Bool → Hp → Prop) : Prop :=
ifcNil a0_err fun (t1 : Bool) =>
cnd t1 (
K false h) (
Jn (J1_errors_As a0_err a1_target K) fun (J1 : Unit → Hp → Prop) =>
ifcNil a1_target fun (t35 : Bool) =>
cnd t35 (
False) (
J1 (()) h))

theorem F_errors_As_ok (a0_err : Value) (a1_target : Value) (h : Hp) (K : Bool → Hp → Prop) (hF : F_errors_As a0_err a1_target h K) : C_errors_As a0_err a1_target h K := by
  have e : bodyVC Tryd.prog Tryd.f22 (.seq .no (.seq (.seq .no (.cond (.seq .no .no) .no)) (.join [] (.seq .no (.cond .no .no)) (.seq .no (.seq .no (.join [] (.join [(23, .at .bool)] .no (.cond .no .no)) (.seq .no (.seq (.join [(35, .at .bool)] .no (.cond .no .no)) (.seq .no .no))))))))) (Option.getD Tryd.f22.body .skip) [a0_err, a1_target] h [.at .bool] (fun s h => K s.1 h) = F_errors_As a0_err a1_target h K := by kernel_rfl
  exact fun_sound mixed Tryd.func22 rfl (e.mpr hF)

def L2_errors_is (a1_target : Value) (a2_targetComparable : Bool) (K : Bool → Hp → Prop) (s6 : Sl × Unit) (sL2 : (Int × Unit) × Hp) (R2 : (Int × Unit) × Hp → Prop) : Prop :=
cnd (decide (sL2.1.1 < (s6.1.len : Int))) (
idxS s6.1.a s6.1.len sL2.1.1 1 fun (p8 : Addr) =>
ldA .raw sL2.2 p8 fun (t9 : Value) =>
C_errors_is t9 a1_target a2_targetComparable sL2.2 fun (t10 : Bool) (h11 : Hp) =>
cnd t10 (
K true h11) (
Let (IntKind.wrap .i64 (sL2.1.1 + 1) : Int) fun (t12 : Int) =>
R2 ((t12, ()), h11))) (
K false sL2.2)
def J2_errors_is (a1_target : Value) (a2_targetComparable : Bool) (K : Bool → Hp → Prop) (sL1 : (Value × Unit) × Hp) (R1 : (Value × Unit) × Hp → Prop) (sJ2 : Unit) (hJ2 : Hp) : Prop :=
taV Tryd.prog (sL1.1.1) 25 81 true [.at .raw, .at .bool] hJ2 fun (s1 : Value × Bool × Unit) =>
cnd s1.2.1 (
invV Tryd.prog (s1.1) "Unwrap" [] [.at .raw] hJ2 fun (s2 : Value × Unit) (h3 : Hp) =>
ifcNil s2.1 fun (t4 : Bool) =>
cnd t4 (
K false h3) (
R1 ((s2.1, ()), h3))) (
taV Tryd.prog (sL1.1.1) 25 82 true [.at .raw, .at .bool] hJ2 fun (s5 : Value × Bool × Unit) =>
cnd s5.2.1 (
invV Tryd.prog (s5.1) "Unwrap" [] [.at .sl] hJ2 fun (s6 : Sl × Unit) (h7 : Hp) =>
∃ n, Lp (L2_errors_is a1_target a2_targetComparable K s6) n ((0, ()), h7)) (
K false hJ2))
def J1_errors_is (a1_target : Value) (a2_targetComparable : Bool) (K : Bool → Hp → Prop) (sL1 : (Value × Unit) × Hp) (R1 : (Value × Unit) × Hp → Prop) (sJ1 : Unit) (hJ1 : Hp) : Prop :=
Jn (J2_errors_is a1_target a2_targetComparable K sL1 R1) fun (J2 : Unit → Hp → Prop) =>
taV Tryd.prog (sL1.1.1) 25 78 true [.at .raw, .at .bool] hJ1 fun (s13 : Value × Bool × Unit) =>
cnd s13.2.1 (
invV Tryd.prog (s13.1) "Is" [a1_target] [.at .bool] hJ1 fun (s14 : Bool × Unit) (h15 : Hp) =>
cnd s14.1 (
K true h15) (
J2 (()) h15)) (
J2 (()) hJ1)
def L1_errors_is (a1_target : Value) (a2_targetComparable : Bool) (K : Bool → Hp → Prop) (sL1 : (Value × Unit) × Hp) (R1 : (Value × Unit) × Hp → Prop) : Prop :=
Jn (J1_errors_is a1_target a2_targetComparable K sL1 R1) fun (J1 : Unit → Hp → Prop) =>
cnd a2_targetComparable (
ifcEq Tryd.prog 25 (sL1.1.1) (a1_target) fun (t16 : Bool) =>
cnd t16 (
K true sL1.2) (
J1 (()) sL1.2)) (
J1 (()) sL1.2)
def F_errors_is (a0_err : Value) (a1_target : Value) (a2_targetComparable : Bool) (h : Hp) (K : Bool → Hp → Prop) : Prop :=
∃ n, Lp (L1_errors_is a1_target a2_targetComparable K) n ((a0_err, ()), h)

theorem F_errors_is_ok (a0_err : Value) (a1_target : Value) (a2_targetComparable : Bool) (h : Hp) (K : Bool → Hp → Prop) (hF : F_errors_is a0_err a1_target a2_targetComparable h K) : C_errors_is a0_err a1_target a2_targetComparable h K := by
  have e : bodyVC Tryd.prog Tryd.f24 (.seq .no (.block (.loop [(0, .at .raw)] (.block (.join [] (.seq .no (.cond (.seq .no .no) .no)) (.join [] (.seq .no (.seq .no (.cond (.seq .no .no) .no))) (.seq .no (.block (.seq .no (.cond (.seq .no (.seq .no (.seq .no (.cond (.seq .no .no) .no)))) (.seq .no (.cond (.seq .no (.seq (.seq .no (.block (.loop [(45, .at (.int .i64))] (.seq .no (.seq (.cond .no .no) (.seq (.block (.seq .no (.seq .no (.cond (.seq .no .no) .no)))) .no)))))) (.seq .no .no))) (.seq .no (.seq .no .no)))))))))))))) (Option.getD Tryd.f24.body .skip) [a0_err, a1_target, .bool a2_targetComparable] h [.at .bool] (fun s h => K s.1 h) = F_errors_is a0_err a1_target a2_targetComparable h K := by kernel_rfl
  exact fun_sound mixed Tryd.func24 rfl (e.mpr hF)

def F_strconv_Itoa (a0_i : Int) (h : Hp) (K : ByteArray → Hp → Prop) : Prop :=
C_internal_strconv_Itoa a0_i h fun (t1 : ByteArray) (h2 : Hp) =>
K t1 h2

theorem F_strconv_Itoa_ok (a0_i : Int) (h : Hp) (K : ByteArray → Hp → Prop) (hF : F_strconv_Itoa a0_i h K) : C_strconv_Itoa a0_i h K := by
  have e : bodyVC Tryd.prog Tryd.f25 (.seq .no (.seq .no .no)) (Option.getD Tryd.f25.body .skip) [.int .i64 a0_i] h [.at .str] (fun s h => K s.1 h) = F_strconv_Itoa a0_i h K := by kernel_rfl
  exact fun_sound mixed Tryd.func25 rfl (e.mpr hF)

def F_strconv_FormatUint (a0_i : Int) (a1_base : Int) (h : Hp) (K : ByteArray → Hp → Prop) : Prop :=
C_internal_strconv_FormatUint a0_i a1_base h fun (t1 : ByteArray) (h2 : Hp) =>
K t1 h2

theorem F_strconv_FormatUint_ok (a0_i : Int) (a1_base : Int) (h : Hp) (K : ByteArray → Hp → Prop) (hF : F_strconv_FormatUint a0_i a1_base h K) : C_strconv_FormatUint a0_i a1_base h K := by
  have e : bodyVC Tryd.prog Tryd.f26 (.seq .no (.seq .no .no)) (Option.getD Tryd.f26.body .skip) [.int .u64 a0_i, .int .i64 a1_base] h [.at .str] (fun s h => K s.1 h) = F_strconv_FormatUint a0_i a1_base h K := by kernel_rfl
  exact fun_sound mixed Tryd.func26 rfl (e.mpr hF)

def L2_errors_as (a1_target : Value) (a5_targetType : Value) (K : Bool → Hp → Prop) (p2 : Addr) (s24 : Sl × Unit) (sL2 : (Int × Unit) × Hp) (R2 : (Int × Unit) × Hp → Prop) : Prop :=
cnd (decide (sL2.1.1 < (s24.1.len : Int))) (
idxS s24.1.a s24.1.len sL2.1.1 1 fun (p26 : Addr) =>
ldA .raw sL2.2 p26 fun (t27 : Value) =>
ifcNil t27 fun (t28 : Bool) =>
cnd t28 (
Let (IntKind.wrap .i64 (sL2.1.1 + 1) : Int) fun (t29 : Int) =>
R2 ((t29, ()), sL2.2)) (
ldA .ptr sL2.2 p2 fun (t30 : Option Addr) =>
ldA .ptr sL2.2 (Addr.add p2 1) fun (t31 : Option Addr) =>
ldA (.int .u64) sL2.2 (Addr.add p2 2) fun (t32 : Int) =>
C_errors_as t27 a1_target t30 t31 t32 a5_targetType sL2.2 fun (t33 : Bool) (h34 : Hp) =>
cnd t33 (
K true h34) (
Let (IntKind.wrap .i64 (sL2.1.1 + 1) : Int) fun (t35 : Int) =>
R2 ((t35, ()), h34)))) (
K false sL2.2)
def J1_errors_as (a1_target : Value) (a5_targetType : Value) (K : Bool → Hp → Prop) (p2 : Addr) (sL1 : (Value × Unit) × Hp) (R1 : (Value × Unit) × Hp → Prop) (sJ1 : Unit) (hJ1 : Hp) : Prop :=
taV Tryd.prog (sL1.1.1) 25 81 true [.at .raw, .at .bool] hJ1 fun (s19 : Value × Bool × Unit) =>
cnd s19.2.1 (
invV Tryd.prog (s19.1) "Unwrap" [] [.at .raw] hJ1 fun (s20 : Value × Unit) (h21 : Hp) =>
ifcNil s20.1 fun (t22 : Bool) =>
cnd t22 (
K false h21) (
R1 ((s20.1, ()), h21))) (
taV Tryd.prog (sL1.1.1) 25 82 true [.at .raw, .at .bool] hJ1 fun (s23 : Value × Bool × Unit) =>
cnd s23.2.1 (
invV Tryd.prog (s23.1) "Unwrap" [] [.at .sl] hJ1 fun (s24 : Sl × Unit) (h25 : Hp) =>
∃ n, Lp (L2_errors_as a1_target a5_targetType K p2 s24) n ((0, ()), h25)) (
K false hJ1))
def L1_errors_as (a1_target : Value) (a5_targetType : Value) (K : Bool → Hp → Prop) (p2 : Addr) (sL1 : (Value × Unit) × Hp) (R1 : (Value × Unit) × Hp → Prop) : Prop :=
C_internal_reflectlite_TypeOf sL1.1.1 sL1.2 fun (t3 : Value) (h4 : Hp) =>
invV Tryd.prog (t3) "AssignableTo" [a5_targetType] [.at .bool] h4 fun (s5 : Bool × Unit) (h6 : Hp) =>
cnd s5.1 (
ldA .ptr h6 p2 fun (t7 : Option Addr) =>
ldA .ptr h6 (Addr.add p2 1) fun (t8 : Option Addr) =>
ldA (.int .u64) h6 (Addr.add p2 2) fun (t9 : Int) =>
C_internal_reflectlite_Value_Elem t7 t8 t9 h6 fun (t10 : Option Addr) (t11 : Option Addr) (t12 : Int) (h13 : Hp) =>
C_internal_reflectlite_ValueOf sL1.1.1 h13 fun (t14 : Option Addr) (t15 : Option Addr) (t16 : Int) (h17 : Hp) =>
C_internal_reflectlite_Value_Set t10 t11 t12 t14 t15 t16 h17 fun  (h18 : Hp) =>
K true h18) (
Jn (J1_errors_as a1_target a5_targetType K p2 sL1 R1) fun (J1 : Unit → Hp → Prop) =>
taV Tryd.prog (sL1.1.1) 25 87 true [.at .raw, .at .bool] h6 fun (s36 : Value × Bool × Unit) =>
cnd s36.2.1 (
invV Tryd.prog (s36.1) "As" [a1_target] [.at .bool] h6 fun (s37 : Bool × Unit) (h38 : Hp) =>
cnd s37.1 (
K true h38) (
J1 (()) h38)) (
J1 (()) h6))
def F_errors_as (a0_err : Value) (a1_target : Value) (a2_targetVal : Option Addr) (a3_targetVal : Option Addr) (a4_targetVal : Int) (a5_targetType : Value) (h : Hp) (K : Bool → Hp → Prop) : Prop :=
Let (Array.push h (Obj.cells #[.pointer a2_targetVal, .pointer a3_targetVal, .int .u64 a4_targetVal] 68)) fun (h1 : Hp) =>
Let (Addr.mk (Array.size h) 0 none) fun (p2 : Addr) =>
∃ n, Lp (L1_errors_as a1_target a5_targetType K p2) n ((a0_err, ()), h1)

theorem F_errors_as_ok (a0_err : Value) (a1_target : Value) (a2_targetVal : Option Addr) (a3_targetVal : Option Addr) (a4_targetVal : Int) (a5_targetType : Value) (h : Hp) (K : Bool → Hp → Prop) (hF : F_errors_as a0_err a1_target a2_targetVal a3_targetVal a4_targetVal a5_targetType h K) : C_errors_as a0_err a1_target a2_targetVal a3_targetVal a4_targetVal a5_targetType h K := by
  have e : bodyVC Tryd.prog Tryd.f30 (.seq .no (.block (.loop [(0, .at .raw)] (.block (.seq (.seq .no (.cond (.seq .no (.seq .no .no)) .no)) (.join [] (.seq .no (.seq .no (.cond (.seq .no .no) .no))) (.seq .no (.block (.seq .no (.cond (.seq .no (.seq .no (.seq .no (.cond (.seq .no .no) .no)))) (.seq .no (.cond (.seq .no (.seq (.seq .no (.block (.loop [(50, .at (.int .i64))] (.seq .no (.seq (.cond .no .no) (.seq (.block (.seq .no (.seq (.seq .no (.cond .no .no)) (.seq .no (.cond (.seq .no .no) .no))))) .no)))))) (.seq .no .no))) (.seq .no (.seq .no .no)))))))))))))) (Option.getD Tryd.f30.body .skip) [a0_err, a1_target, .agg #[.pointer a2_targetVal, .pointer a3_targetVal, .int .u64 a4_targetVal], a5_targetType] h [.at .bool] (fun s h => K s.1 h) = F_errors_as a0_err a1_target a2_targetVal a3_targetVal a4_targetVal a5_targetType h K := by kernel_rfl
  exact fun_sound mixed Tryd.func30 rfl (e.mpr hF)

def F_internal_strconv_Itoa (a0_i : Int) (h : Hp) (K : ByteArray → Hp → Prop) : Prop :=
C_internal_strconv_FormatInt a0_i 10 h fun (t1 : ByteArray) (h2 : Hp) =>
K t1 h2

theorem F_internal_strconv_Itoa_ok (a0_i : Int) (h : Hp) (K : ByteArray → Hp → Prop) (hF : F_internal_strconv_Itoa a0_i h K) : C_internal_strconv_Itoa a0_i h K := by
  have e : bodyVC Tryd.prog Tryd.f31 (.seq .no (.seq .no .no)) (Option.getD Tryd.f31.body .skip) [.int .i64 a0_i] h [.at .str] (fun s h => K s.1 h) = F_internal_strconv_Itoa a0_i h K := by kernel_rfl
  exact fun_sound mixed Tryd.func31 rfl (e.mpr hF)

def F_internal_strconv_FormatUint (a0_i : Int) (a1_base : Int) (h : Hp) (K : ByteArray → Hp → Prop) : Prop :=
cnd (a1_base == 10) (
cnd (decide (a0_i < 100)) (
Let (IntKind.wrap .i64 (a0_i) : Int) fun (t1 : Int) =>
C_internal_strconv_small t1 h fun (t2 : ByteArray) (h3 : Hp) =>
K t2 h3) (
Let (Array.push h (Obj.cells #[.int .u8 0, .int .u8 0, .int .u8 0, .int .u8 0, .int .u8 0, .int .u8 0, .int .u8 0, .int .u8 0, .int .u8 0, .int .u8 0, .int .u8 0, .int .u8 0, .int .u8 0, .int .u8 0, .int .u8 0, .int .u8 0, .int .u8 0, .int .u8 0, .int .u8 0, .int .u8 0, .int .u8 0, .int .u8 0, .int .u8 0, .int .u8 0] 91)) fun (h4 : Hp) =>
Let (Addr.mk (Array.size h) 0 none) fun (p5 : Addr) =>
C_internal_strconv_numDigits a0_i h4 fun (t6 : Int) (h7 : Hp) =>
slcS (some p5) 24 24 none (some t6) 1 fun (t8 : Option Addr) (l9 c10 : Nat) =>
C_internal_strconv_formatBase10 (Sl.mk t8 l9 c10) a0_i h7 fun  (h11 : Hp) =>
slcS (some p5) 24 24 none (some t6) 1 fun (t12 : Option Addr) (l13 c14 : Nat) =>
btS h11 t12 l13 fun (t15 : ByteArray) =>
K t15 h11)) (
C_internal_strconv_formatBits (Sl.mk none 0 0) a0_i a1_base false false h fun (t16 : Sl) (t17 : ByteArray) (h18 : Hp) =>
K t17 h18)

theorem F_internal_strconv_FormatUint_ok (a0_i : Int) (a1_base : Int) (h : Hp) (K : ByteArray → Hp → Prop) (hF : F_internal_strconv_FormatUint a0_i a1_base h K) : C_internal_strconv_FormatUint a0_i a1_base h K := by
  have e : bodyVC Tryd.prog Tryd.f32 (.seq .no (.seq (.seq .no (.cond (.seq (.seq .no (.cond (.seq .no .no) .no)) (.seq .no (.seq .no (.seq .no (.seq .no .no))))) .no)) (.seq .no (.seq .no .no)))) (Option.getD Tryd.f32.body .skip) [.int .u64 a0_i, .int .i64 a1_base] h [.at .str] (fun s h => K s.1 h) = F_internal_strconv_FormatUint a0_i a1_base h K := by kernel_rfl
  exact fun_sound mixed Tryd.func32 rfl (e.mpr hF)

def J2_internal_strconv_FormatInt (a0_i : Int) (K : ByteArray → Hp → Prop) (p4 : Addr) (sJ2 : Int × Unit) (hJ2 : Hp) : Prop :=
C_internal_strconv_numDigits sJ2.1 hJ2 fun (t6 : Int) (h7 : Hp) =>
Let (IntKind.wrap .i64 ((1 : Int) + t6) : Int) fun (t8 : Int) =>
slcS (some p4) 24 24 (some 1) (some t8) 1 fun (t9 : Option Addr) (l10 c11 : Nat) =>
C_internal_strconv_formatBase10 (Sl.mk t9 l10 c11) sJ2.1 h7 fun  (h12 : Hp) =>
cnd (decide (a0_i < 0)) (
idxS (some p4) 24 0 1 fun (p13 : Addr) =>
((1 : Nat) = 1) ∧ (
stC h12 p13 (
Let (hset h12 p13 (.int .u8 45)) fun (h14 : Hp) =>
Let (IntKind.wrap .i64 ((1 : Int) + t6) : Int) fun (t15 : Int) =>
slcS (some p4) 24 24 none (some t15) 1 fun (t16 : Option Addr) (l17 c18 : Nat) =>
btS h14 t16 l17 fun (t19 : ByteArray) =>
K t19 h14))) (
Let (IntKind.wrap .i64 ((1 : Int) + t6) : Int) fun (t20 : Int) =>
slcS (some p4) 24 24 (some 1) (some t20) 1 fun (t21 : Option Addr) (l22 c23 : Nat) =>
btS h12 t21 l22 fun (t24 : ByteArray) =>
K t24 h12)
def J1_internal_strconv_FormatInt (a0_i : Int) (K : ByteArray → Hp → Prop) (sJ1 : Bool × Unit) (hJ1 : Hp) : Prop :=
cnd sJ1.1 (
C_internal_strconv_small a0_i hJ1 fun (t1 : ByteArray) (h2 : Hp) =>
K t1 h2) (
Let (Array.push hJ1 (Obj.cells #[.int .u8 0, .int .u8 0, .int .u8 0, .int .u8 0, .int .u8 0, .int .u8 0, .int .u8 0, .int .u8 0, .int .u8 0, .int .u8 0, .int .u8 0, .int .u8 0, .int .u8 0, .int .u8 0, .int .u8 0, .int .u8 0, .int .u8 0, .int .u8 0, .int .u8 0, .int .u8 0, .int .u8 0, .int .u8 0, .int .u8 0, .int .u8 0] 91)) fun (h3 : Hp) =>
Let (Addr.mk (Array.size hJ1) 0 none) fun (p4 : Addr) =>
Let (IntKind.wrap .u64 (a0_i) : Int) fun (t5 : Int) =>
Jn (J2_internal_strconv_FormatInt a0_i K p4) fun (J2 : Int × Unit → Hp → Prop) =>
cnd (decide (a0_i < 0)) (
Let (IntKind.wrap .u64 (0 - t5) : Int) fun (t25 : Int) =>
J2 (t25, ()) h3) (
J2 (t5, ()) h3))
def F_internal_strconv_FormatInt (a0_i : Int) (a1_base : Int) (h : Hp) (K : ByteArray → Hp → Prop) : Prop :=
cnd (a1_base == 10) (
Jn (J1_internal_strconv_FormatInt a0_i K) fun (J1 : Bool × Unit → Hp → Prop) =>
cnd (decide ((0 : Int) ≤ a0_i)) (
J1 (decide (a0_i < 100), ()) h) (
J1 (false, ()) h)) (
Let (IntKind.wrap .u64 (a0_i) : Int) fun (t26 : Int) =>
C_internal_strconv_formatBits (Sl.mk none 0 0) t26 a1_base (decide (a0_i < 0)) false h fun (t27 : Sl) (t28 : ByteArray) (h29 : Hp) =>
K t28 h29)

theorem F_internal_strconv_FormatInt_ok (a0_i : Int) (a1_base : Int) (h : Hp) (K : ByteArray → Hp → Prop) (hF : F_internal_strconv_FormatInt a0_i a1_base h K) : C_internal_strconv_FormatInt a0_i a1_base h K := by
  have e : bodyVC Tryd.prog Tryd.f35 (.seq .no (.seq (.seq .no (.cond (.seq (.join [(17, .at .bool)] .no (.cond (.seq .no .no) .no)) (.seq .no (.seq .no (.join [(6, .at (.int .u64))] (.seq .no (.cond .no .no)) (.seq .no (.seq .no (.seq (.seq .no (.cond (.seq .no (.seq .no .no)) .no)) (.seq .no .no)))))))) .no)) (.seq .no (.seq .no .no)))) (Option.getD Tryd.f35.body .skip) [.int .i64 a0_i, .int .i64 a1_base] h [.at .str] (fun s h => K s.1 h) = F_internal_strconv_FormatInt a0_i a1_base h K := by kernel_rfl
  exact fun_sound mixed Tryd.func35 rfl (e.mpr hF)

def F_internal_strconv_small (a0_i : Int) (h : Hp) (K : ByteArray → Hp → Prop) : Prop :=
cnd (decide (a0_i < 10)) (
Let (IntKind.wrap .i64 (a0_i + 1) : Int) fun (t1 : Int) =>
slcStr (ByteArray.mk #[48, 49, 50, 51, 52, 53, 54, 55, 56, 57, 97, 98, 99, 100, 101, 102, 103, 104, 105, 106, 107, 108, 109, 110, 111, 112, 113, 114, 115, 116, 117, 118, 119, 120, 121, 122]) (some a0_i) (some t1) fun (t2 : ByteArray) =>
K t2 h) (
Let (IntKind.wrap .i64 (a0_i * 2) : Int) fun (t3 : Int) =>
Let (IntKind.wrap .i64 (a0_i * 2) : Int) fun (t4 : Int) =>
Let (IntKind.wrap .i64 (t4 + 2) : Int) fun (t5 : Int) =>
slcStr (ByteArray.mk #[48, 48, 48, 49, 48, 50, 48, 51, 48, 52, 48, 53, 48, 54, 48, 55, 48, 56, 48, 57, 49, 48, 49, 49, 49, 50, 49, 51, 49, 52, 49, 53, 49, 54, 49, 55, 49, 56, 49, 57, 50, 48, 50, 49, 50, 50, 50, 51, 50, 52, 50, 53, 50, 54, 50, 55, 50, 56, 50, 57, 51, 48, 51, 49, 51, 50, 51, 51, 51, 52, 51, 53, 51, 54, 51, 55, 51, 56, 51, 57, 52, 48, 52, 49, 52, 50, 52, 51, 52, 52, 52, 53, 52, 54, 52, 55, 52, 56, 52, 57, 53, 48, 53, 49, 53, 50, 53, 51, 53, 52, 53, 53, 53, 54, 53, 55, 53, 56, 53, 57, 54, 48, 54, 49, 54, 50, 54, 51, 54, 52, 54, 53, 54, 54, 54, 55, 54, 56, 54, 57, 55, 48, 55, 49, 55, 50, 55, 51, 55, 52, 55, 53, 55, 54, 55, 55, 55, 56, 55, 57, 56, 48, 56, 49, 56, 50, 56, 51, 56, 52, 56, 53, 56, 54, 56, 55, 56, 56, 56, 57, 57, 48, 57, 49, 57, 50, 57, 51, 57, 52, 57, 53, 57, 54, 57, 55, 57, 56, 57, 57]) (some t3) (some t5) fun (t6 : ByteArray) =>
K t6 h)

theorem F_internal_strconv_small_ok (a0_i : Int) (h : Hp) (K : ByteArray → Hp → Prop) (hF : F_internal_strconv_small a0_i h K) : C_internal_strconv_small a0_i h K := by
  have e : bodyVC Tryd.prog Tryd.f36 (.seq .no (.seq (.seq .no (.cond (.seq .no .no) .no)) (.seq .no .no))) (Option.getD Tryd.f36.body .skip) [.int .i64 a0_i] h [.at .str] (fun s h => K s.1 h) = F_internal_strconv_small a0_i h K := by kernel_rfl
  exact fun_sound mixed Tryd.func36 rfl (e.mpr hF)

def F_internal_strconv_numDigits (a0_d : Int) (h : Hp) (K : Int → Hp → Prop) : Prop :=
C_math_bits_Len64 a0_d h fun (t1 : Int) (h2 : Hp) =>
C_internal_strconv_log10Pow2 t1 h2 fun (t3 : Int) (h4 : Hp) =>
idxS (some (Addr.mk 1 0 none)) 20 t3 1 fun (p5 : Addr) =>
ldA (.int .u64) h4 p5 fun (t6 : Int) =>
C_internal_strconv_bool2_int (decide (a0_d ≥ t6)) h4 fun (t7 : Int) (h8 : Hp) =>
Let (IntKind.wrap .i64 (t3 + t7) : Int) fun (t9 : Int) =>
K t9 h8

theorem F_internal_strconv_numDigits_ok (a0_d : Int) (h : Hp) (K : Int → Hp → Prop) (hF : F_internal_strconv_numDigits a0_d h K) : C_internal_strconv_numDigits a0_d h K := by
  have e : bodyVC Tryd.prog Tryd.f37 (.seq .no (.seq .no (.seq .no .no))) (Option.getD Tryd.f37.body .skip) [.int .u64 a0_d] h [.at (.int .i64)] (fun s h => K s.1 h) = F_internal_strconv_numDigits a0_d h K := by kernel_rfl
  exact fun_sound mixed Tryd.func37 rfl (e.mpr hF)

def J3_internal_strconv_formatBase10 (a0_a : Sl) (K : Hp → Prop) (sJ3 : Int × Int × Unit) (hJ3 : Hp) : Prop :=
cnd (decide (sJ3.1 > 0)) (
Let (IntKind.wrap .u32 ((48 : Int) + sJ3.2.1) : Int) fun (t2 : Int) =>
Let (IntKind.wrap .u8 (t2) : Int) fun (t3 : Int) =>
idxS a0_a.a a0_a.len 0 1 fun (p4 : Addr) =>
((1 : Nat) = 1) ∧ (
stC hJ3 p4 (
Let (hset hJ3 p4 (.int .u8 t3)) fun (h5 : Hp) =>
K h5))) (
K hJ3)
def J2_internal_strconv_formatBase10 (a0_a : Sl) (K : Hp → Prop) (sJ2 : Int × Int × Unit) (hJ2 : Hp) : Prop :=
Jn (J3_internal_strconv_formatBase10 a0_a K) fun (J3 : Int × Int × Unit → Hp → Prop) =>
cnd (decide (sJ2.1 ≥ 2)) (
Let (Int.tmod sJ2.2.1 100 : Int) fun (t6 : Int) =>
Let (IntKind.wrap .u32 (t6 * 2) : Int) fun (t7 : Int) =>
Let (IntKind.wrap .u32 (Int.tdiv sJ2.2.1 100) : Int) fun (t8 : Int) =>
Let (IntKind.wrap .i64 (sJ2.1 - 1) : Int) fun (t9 : Int) =>
Let (IntKind.wrap .i64 (sJ2.1 - 2) : Int) fun (t10 : Int) =>
Let (IntKind.wrap .u32 (t7 + 1) : Int) fun (t11 : Int) =>
idxStr (ByteArray.mk #[48, 48, 48, 49, 48, 50, 48, 51, 48, 52, 48, 53, 48, 54, 48, 55, 48, 56, 48, 57, 49, 48, 49, 49, 49, 50, 49, 51, 49, 52, 49, 53, 49, 54, 49, 55, 49, 56, 49, 57, 50, 48, 50, 49, 50, 50, 50, 51, 50, 52, 50, 53, 50, 54, 50, 55, 50, 56, 50, 57, 51, 48, 51, 49, 51, 50, 51, 51, 51, 52, 51, 53, 51, 54, 51, 55, 51, 56, 51, 57, 52, 48, 52, 49, 52, 50, 52, 51, 52, 52, 52, 53, 52, 54, 52, 55, 52, 56, 52, 57, 53, 48, 53, 49, 53, 50, 53, 51, 53, 52, 53, 53, 53, 54, 53, 55, 53, 56, 53, 57, 54, 48, 54, 49, 54, 50, 54, 51, 54, 52, 54, 53, 54, 54, 54, 55, 54, 56, 54, 57, 55, 48, 55, 49, 55, 50, 55, 51, 55, 52, 55, 53, 55, 54, 55, 55, 55, 56, 55, 57, 56, 48, 56, 49, 56, 50, 56, 51, 56, 52, 56, 53, 56, 54, 56, 55, 56, 56, 56, 57, 57, 48, 57, 49, 57, 50, 57, 51, 57, 52, 57, 53, 57, 54, 57, 55, 57, 56, 57, 57]) t11 fun (t12 : Int) =>
idxStr (ByteArray.mk #[48, 48, 48, 49, 48, 50, 48, 51, 48, 52, 48, 53, 48, 54, 48, 55, 48, 56, 48, 57, 49, 48, 49, 49, 49, 50, 49, 51, 49, 52, 49, 53, 49, 54, 49, 55, 49, 56, 49, 57, 50, 48, 50, 49, 50, 50, 50, 51, 50, 52, 50, 53, 50, 54, 50, 55, 50, 56, 50, 57, 51, 48, 51, 49, 51, 50, 51, 51, 51, 52, 51, 53, 51, 54, 51, 55, 51, 56, 51, 57, 52, 48, 52, 49, 52, 50, 52, 51, 52, 52, 52, 53, 52, 54, 52, 55, 52, 56, 52, 57, 53, 48, 53, 49, 53, 50, 53, 51, 53, 52, 53, 53, 53, 54, 53, 55, 53, 56, 53, 57, 54, 48, 54, 49, 54, 50, 54, 51, 54, 52, 54, 53, 54, 54, 54, 55, 54, 56, 54, 57, 55, 48, 55, 49, 55, 50, 55, 51, 55, 52, 55, 53, 55, 54, 55, 55, 55, 56, 55, 57, 56, 48, 56, 49, 56, 50, 56, 51, 56, 52, 56, 53, 56, 54, 56, 55, 56, 56, 56, 57, 57, 48, 57, 49, 57, 50, 57, 51, 57, 52, 57, 53, 57, 54, 57, 55, 57, 56, 57, 57]) t7 fun (t13 : Int) =>
idxS a0_a.a a0_a.len t9 1 fun (p14 : Addr) =>
((1 : Nat) = 1) ∧ (
stC hJ2 p14 (
Let (hset hJ2 p14 (.int .u8 t12)) fun (h15 : Hp) =>
idxS a0_a.a a0_a.len t10 1 fun (p16 : Addr) =>
((1 : Nat) = 1) ∧ (
stC h15 p16 (
Let (hset h15 p16 (.int .u8 t13)) fun (h17 : Hp) =>
Let (IntKind.wrap .i64 (sJ2.1 - 2) : Int) fun (t18 : Int) =>
J3 (t18, t8, ()) h17))))) (
J3 (sJ2.1, sJ2.2.1, ()) hJ2)
def J1_internal_strconv_formatBase10 (a0_a : Sl) (K : Hp → Prop) (sJ1 : Int × Int × Unit) (hJ1 : Hp) : Prop :=
Let (IntKind.wrap .u32 (sJ1.1) : Int) fun (t1 : Int) =>
Jn (J2_internal_strconv_formatBase10 a0_a K) fun (J2 : Int × Int × Unit → Hp → Prop) =>
cnd (decide (sJ1.2.1 ≥ 4)) (
Let (Int.tmod t1 10000 : Int) fun (t19 : Int) =>
Let (IntKind.wrap .u32 (Int.tdiv t1 10000) : Int) fun (t20 : Int) =>
Let (IntKind.wrap .u32 (Int.tdiv t19 100) : Int) fun (t21 : Int) =>
Let (IntKind.wrap .u32 (t21 * 2) : Int) fun (t22 : Int) =>
Let (Int.tmod t19 100 : Int) fun (t23 : Int) =>
Let (IntKind.wrap .u32 (t23 * 2) : Int) fun (t24 : Int) =>
Let (IntKind.wrap .i64 (sJ1.2.1 - 1) : Int) fun (t25 : Int) =>
Let (IntKind.wrap .i64 (sJ1.2.1 - 2) : Int) fun (t26 : Int) =>
Let (IntKind.wrap .u32 (t24 + 1) : Int) fun (t27 : Int) =>
idxStr (ByteArray.mk #[48, 48, 48, 49, 48, 50, 48, 51, 48, 52, 48, 53, 48, 54, 48, 55, 48, 56, 48, 57, 49, 48, 49, 49, 49, 50, 49, 51, 49, 52, 49, 53, 49, 54, 49, 55, 49, 56, 49, 57, 50, 48, 50, 49, 50, 50, 50, 51, 50, 52, 50, 53, 50, 54, 50, 55, 50, 56, 50, 57, 51, 48, 51, 49, 51, 50, 51, 51, 51, 52, 51, 53, 51, 54, 51, 55, 51, 56, 51, 57, 52, 48, 52, 49, 52, 50, 52, 51, 52, 52, 52, 53, 52, 54, 52, 55, 52, 56, 52, 57, 53, 48, 53, 49, 53, 50, 53, 51, 53, 52, 53, 53, 53, 54, 53, 55, 53, 56, 53, 57, 54, 48, 54, 49, 54, 50, 54, 51, 54, 52, 54, 53, 54, 54, 54, 55, 54, 56, 54, 57, 55, 48, 55, 49, 55, 50, 55, 51, 55, 52, 55, 53, 55, 54, 55, 55, 55, 56, 55, 57, 56, 48, 56, 49, 56, 50, 56, 51, 56, 52, 56, 53, 56, 54, 56, 55, 56, 56, 56, 57, 57, 48, 57, 49, 57, 50, 57, 51, 57, 52, 57, 53, 57, 54, 57, 55, 57, 56, 57, 57]) t27 fun (t28 : Int) =>
idxStr (ByteArray.mk #[48, 48, 48, 49, 48, 50, 48, 51, 48, 52, 48, 53, 48, 54, 48, 55, 48, 56, 48, 57, 49, 48, 49, 49, 49, 50, 49, 51, 49, 52, 49, 53, 49, 54, 49, 55, 49, 56, 49, 57, 50, 48, 50, 49, 50, 50, 50, 51, 50, 52, 50, 53, 50, 54, 50, 55, 50, 56, 50, 57, 51, 48, 51, 49, 51, 50, 51, 51, 51, 52, 51, 53, 51, 54, 51, 55, 51, 56, 51, 57, 52, 48, 52, 49, 52, 50, 52, 51, 52, 52, 52, 53, 52, 54, 52, 55, 52, 56, 52, 57, 53, 48, 53, 49, 53, 50, 53, 51, 53, 52, 53, 53, 53, 54, 53, 55, 53, 56, 53, 57, 54, 48, 54, 49, 54, 50, 54, 51, 54, 52, 54, 53, 54, 54, 54, 55, 54, 56, 54, 57, 55, 48, 55, 49, 55, 50, 55, 51, 55, 52, 55, 53, 55, 54, 55, 55, 55, 56, 55, 57, 56, 48, 56, 49, 56, 50, 56, 51, 56, 52, 56, 53, 56, 54, 56, 55, 56, 56, 56, 57, 57, 48, 57, 49, 57, 50, 57, 51, 57, 52, 57, 53, 57, 54, 57, 55, 57, 56, 57, 57]) t24 fun (t29 : Int) =>
idxS a0_a.a a0_a.len t25 1 fun (p30 : Addr) =>
((1 : Nat) = 1) ∧ (
stC hJ1 p30 (
Let (hset hJ1 p30 (.int .u8 t28)) fun (h31 : Hp) =>
idxS a0_a.a a0_a.len t26 1 fun (p32 : Addr) =>
((1 : Nat) = 1) ∧ (
stC h31 p32 (
Let (hset h31 p32 (.int .u8 t29)) fun (h33 : Hp) =>
Let (IntKind.wrap .i64 (sJ1.2.1 - 3) : Int) fun (t34 : Int) =>
Let (IntKind.wrap .i64 (sJ1.2.1 - 4) : Int) fun (t35 : Int) =>
Let (IntKind.wrap .u32 (t22 + 1) : Int) fun (t36 : Int) =>
idxStr (ByteArray.mk #[48, 48, 48, 49, 48, 50, 48, 51, 48, 52, 48, 53, 48, 54, 48, 55, 48, 56, 48, 57, 49, 48, 49, 49, 49, 50, 49, 51, 49, 52, 49, 53, 49, 54, 49, 55, 49, 56, 49, 57, 50, 48, 50, 49, 50, 50, 50, 51, 50, 52, 50, 53, 50, 54, 50, 55, 50, 56, 50, 57, 51, 48, 51, 49, 51, 50, 51, 51, 51, 52, 51, 53, 51, 54, 51, 55, 51, 56, 51, 57, 52, 48, 52, 49, 52, 50, 52, 51, 52, 52, 52, 53, 52, 54, 52, 55, 52, 56, 52, 57, 53, 48, 53, 49, 53, 50, 53, 51, 53, 52, 53, 53, 53, 54, 53, 55, 53, 56, 53, 57, 54, 48, 54, 49, 54, 50, 54, 51, 54, 52, 54, 53, 54, 54, 54, 55, 54, 56, 54, 57, 55, 48, 55, 49, 55, 50, 55, 51, 55, 52, 55, 53, 55, 54, 55, 55, 55, 56, 55, 57, 56, 48, 56, 49, 56, 50, 56, 51, 56, 52, 56, 53, 56, 54, 56, 55, 56, 56, 56, 57, 57, 48, 57, 49, 57, 50, 57, 51, 57, 52, 57, 53, 57, 54, 57, 55, 57, 56, 57, 57]) t36 fun (t37 : Int) =>
idxStr (ByteArray.mk #[48, 48, 48, 49, 48, 50, 48, 51, 48, 52, 48, 53, 48, 54, 48, 55, 48, 56, 48, 57, 49, 48, 49, 49, 49, 50, 49, 51, 49, 52, 49, 53, 49, 54, 49, 55, 49, 56, 49, 57, 50, 48, 50, 49, 50, 50, 50, 51, 50, 52, 50, 53, 50, 54, 50, 55, 50, 56, 50, 57, 51, 48, 51, 49, 51, 50, 51, 51, 51, 52, 51, 53, 51, 54, 51, 55, 51, 56, 51, 57, 52, 48, 52, 49, 52, 50, 52, 51, 52, 52, 52, 53, 52, 54, 52, 55, 52, 56, 52, 57, 53, 48, 53, 49, 53, 50, 53, 51, 53, 52, 53, 53, 53, 54, 53, 55, 53, 56, 53, 57, 54, 48, 54, 49, 54, 50, 54, 51, 54, 52, 54, 53, 54, 54, 54, 55, 54, 56, 54, 57, 55, 48, 55, 49, 55, 50, 55, 51, 55, 52, 55, 53, 55, 54, 55, 55, 55, 56, 55, 57, 56, 48, 56, 49, 56, 50, 56, 51, 56, 52, 56, 53, 56, 54, 56, 55, 56, 56, 56, 57, 57, 48, 57, 49, 57, 50, 57, 51, 57, 52, 57, 53, 57, 54, 57, 55, 57, 56, 57, 57]) t22 fun (t38 : Int) =>
idxS a0_a.a a0_a.len t34 1 fun (p39 : Addr) =>
((1 : Nat) = 1) ∧ (
stC h33 p39 (
Let (hset h33 p39 (.int .u8 t37)) fun (h40 : Hp) =>
idxS a0_a.a a0_a.len t35 1 fun (p41 : Addr) =>
((1 : Nat) = 1) ∧ (
stC h40 p41 (
Let (hset h40 p41 (.int .u8 t38)) fun (h42 : Hp) =>
Let (IntKind.wrap .i64 (sJ1.2.1 - 4) : Int) fun (t43 : Int) =>
J2 (t43, t20, ()) h42))))))))) (
J2 (sJ1.2.1, t1, ()) hJ1)
def L1_internal_strconv_formatBase10 (a0_a : Sl) (J1 : Int × Int × Unit → Hp → Prop) (sL1 : (Int × Int × Unit) × Hp) (R1 : (Int × Int × Unit) × Hp → Prop) : Prop :=
cnd (decide (sL1.1.2.1 ≥ 8)) (
(100000000 ≠ (0 : Int)) ∧ (
Let (Int.tmod sL1.1.1 100000000 : Int) fun (t44 : Int) =>
Let (IntKind.wrap .u32 (t44) : Int) fun (t45 : Int) =>
(100000000 ≠ (0 : Int)) ∧ (
Let (IntKind.wrap .u64 (Int.tdiv sL1.1.1 100000000) : Int) fun (t46 : Int) =>
Let (IntKind.wrap .u32 (Int.tdiv t45 10000) : Int) fun (t47 : Int) =>
Let (Int.tmod t45 10000 : Int) fun (t48 : Int) =>
Let (IntKind.wrap .u32 (Int.tdiv t48 100) : Int) fun (t49 : Int) =>
Let (IntKind.wrap .u32 (t49 * 2) : Int) fun (t50 : Int) =>
Let (Int.tmod t48 100 : Int) fun (t51 : Int) =>
Let (IntKind.wrap .u32 (t51 * 2) : Int) fun (t52 : Int) =>
Let (IntKind.wrap .u32 (Int.tdiv t47 100) : Int) fun (t53 : Int) =>
Let (IntKind.wrap .u32 (t53 * 2) : Int) fun (t54 : Int) =>
Let (Int.tmod t47 100 : Int) fun (t55 : Int) =>
Let (IntKind.wrap .u32 (t55 * 2) : Int) fun (t56 : Int) =>
Let (IntKind.wrap .i64 (sL1.1.2.1 - 1) : Int) fun (t57 : Int) =>
Let (IntKind.wrap .i64 (sL1.1.2.1 - 2) : Int) fun (t58 : Int) =>
Let (IntKind.wrap .u32 (t52 + 1) : Int) fun (t59 : Int) =>
idxStr (ByteArray.mk #[48, 48, 48, 49, 48, 50, 48, 51, 48, 52, 48, 53, 48, 54, 48, 55, 48, 56, 48, 57, 49, 48, 49, 49, 49, 50, 49, 51, 49, 52, 49, 53, 49, 54, 49, 55, 49, 56, 49, 57, 50, 48, 50, 49, 50, 50, 50, 51, 50, 52, 50, 53, 50, 54, 50, 55, 50, 56, 50, 57, 51, 48, 51, 49, 51, 50, 51, 51, 51, 52, 51, 53, 51, 54, 51, 55, 51, 56, 51, 57, 52, 48, 52, 49, 52, 50, 52, 51, 52, 52, 52, 53, 52, 54, 52, 55, 52, 56, 52, 57, 53, 48, 53, 49, 53, 50, 53, 51, 53, 52, 53, 53, 53, 54, 53, 55, 53, 56, 53, 57, 54, 48, 54, 49, 54, 50, 54, 51, 54, 52, 54, 53, 54, 54, 54, 55, 54, 56, 54, 57, 55, 48, 55, 49, 55, 50, 55, 51, 55, 52, 55, 53, 55, 54, 55, 55, 55, 56, 55, 57, 56, 48, 56, 49, 56, 50, 56, 51, 56, 52, 56, 53, 56, 54, 56, 55, 56, 56, 56, 57, 57, 48, 57, 49, 57, 50, 57, 51, 57, 52, 57, 53, 57, 54, 57, 55, 57, 56, 57, 57]) t59 fun (t60 : Int) =>
idxStr (ByteArray.mk #[48, 48, 48, 49, 48, 50, 48, 51, 48, 52, 48, 53, 48, 54, 48, 55, 48, 56, 48, 57, 49, 48, 49, 49, 49, 50, 49, 51, 49, 52, 49, 53, 49, 54, 49, 55, 49, 56, 49, 57, 50, 48, 50, 49, 50, 50, 50, 51, 50, 52, 50, 53, 50, 54, 50, 55, 50, 56, 50, 57, 51, 48, 51, 49, 51, 50, 51, 51, 51, 52, 51, 53, 51, 54, 51, 55, 51, 56, 51, 57, 52, 48, 52, 49, 52, 50, 52, 51, 52, 52, 52, 53, 52, 54, 52, 55, 52, 56, 52, 57, 53, 48, 53, 49, 53, 50, 53, 51, 53, 52, 53, 53, 53, 54, 53, 55, 53, 56, 53, 57, 54, 48, 54, 49, 54, 50, 54, 51, 54, 52, 54, 53, 54, 54, 54, 55, 54, 56, 54, 57, 55, 48, 55, 49, 55, 50, 55, 51, 55, 52, 55, 53, 55, 54, 55, 55, 55, 56, 55, 57, 56, 48, 56, 49, 56, 50, 56, 51, 56, 52, 56, 53, 56, 54, 56, 55, 56, 56, 56, 57, 57, 48, 57, 49, 57, 50, 57, 51, 57, 52, 57, 53, 57, 54, 57, 55, 57, 56, 57, 57]) t52 fun (t61 : Int) =>
idxS a0_a.a a0_a.len t57 1 fun (p62 : Addr) =>
((1 : Nat) = 1) ∧ (
stC sL1.2 p62 (
Let (hset sL1.2 p62 (.int .u8 t60)) fun (h63 : Hp) =>
idxS a0_a.a a0_a.len t58 1 fun (p64 : Addr) =>
((1 : Nat) = 1) ∧ (
stC h63 p64 (
Let (hset h63 p64 (.int .u8 t61)) fun (h65 : Hp) =>
Let (IntKind.wrap .i64 (sL1.1.2.1 - 3) : Int) fun (t66 : Int) =>
Let (IntKind.wrap .i64 (sL1.1.2.1 - 4) : Int) fun (t67 : Int) =>
Let (IntKind.wrap .u32 (t50 + 1) : Int) fun (t68 : Int) =>
idxStr (ByteArray.mk #[48, 48, 48, 49, 48, 50, 48, 51, 48, 52, 48, 53, 48, 54, 48, 55, 48, 56, 48, 57, 49, 48, 49, 49, 49, 50, 49, 51, 49, 52, 49, 53, 49, 54, 49, 55, 49, 56, 49, 57, 50, 48, 50, 49, 50, 50, 50, 51, 50, 52, 50, 53, 50, 54, 50, 55, 50, 56, 50, 57, 51, 48, 51, 49, 51, 50, 51, 51, 51, 52, 51, 53, 51, 54, 51, 55, 51, 56, 51, 57, 52, 48, 52, 49, 52, 50, 52, 51, 52, 52, 52, 53, 52, 54, 52, 55, 52, 56, 52, 57, 53, 48, 53, 49, 53, 50, 53, 51, 53, 52, 53, 53, 53, 54, 53, 55, 53, 56, 53, 57, 54, 48, 54, 49, 54, 50, 54, 51, 54, 52, 54, 53, 54, 54, 54, 55, 54, 56, 54, 57, 55, 48, 55, 49, 55, 50, 55, 51, 55, 52, 55, 53, 55, 54, 55, 55, 55, 56, 55, 57, 56, 48, 56, 49, 56, 50, 56, 51, 56, 52, 56, 53, 56, 54, 56, 55, 56, 56, 56, 57, 57, 48, 57, 49, 57, 50, 57, 51, 57, 52, 57, 53, 57, 54, 57, 55, 57, 56, 57, 57]) t68 fun (t69 : Int) =>
idxStr (ByteArray.mk #[48, 48, 48, 49, 48, 50, 48, 51, 48, 52, 48, 53, 48, 54, 48, 55, 48, 56, 48, 57, 49, 48, 49, 49, 49, 50, 49, 51, 49, 52, 49, 53, 49, 54, 49, 55, 49, 56, 49, 57, 50, 48, 50, 49, 50, 50, 50, 51, 50, 52, 50, 53, 50, 54, 50, 55, 50, 56, 50, 57, 51, 48, 51, 49, 51, 50, 51, 51, 51, 52, 51, 53, 51, 54, 51, 55, 51, 56, 51, 57, 52, 48, 52, 49, 52, 50, 52, 51, 52, 52, 52, 53, 52, 54, 52, 55, 52, 56, 52, 57, 53, 48, 53, 49, 53, 50, 53, 51, 53, 52, 53, 53, 53, 54, 53, 55, 53, 56, 53, 57, 54, 48, 54, 49, 54, 50, 54, 51, 54, 52, 54, 53, 54, 54, 54, 55, 54, 56, 54, 57, 55, 48, 55, 49, 55, 50, 55, 51, 55, 52, 55, 53, 55, 54, 55, 55, 55, 56, 55, 57, 56, 48, 56, 49, 56, 50, 56, 51, 56, 52, 56, 53, 56, 54, 56, 55, 56, 56, 56, 57, 57, 48, 57, 49, 57, 50, 57, 51, 57, 52, 57, 53, 57, 54, 57, 55, 57, 56, 57, 57]) t50 fun (t70 : Int) =>
idxS a0_a.a a0_a.len t66 1 fun (p71 : Addr) =>
((1 : Nat) = 1) ∧ (
stC h65 p71 (
Let (hset h65 p71 (.int .u8 t69)) fun (h72 : Hp) =>
idxS a0_a.a a0_a.len t67 1 fun (p73 : Addr) =>
((1 : Nat) = 1) ∧ (
stC h72 p73 (
Let (hset h72 p73 (.int .u8 t70)) fun (h74 : Hp) =>
Let (IntKind.wrap .i64 (sL1.1.2.1 - 5) : Int) fun (t75 : Int) =>
Let (IntKind.wrap .i64 (sL1.1.2.1 - 6) : Int) fun (t76 : Int) =>
Let (IntKind.wrap .u32 (t56 + 1) : Int) fun (t77 : Int) =>
idxStr (ByteArray.mk #[48, 48, 48, 49, 48, 50, 48, 51, 48, 52, 48, 53, 48, 54, 48, 55, 48, 56, 48, 57, 49, 48, 49, 49, 49, 50, 49, 51, 49, 52, 49, 53, 49, 54, 49, 55, 49, 56, 49, 57, 50, 48, 50, 49, 50, 50, 50, 51, 50, 52, 50, 53, 50, 54, 50, 55, 50, 56, 50, 57, 51, 48, 51, 49, 51, 50, 51, 51, 51, 52, 51, 53, 51, 54, 51, 55, 51, 56, 51, 57, 52, 48, 52, 49, 52, 50, 52, 51, 52, 52, 52, 53, 52, 54, 52, 55, 52, 56, 52, 57, 53, 48, 53, 49, 53, 50, 53, 51, 53, 52, 53, 53, 53, 54, 53, 55, 53, 56, 53, 57, 54, 48, 54, 49, 54, 50, 54, 51, 54, 52, 54, 53, 54, 54, 54, 55, 54, 56, 54, 57, 55, 48, 55, 49, 55, 50, 55, 51, 55, 52, 55, 53, 55, 54, 55, 55, 55, 56, 55, 57, 56, 48, 56, 49, 56, 50, 56, 51, 56, 52, 56, 53, 56, 54, 56, 55, 56, 56, 56, 57, 57, 48, 57, 49, 57, 50, 57, 51, 57, 52, 57, 53, 57, 54, 57, 55, 57, 56, 57, 57]) t77 fun (t78 : Int) =>
idxStr (ByteArray.mk #[48, 48, 48, 49, 48, 50, 48, 51, 48, 52, 48, 53, 48, 54, 48, 55, 48, 56, 48, 57, 49, 48, 49, 49, 49, 50, 49, 51, 49, 52, 49, 53, 49, 54, 49, 55, 49, 56, 49, 57, 50, 48, 50, 49, 50, 50, 50, 51, 50, 52, 50, 53, 50, 54, 50, 55, 50, 56, 50, 57, 51, 48, 51, 49, 51, 50, 51, 51, 51, 52, 51, 53, 51, 54, 51, 55, 51, 56, 51, 57, 52, 48, 52, 49, 52, 50, 52, 51, 52, 52, 52, 53, 52, 54, 52, 55, 52, 56, 52, 57, 53, 48, 53, 49, 53, 50, 53, 51, 53, 52, 53, 53, 53, 54, 53, 55, 53, 56, 53, 57, 54, 48, 54, 49, 54, 50, 54, 51, 54, 52, 54, 53, 54, 54, 54, 55, 54, 56, 54, 57, 55, 48, 55, 49, 55, 50, 55, 51, 55, 52, 55, 53, 55, 54, 55, 55, 55, 56, 55, 57, 56, 48, 56, 49, 56, 50, 56, 51, 56, 52, 56, 53, 56, 54, 56, 55, 56, 56, 56, 57, 57, 48, 57, 49, 57, 50, 57, 51, 57, 52, 57, 53, 57, 54, 57, 55, 57, 56, 57, 57]) t56 fun (t79 : Int) =>
idxS a0_a.a a0_a.len t75 1 fun (p80 : Addr) =>
((1 : Nat) = 1) ∧ (
stC h74 p80 (
Let (hset h74 p80 (.int .u8 t78)) fun (h81 : Hp) =>
idxS a0_a.a a0_a.len t76 1 fun (p82 : Addr) =>
((1 : Nat) = 1) ∧ (
stC h81 p82 (
Let (hset h81 p82 (.int .u8 t79)) fun (h83 : Hp) =>
Let (IntKind.wrap .i64 (sL1.1.2.1 - 7) : Int) fun (t84 : Int) =>
Let (IntKind.wrap .i64 (sL1.1.2.1 - 8) : Int) fun (t85 : Int) =>
Let (IntKind.wrap .u32 (t54 + 1) : Int) fun (t86 : Int) =>
idxStr (ByteArray.mk #[48, 48, 48, 49, 48, 50, 48, 51, 48, 52, 48, 53, 48, 54, 48, 55, 48, 56, 48, 57, 49, 48, 49, 49, 49, 50, 49, 51, 49, 52, 49, 53, 49, 54, 49, 55, 49, 56, 49, 57, 50, 48, 50, 49, 50, 50, 50, 51, 50, 52, 50, 53, 50, 54, 50, 55, 50, 56, 50, 57, 51, 48, 51, 49, 51, 50, 51, 51, 51, 52, 51, 53, 51, 54, 51, 55, 51, 56, 51, 57, 52, 48, 52, 49, 52, 50, 52, 51, 52, 52, 52, 53, 52, 54, 52, 55, 52, 56, 52, 57, 53, 48, 53, 49, 53, 50, 53, 51, 53, 52, 53, 53, 53, 54, 53, 55, 53, 56, 53, 57, 54, 48, 54, 49, 54, 50, 54, 51, 54, 52, 54, 53, 54, 54, 54, 55, 54, 56, 54, 57, 55, 48, 55, 49, 55, 50, 55, 51, 55, 52, 55, 53, 55, 54, 55, 55, 55, 56, 55, 57, 56, 48, 56, 49, 56, 50, 56, 51, 56, 52, 56, 53, 56, 54, 56, 55, 56, 56, 56, 57, 57, 48, 57, 49, 57, 50, 57, 51, 57, 52, 57, 53, 57, 54, 57, 55, 57, 56, 57, 57]) t86 fun (t87 : Int) =>
idxStr (ByteArray.mk #[48, 48, 48, 49, 48, 50, 48, 51, 48, 52, 48, 53, 48, 54, 48, 55, 48, 56, 48, 57, 49, 48, 49, 49, 49, 50, 49, 51, 49, 52, 49, 53, 49, 54, 49, 55, 49, 56, 49, 57, 50, 48, 50, 49, 50, 50, 50, 51, 50, 52, 50, 53, 50, 54, 50, 55, 50, 56, 50, 57, 51, 48, 51, 49, 51, 50, 51, 51, 51, 52, 51, 53, 51, 54, 51, 55, 51, 56, 51, 57, 52, 48, 52, 49, 52, 50, 52, 51, 52, 52, 52, 53, 52, 54, 52, 55, 52, 56, 52, 57, 53, 48, 53, 49, 53, 50, 53, 51, 53, 52, 53, 53, 53, 54, 53, 55, 53, 56, 53, 57, 54, 48, 54, 49, 54, 50, 54, 51, 54, 52, 54, 53, 54, 54, 54, 55, 54, 56, 54, 57, 55, 48, 55, 49, 55, 50, 55, 51, 55, 52, 55, 53, 55, 54, 55, 55, 55, 56, 55, 57, 56, 48, 56, 49, 56, 50, 56, 51, 56, 52, 56, 53, 56, 54, 56, 55, 56, 56, 56, 57, 57, 48, 57, 49, 57, 50, 57, 51, 57, 52, 57, 53, 57, 54, 57, 55, 57, 56, 57, 57]) t54 fun (t88 : Int) =>
idxS a0_a.a a0_a.len t84 1 fun (p89 : Addr) =>
((1 : Nat) = 1) ∧ (
stC h83 p89 (
Let (hset h83 p89 (.int .u8 t87)) fun (h90 : Hp) =>
idxS a0_a.a a0_a.len t85 1 fun (p91 : Addr) =>
((1 : Nat) = 1) ∧ (
stC h90 p91 (
Let (hset h90 p91 (.int .u8 t88)) fun (h92 : Hp) =>
Let (IntKind.wrap .i64 (sL1.1.2.1 - 8) : Int) fun (t93 : Int) =>
R1 ((t46, t93, ()), h92)))))))))))))))))))) (
J1 (sL1.1.1, sL1.1.2.1, ()) sL1.2)
def F_internal_strconv_formatBase10 (a0_a : Sl) (a1_u : Int) (h : Hp) (K : Hp → Prop) : Prop :=
Jn (J1_internal_strconv_formatBase10 a0_a K) fun (J1 : Int × Int × Unit → Hp → Prop) =>
∃ n, Lp (L1_internal_strconv_formatBase10 a0_a J1) n ((a1_u, (a0_a.len : Int), ()), h)

theorem F_internal_strconv_formatBase10_ok (a0_a : Sl) (a1_u : Int) (h : Hp) (K : Hp → Prop) (hF : F_internal_strconv_formatBase10 a0_a a1_u h K) : C_internal_strconv_formatBase10 a0_a a1_u h K := by
  have e : bodyVC Tryd.prog Tryd.f38 (.seq .no (.join [(1, .at (.int .u64)), (4, .at (.int .i64))] (.block (.loop [(1, .at (.int .u64)), (4, .at (.int .i64))] (.seq (.seq .no (.cond .no .no)) (.block (.seq .no (.seq .no (.seq .no (.seq .no (.seq .no (.seq .no (.seq .no (.seq .no (.seq .no .no))))))))))))) (.seq .no (.join [(4, .at (.int .i64)), (12, .at (.int .u32))] (.seq .no (.cond (.seq .no (.seq .no (.seq .no (.seq .no (.seq .no .no))))) .no)) (.join [(4, .at (.int .i64)), (12, .at (.int .u32))] (.seq .no (.cond (.seq .no (.seq .no (.seq .no .no))) .no)) (.seq .no (.cond .no .no))))))) (Option.getD Tryd.f38.body .skip) [.slice a0_a.a a0_a.len a0_a.cap, .int .u64 a1_u] h [] (fun s h => K h) = F_internal_strconv_formatBase10 a0_a a1_u h K := by kernel_rfl
  exact fun_sound mixed Tryd.func38 rfl (e.mpr hF)

def J4_internal_strconv_formatBits (a0_dst : Sl) (a4_append : Bool) (K : Sl → ByteArray → Hp → Prop) (p2 : Addr) (sJ4 : Int × Unit) (hJ4 : Hp) : Prop :=
cnd a4_append (
slcS (some p2) 65 65 (some sJ4.1) none 1 fun (t3 : Option Addr) (l4 c5 : Nat) =>
appS 5 1 1 [.int .u8 0] a0_dst.a a0_dst.len a0_dst.cap (.slice t3 l4 c5) hJ4 fun (t6 : Sl) (h7 : Hp) =>
K t6 (ByteArray.mk #[]) h7) (
slcS (some p2) 65 65 (some sJ4.1) none 1 fun (t8 : Option Addr) (l9 c10 : Nat) =>
btS hJ4 t8 l9 fun (t11 : ByteArray) =>
K (Sl.mk none 0 0) t11 hJ4)
def J3_internal_strconv_formatBits (a0_dst : Sl) (a3_neg : Bool) (a4_append : Bool) (K : Sl → ByteArray → Hp → Prop) (p2 : Addr) (sJ3 : Int × Unit) (hJ3 : Hp) : Prop :=
Jn (J4_internal_strconv_formatBits a0_dst a4_append K p2) fun (J4 : Int × Unit → Hp → Prop) =>
cnd a3_neg (
Let (IntKind.wrap .i64 (sJ3.1 - 1) : Int) fun (t12 : Int) =>
idxS (some p2) 65 t12 1 fun (p13 : Addr) =>
((1 : Nat) = 1) ∧ (
stC hJ3 p13 (
Let (hset hJ3 p13 (.int .u8 45)) fun (h14 : Hp) =>
J4 (t12, ()) h14))) (
J4 (sJ3.1, ()) hJ3)
def J5_internal_strconv_formatBits (p2 : Addr) (J3 : Int × Unit → Hp → Prop) (sJ5 : Int × Int × Unit) (hJ5 : Hp) : Prop :=
Let (IntKind.wrap .i64 (sJ5.2.1 - 1) : Int) fun (t24 : Int) =>
idxStr (ByteArray.mk #[48, 49, 50, 51, 52, 53, 54, 55, 56, 57, 97, 98, 99, 100, 101, 102, 103, 104, 105, 106, 107, 108, 109, 110, 111, 112, 113, 114, 115, 116, 117, 118, 119, 120, 121, 122]) sJ5.1 fun (t25 : Int) =>
idxS (some p2) 65 t24 1 fun (p26 : Addr) =>
((1 : Nat) = 1) ∧ (
stC hJ5 p26 (
Let (hset hJ5 p26 (.int .u8 t25)) fun (h27 : Hp) =>
J3 (t24, ()) h27))
def L1_internal_strconv_formatBits (p2 : Addr) (t20 : Int) (t21 : Int) (t23 : Int) (J5 : Int × Int × Unit → Hp → Prop) (sL1 : (Int × Int × Unit) × Hp) (R1 : (Int × Int × Unit) × Hp → Prop) : Prop :=
cnd (decide (sL1.1.1 ≥ t21)) (
Let (IntKind.wrap .i64 (sL1.1.2.1 - 1) : Int) fun (t28 : Int) =>
Let (ibAnd .u64 sL1.1.1 t23 : Int) fun (t29 : Int) =>
idxStr (ByteArray.mk #[48, 49, 50, 51, 52, 53, 54, 55, 56, 57, 97, 98, 99, 100, 101, 102, 103, 104, 105, 106, 107, 108, 109, 110, 111, 112, 113, 114, 115, 116, 117, 118, 119, 120, 121, 122]) t29 fun (t30 : Int) =>
idxS (some p2) 65 t28 1 fun (p31 : Addr) =>
((1 : Nat) = 1) ∧ (
stC sL1.2 p31 (
Let (hset sL1.2 p31 (.int .u8 t30)) fun (h32 : Hp) =>
((0 : Int) ≤ t20) ∧ (
Let (Int.fdiv sL1.1.1 (2 ^ min (Int.toNat t20) (IntKind.bits .u64)) : Int) fun (t33 : Int) =>
R1 ((t33, t28, ()), h32))))) (
J5 (sL1.1.1, sL1.1.2.1, ()) sL1.2)
def J6_internal_strconv_formatBits (p2 : Addr) (J3 : Int × Unit → Hp → Prop) (sJ6 : Int × Int × Unit) (hJ6 : Hp) : Prop :=
Let (IntKind.wrap .i64 (sJ6.2.1 - 1) : Int) fun (t35 : Int) =>
idxStr (ByteArray.mk #[48, 49, 50, 51, 52, 53, 54, 55, 56, 57, 97, 98, 99, 100, 101, 102, 103, 104, 105, 106, 107, 108, 109, 110, 111, 112, 113, 114, 115, 116, 117, 118, 119, 120, 121, 122]) sJ6.1 fun (t36 : Int) =>
idxS (some p2) 65 t35 1 fun (p37 : Addr) =>
((1 : Nat) = 1) ∧ (
stC hJ6 p37 (
Let (hset hJ6 p37 (.int .u8 t36)) fun (h38 : Hp) =>
J3 (t35, ()) h38))
def L2_internal_strconv_formatBits (p2 : Addr) (t34 : Int) (J6 : Int × Int × Unit → Hp → Prop) (sL2 : (Int × Int × Unit) × Hp) (R2 : (Int × Int × Unit) × Hp → Prop) : Prop :=
cnd (decide (sL2.1.1 ≥ t34)) (
Let (IntKind.wrap .i64 (sL2.1.2.1 - 1) : Int) fun (t39 : Int) =>
(t34 ≠ (0 : Int)) ∧ (
Let (IntKind.wrap .u64 (Int.tdiv sL2.1.1 t34) : Int) fun (t40 : Int) =>
Let (IntKind.wrap .u64 (t40 * t34) : Int) fun (t41 : Int) =>
Let (IntKind.wrap .u64 (sL2.1.1 - t41) : Int) fun (t42 : Int) =>
idxStr (ByteArray.mk #[48, 49, 50, 51, 52, 53, 54, 55, 56, 57, 97, 98, 99, 100, 101, 102, 103, 104, 105, 106, 107, 108, 109, 110, 111, 112, 113, 114, 115, 116, 117, 118, 119, 120, 121, 122]) t42 fun (t43 : Int) =>
idxS (some p2) 65 t39 1 fun (p44 : Addr) =>
((1 : Nat) = 1) ∧ (
stC sL2.2 p44 (
Let (hset sL2.2 p44 (.int .u8 t43)) fun (h45 : Hp) =>
R2 ((t40, t39, ()), h45))))) (
J6 (sL2.1.1, sL2.1.2.1, ()) sL2.2)
def J2_internal_strconv_formatBits (a0_dst : Sl) (a2_base : Int) (a3_neg : Bool) (a4_append : Bool) (K : Sl → ByteArray → Hp → Prop) (p2 : Addr) (sJ2 : Int × Unit) (hJ2 : Hp) : Prop :=
Jn (J3_internal_strconv_formatBits a0_dst a3_neg a4_append K p2) fun (J3 : Int × Unit → Hp → Prop) =>
C_internal_strconv_isPowerOfTwo a2_base hJ2 fun (t15 : Bool) (h16 : Hp) =>
cnd t15 (
Let (IntKind.wrap .u64 (a2_base) : Int) fun (t17 : Int) =>
C_math_bits_TrailingZeros t17 h16 fun (t18 : Int) (h19 : Hp) =>
Let (IntKind.wrap .u64 (t18) : Int) fun (t20 : Int) =>
Let (IntKind.wrap .u64 (a2_base) : Int) fun (t21 : Int) =>
Let (IntKind.wrap .u64 (a2_base) : Int) fun (t22 : Int) =>
Let (IntKind.wrap .u64 (t22 - 1) : Int) fun (t23 : Int) =>
Jn (J5_internal_strconv_formatBits p2 J3) fun (J5 : Int × Int × Unit → Hp → Prop) =>
∃ n, Lp (L1_internal_strconv_formatBits p2 t20 t21 t23 J5) n ((sJ2.1, 65, ()), h19)) (
Let (IntKind.wrap .u64 (a2_base) : Int) fun (t34 : Int) =>
Jn (J6_internal_strconv_formatBits p2 J3) fun (J6 : Int × Int × Unit → Hp → Prop) =>
∃ n, Lp (L2_internal_strconv_formatBits p2 t34 J6) n ((sJ2.1, 65, ()), h16))
def J1_internal_strconv_formatBits (a0_dst : Sl) (a1_u : Int) (a2_base : Int) (a3_neg : Bool) (a4_append : Bool) (K : Sl → ByteArray → Hp → Prop) (sJ1 : Unit) (hJ1 : Hp) : Prop :=
Let (Array.push hJ1 (Obj.cells #[.int .u8 0, .int .u8 0, .int .u8 0, .int .u8 0, .int .u8 0, .int .u8 0, .int .u8 0, .int .u8 0, .int .u8 0, .int .u8 0, .int .u8 0, .int .u8 0, .int .u8 0, .int .u8 0, .int .u8 0, .int .u8 0, .int .u8 0, .int .u8 0, .int .u8 0, .int .u8 0, .int .u8 0, .int .u8 0, .int .u8 0, .int .u8 0, .int .u8 0, .int .u8 0, .int .u8 0, .int .u8 0, .int .u8 0, .int .u8 0, .int .u8 0, .int .u8 0, .int .u8 0, .int .u8 0, .int .u8 0, .int .u8 0, .int .u8 0, .int .u8 0, .int .u8 0, .int .u8 0, .int .u8 0, .int .u8 0, .int .u8 0, .int .u8 0, .int .u8 0, .int .u8 0, .int .u8 0, .int .u8 0, .int .u8 0, .int .u8 0, .int .u8 0, .int .u8 0, .int .u8 0, .int .u8 0, .int .u8 0, .int .u8 0, .int .u8 0, .int .u8 0, .int .u8 0, .int .u8 0, .int .u8 0, .int .u8 0, .int .u8 0, .int .u8 0, .int .u8 0] 100)) fun (h1 : Hp) =>
Let (Addr.mk (Array.size hJ1) 0 none) fun (p2 : Addr) =>
Jn (J2_internal_strconv_formatBits a0_dst a2_base a3_neg a4_append K p2) fun (J2 : Int × Unit → Hp → Prop) =>
cnd a3_neg (
Let (IntKind.wrap .u64 (0 - a1_u) : Int) fun (t46 : Int) =>
J2 (t46, ()) h1) (
J2 (a1_u, ()) h1)
def J7_internal_strconv_formatBits (J1 : Unit → Hp → Prop) (sJ7 : Bool × Unit) (hJ7 : Hp) : Prop :=
cnd sJ7.1 (
False) (
J1 (()) hJ7)
def F_internal_strconv_formatBits (a0_dst : Sl) (a1_u : Int) (a2_base : Int) (a3_neg : Bool) (a4_append : Bool) (h : Hp) (K : Sl → ByteArray → Hp → Prop) : Prop :=
Jn (J1_internal_strconv_formatBits a0_dst a1_u a2_base a3_neg a4_append K) fun (J1 : Unit → Hp → Prop) =>
Jn (J7_internal_strconv_formatBits J1) fun (J7 : Bool × Unit → Hp → Prop) =>
cnd (decide (a2_base < 2)) (
J7 (true, ()) h) (
cnd (a2_base == 10) (
J7 (true, ()) h) (
J7 (decide (a2_base > 36), ()) h))

theorem F_internal_strconv_formatBits_ok (a0_dst : Sl) (a1_u : Int) (a2_base : Int) (a3_neg : Bool) (a4_append : Bool) (h : Hp) (K : Sl → ByteArray → Hp → Prop) (hF : F_internal_strconv_formatBits a0_dst a1_u a2_base a3_neg a4_append h K) : C_internal_strconv_formatBits a0_dst a1_u a2_base a3_neg a4_append h K := by
  have e : bodyVC Tryd.prog Tryd.f39 (.seq .no (.join [] (.join [(28, .at .bool)] .no (.cond .no .no)) (.seq .no (.seq .no (.join [(1, .at (.int .u64))] (.seq .no (.cond .no .no)) (.join [(13, .at (.int .i64))] (.seq .no (.cond (.seq .no (.seq .no (.seq .no (.join [(1, .at (.int .u64)), (13, .at (.int .i64))] (.block (.loop [(1, .at (.int .u64)), (13, .at (.int .i64))] (.seq (.seq .no (.cond .no .no)) (.block (.seq .no (.seq .no .no)))))) (.seq .no .no))))) (.seq .no (.join [(1, .at (.int .u64)), (13, .at (.int .i64))] (.block (.loop [(1, .at (.int .u64)), (13, .at (.int .i64))] (.seq (.seq .no (.cond .no .no)) (.block (.seq .no (.seq .no (.seq .no .no))))))) (.seq .no .no))))) (.join [(13, .at (.int .i64))] (.seq .no (.cond (.seq .no .no) .no)) (.seq (.seq .no (.cond (.seq .no .no) .no)) (.seq .no .no))))))))) (Option.getD Tryd.f39.body .skip) [.slice a0_dst.a a0_dst.len a0_dst.cap, .int .u64 a1_u, .int .i64 a2_base, .bool a3_neg, .bool a4_append] h [.at .sl, .at .str] (fun s h => K s.1 s.2.1 h) = F_internal_strconv_formatBits a0_dst a1_u a2_base a3_neg a4_append h K := by kernel_rfl
  exact fun_sound mixed Tryd.func39 rfl (e.mpr hF)

def F_internal_strconv_log10Pow2 (a0_x : Int) (h : Hp) (K : Int → Hp → Prop) : Prop :=
Let (IntKind.wrap .i64 (a0_x * 78913) : Int) fun (t1 : Int) =>
((0 : Int) ≤ 18) ∧ (
Let (Int.fdiv t1 (2 ^ min (Int.toNat 18) (IntKind.bits .i64)) : Int) fun (t2 : Int) =>
K t2 h)

theorem F_internal_strconv_log10Pow2_ok (a0_x : Int) (h : Hp) (K : Int → Hp → Prop) (hF : F_internal_strconv_log10Pow2 a0_x h K) : C_internal_strconv_log10Pow2 a0_x h K := by
  have e : bodyVC Tryd.prog Tryd.f40 (.seq .no (.seq .no .no)) (Option.getD Tryd.f40.body .skip) [.int .i64 a0_x] h [.at (.int .i64)] (fun s h => K s.1 h) = F_internal_strconv_log10Pow2 a0_x h K := by kernel_rfl
  exact fun_sound mixed Tryd.func40 rfl (e.mpr hF)

def J3_math_bits_Len64 (K : Int → Hp → Prop) (sJ3 : Int × Int × Unit) (hJ3 : Hp) : Prop :=
Let (IntKind.wrap .u8 (sJ3.1) : Int) fun (t1 : Int) =>
idxStr (ByteArray.mk #[0, 1, 2, 2, 3, 3, 3, 3, 4, 4, 4, 4, 4, 4, 4, 4, 5, 5, 5, 5, 5, 5, 5, 5, 5, 5, 5, 5, 5, 5, 5, 5, 6, 6, 6, 6, 6, 6, 6, 6, 6, 6, 6, 6, 6, 6, 6, 6, 6, 6, 6, 6, 6, 6, 6, 6, 6, 6, 6, 6, 6, 6, 6, 6, 7, 7, 7, 7, 7, 7, 7, 7, 7, 7, 7, 7, 7, 7, 7, 7, 7, 7, 7, 7, 7, 7, 7, 7, 7, 7, 7, 7, 7, 7, 7, 7, 7, 7, 7, 7, 7, 7, 7, 7, 7, 7, 7, 7, 7, 7, 7, 7, 7, 7, 7, 7, 7, 7, 7, 7, 7, 7, 7, 7, 7, 7, 7, 7, 8, 8, 8, 8, 8, 8, 8, 8, 8, 8, 8, 8, 8, 8, 8, 8, 8, 8, 8, 8, 8, 8, 8, 8, 8, 8, 8, 8, 8, 8, 8, 8, 8, 8, 8, 8, 8, 8, 8, 8, 8, 8, 8, 8, 8, 8, 8, 8, 8, 8, 8, 8, 8, 8, 8, 8, 8, 8, 8, 8, 8, 8, 8, 8, 8, 8, 8, 8, 8, 8, 8, 8, 8, 8, 8, 8, 8, 8, 8, 8, 8, 8, 8, 8, 8, 8, 8, 8, 8, 8, 8, 8, 8, 8, 8, 8, 8, 8, 8, 8, 8, 8, 8, 8, 8, 8, 8, 8, 8, 8, 8, 8, 8, 8, 8, 8, 8, 8, 8, 8, 8, 8, 8, 8, 8, 8, 8, 8]) t1 fun (t2 : Int) =>
Let (IntKind.wrap .i64 (t2) : Int) fun (t3 : Int) =>
Let (IntKind.wrap .i64 (sJ3.2.1 + t3) : Int) fun (t4 : Int) =>
K t4 hJ3
def J2_math_bits_Len64 (K : Int → Hp → Prop) (sJ2 : Int × Int × Unit) (hJ2 : Hp) : Prop :=
Jn (J3_math_bits_Len64 K) fun (J3 : Int × Int × Unit → Hp → Prop) =>
cnd (decide (sJ2.1 ≥ 256)) (
((0 : Int) ≤ 8) ∧ (
Let (Int.fdiv sJ2.1 (2 ^ min (Int.toNat 8) (IntKind.bits .u64)) : Int) fun (t5 : Int) =>
Let (IntKind.wrap .i64 (sJ2.2.1 + 8) : Int) fun (t6 : Int) =>
J3 (t5, t6, ()) hJ2)) (
J3 (sJ2.1, sJ2.2.1, ()) hJ2)
def J1_math_bits_Len64 (K : Int → Hp → Prop) (sJ1 : Int × Int × Unit) (hJ1 : Hp) : Prop :=
Jn (J2_math_bits_Len64 K) fun (J2 : Int × Int × Unit → Hp → Prop) =>
cnd (decide (sJ1.1 ≥ 65536)) (
((0 : Int) ≤ 16) ∧ (
Let (Int.fdiv sJ1.1 (2 ^ min (Int.toNat 16) (IntKind.bits .u64)) : Int) fun (t7 : Int) =>
Let (IntKind.wrap .i64 (sJ1.2.1 + 16) : Int) fun (t8 : Int) =>
J2 (t7, t8, ()) hJ1)) (
J2 (sJ1.1, sJ1.2.1, ()) hJ1)
def F_math_bits_Len64 (a0_x : Int) (h : Hp) (K : Int → Hp → Prop) : Prop :=
Jn (J1_math_bits_Len64 K) fun (J1 : Int × Int × Unit → Hp → Prop) =>
cnd (decide (a0_x ≥ 4294967296)) (
((0 : Int) ≤ 32) ∧ (
Let (Int.fdiv a0_x (2 ^ min (Int.toNat 32) (IntKind.bits .u64)) : Int) fun (t9 : Int) =>
J1 (t9, 32, ()) h)) (
J1 (a0_x, 0, ()) h)

theorem F_math_bits_Len64_ok (a0_x : Int) (h : Hp) (K : Int → Hp → Prop) (hF : F_math_bits_Len64 a0_x h K) : C_math_bits_Len64 a0_x h K := by
  have e : bodyVC Tryd.prog Tryd.f41 (.seq .no (.join [(0, .at (.int .u64)), (2, .at (.int .i64))] (.seq .no (.cond (.seq .no .no) .no)) (.join [(0, .at (.int .u64)), (2, .at (.int .i64))] (.seq .no (.cond (.seq .no .no) .no)) (.join [(0, .at (.int .u64)), (2, .at (.int .i64))] (.seq .no (.cond (.seq .no .no) .no)) (.seq .no .no))))) (Option.getD Tryd.f41.body .skip) [.int .u64 a0_x] h [.at (.int .i64)] (fun s h => K s.1 h) = F_math_bits_Len64 a0_x h K := by kernel_rfl
  exact fun_sound mixed Tryd.func41 rfl (e.mpr hF)

def F_internal_strconv_bool2_int (a0_b : Bool) (h : Hp) (K : Int → Hp → Prop) : Prop :=
cnd a0_b (
K 1 h) (
K 0 h)

theorem F_internal_strconv_bool2_int_ok (a0_b : Bool) (h : Hp) (K : Int → Hp → Prop) (hF : F_internal_strconv_bool2_int a0_b h K) : C_internal_strconv_bool2_int a0_b h K := by
  have e : bodyVC Tryd.prog Tryd.f42 (.seq .no (.seq (.seq .no (.cond (.seq .no .no) .no)) (.seq .no .no))) (Option.getD Tryd.f42.body .skip) [.bool a0_b] h [.at (.int .i64)] (fun s h => K s.1 h) = F_internal_strconv_bool2_int a0_b h K := by kernel_rfl
  exact fun_sound mixed Tryd.func42 rfl (e.mpr hF)

def F_internal_strconv_isPowerOfTwo (a0_x : Int) (h : Hp) (K : Bool → Hp → Prop) : Prop :=
Let (IntKind.wrap .i64 (a0_x - 1) : Int) fun (t1 : Int) =>
Let (ibAnd .i64 a0_x t1 : Int) fun (t2 : Int) =>
K (t2 == 0) h

theorem F_internal_strconv_isPowerOfTwo_ok (a0_x : Int) (h : Hp) (K : Bool → Hp → Prop) (hF : F_internal_strconv_isPowerOfTwo a0_x h K) : C_internal_strconv_isPowerOfTwo a0_x h K := by
  have e : bodyVC Tryd.prog Tryd.f43 (.seq .no (.seq .no .no)) (Option.getD Tryd.f43.body .skip) [.int .i64 a0_x] h [.at .bool] (fun s h => K s.1 h) = F_internal_strconv_isPowerOfTwo a0_x h K := by kernel_rfl
  exact fun_sound mixed Tryd.func43 rfl (e.mpr hF)

def F_math_bits_TrailingZeros (a0_x : Int) (h : Hp) (K : Int → Hp → Prop) : Prop :=
C_math_bits_TrailingZeros64 a0_x h fun (t1 : Int) (h2 : Hp) =>
K t1 h2

theorem F_math_bits_TrailingZeros_ok (a0_x : Int) (h : Hp) (K : Int → Hp → Prop) (hF : F_math_bits_TrailingZeros a0_x h K) : C_math_bits_TrailingZeros a0_x h K := by
  have e : bodyVC Tryd.prog Tryd.f44 (.seq .no (.seq (.cond (.seq .no .no) .no) (.seq .no .no))) (Option.getD Tryd.f44.body .skip) [.int .u64 a0_x] h [.at (.int .i64)] (fun s h => K s.1 h) = F_math_bits_TrailingZeros a0_x h K := by kernel_rfl
  exact fun_sound mixed Tryd.func44 rfl (e.mpr hF)

def F_math_bits_TrailingZeros32 (a0_x : Int) (h : Hp) (K : Int → Hp → Prop) : Prop :=
cnd (a0_x == 0) (
K 32 h) (
Let (IntKind.wrap .u32 (0 - a0_x) : Int) fun (t1 : Int) =>
Let (ibAnd .u32 a0_x t1 : Int) fun (t2 : Int) =>
Let (IntKind.wrap .u32 (t2 * 125613361) : Int) fun (t3 : Int) =>
Let (Int.fdiv t3 (2 ^ min (Int.toNat 27) (IntKind.bits .u32)) : Int) fun (t4 : Int) =>
idxS (some (Addr.mk 2 0 none)) 32 t4 1 fun (p5 : Addr) =>
ldA (.int .u8) h p5 fun (t6 : Int) =>
Let (IntKind.wrap .i64 (t6) : Int) fun (t7 : Int) =>
K t7 h)

theorem F_math_bits_TrailingZeros32_ok (a0_x : Int) (h : Hp) (K : Int → Hp → Prop) (hF : F_math_bits_TrailingZeros32 a0_x h K) : C_math_bits_TrailingZeros32 a0_x h K := by
  have e : bodyVC Tryd.prog Tryd.f45 (.seq .no (.seq (.seq .no (.cond (.seq .no .no) .no)) (.seq .no .no))) (Option.getD Tryd.f45.body .skip) [.int .u32 a0_x] h [.at (.int .i64)] (fun s h => K s.1 h) = F_math_bits_TrailingZeros32 a0_x h K := by kernel_rfl
  exact fun_sound mixed Tryd.func45 rfl (e.mpr hF)

def F_math_bits_TrailingZeros64 (a0_x : Int) (h : Hp) (K : Int → Hp → Prop) : Prop :=
cnd (a0_x == 0) (
K 64 h) (
Let (IntKind.wrap .u64 (0 - a0_x) : Int) fun (t1 : Int) =>
Let (ibAnd .u64 a0_x t1 : Int) fun (t2 : Int) =>
Let (IntKind.wrap .u64 (t2 * 285870213051353865) : Int) fun (t3 : Int) =>
((0 : Int) ≤ 58) ∧ (
Let (Int.fdiv t3 (2 ^ min (Int.toNat 58) (IntKind.bits .u64)) : Int) fun (t4 : Int) =>
idxS (some (Addr.mk 3 0 none)) 64 t4 1 fun (p5 : Addr) =>
ldA (.int .u8) h p5 fun (t6 : Int) =>
Let (IntKind.wrap .i64 (t6) : Int) fun (t7 : Int) =>
K t7 h))

theorem F_math_bits_TrailingZeros64_ok (a0_x : Int) (h : Hp) (K : Int → Hp → Prop) (hF : F_math_bits_TrailingZeros64 a0_x h K) : C_math_bits_TrailingZeros64 a0_x h K := by
  have e : bodyVC Tryd.prog Tryd.f46 (.seq .no (.seq (.seq .no (.cond (.seq .no .no) .no)) (.seq .no .no))) (Option.getD Tryd.f46.body .skip) [.int .u64 a0_x] h [.at (.int .i64)] (fun s h => K s.1 h) = F_math_bits_TrailingZeros64 a0_x h K := by kernel_rfl
  exact fun_sound mixed Tryd.func46 rfl (e.mpr hF)

def F_api_Errno_Error (a0_e : Int) (h : Hp) (K : ByteArray → Hp → Prop) : Prop :=
C_strconv_Itoa a0_e h fun (t1 : ByteArray) (h2 : Hp) =>
catS (ByteArray.mk #[101, 114, 114, 110, 111, 32]) t1 fun (t3 : ByteArray) =>
K t3 h2

theorem F_api_Errno_Error_ok (a0_e : Int) (h : Hp) (K : ByteArray → Hp → Prop) (hF : F_api_Errno_Error a0_e h K) : C_api_Errno_Error a0_e h K := by
  have e : bodyVC Tryd.prog Tryd.f64 (.seq .no (.seq .no .no)) (Option.getD Tryd.f64.body .skip) [.int .i64 a0_e] h [.at .str] (fun s h => K s.1 h) = F_api_Errno_Error a0_e h K := by kernel_rfl
  exact fun_sound mixed Tryd.func64 rfl (e.mpr hF)

def F_errors_errorString_Error (a0_e : Option Addr) (h : Hp) (K : ByteArray → Hp → Prop) : Prop :=
someA a0_e fun (p1 : Addr) =>
ldA .str h p1 fun (t2 : ByteArray) =>
K t2 h

theorem F_errors_errorString_Error_ok (a0_e : Option Addr) (h : Hp) (K : ByteArray → Hp → Prop) (hF : F_errors_errorString_Error a0_e h K) : C_errors_errorString_Error a0_e h K := by
  have e : bodyVC Tryd.prog Tryd.f65 (.seq .no (.seq .no .no)) (Option.getD Tryd.f65.body .skip) [.pointer a0_e] h [.at .str] (fun s h => K s.1 h) = F_errors_errorString_Error a0_e h K := by kernel_rfl
  exact fun_sound mixed Tryd.func65 rfl (e.mpr hF)

def F_gosem_cut_vars  (h : Hp) (K : Hp → Prop) : Prop :=
stC h (Addr.mk 2 0 none) (
Let (hset h (Addr.mk 2 0 none) (.int .u8 0)) fun (h1 : Hp) =>
stC h1 (Addr.add (Addr.mk 2 0 none) 1) (
Let (hset h1 (Addr.add (Addr.mk 2 0 none) 1) (.int .u8 1)) fun (h2 : Hp) =>
stC h2 (Addr.add (Addr.mk 2 0 none) 2) (
Let (hset h2 (Addr.add (Addr.mk 2 0 none) 2) (.int .u8 28)) fun (h3 : Hp) =>
stC h3 (Addr.add (Addr.mk 2 0 none) 3) (
Let (hset h3 (Addr.add (Addr.mk 2 0 none) 3) (.int .u8 2)) fun (h4 : Hp) =>
stC h4 (Addr.add (Addr.mk 2 0 none) 4) (
Let (hset h4 (Addr.add (Addr.mk 2 0 none) 4) (.int .u8 29)) fun (h5 : Hp) =>
stC h5 (Addr.add (Addr.mk 2 0 none) 5) (
Let (hset h5 (Addr.add (Addr.mk 2 0 none) 5) (.int .u8 14)) fun (h6 : Hp) =>
stC h6 (Addr.add (Addr.mk 2 0 none) 6) (
Let (hset h6 (Addr.add (Addr.mk 2 0 none) 6) (.int .u8 24)) fun (h7 : Hp) =>
stC h7 (Addr.add (Addr.mk 2 0 none) 7) (
Let (hset h7 (Addr.add (Addr.mk 2 0 none) 7) (.int .u8 3)) fun (h8 : Hp) =>
stC h8 (Addr.add (Addr.mk 2 0 none) 8) (
Let (hset h8 (Addr.add (Addr.mk 2 0 none) 8) (.int .u8 30)) fun (h9 : Hp) =>
stC h9 (Addr.add (Addr.mk 2 0 none) 9) (
Let (hset h9 (Addr.add (Addr.mk 2 0 none) 9) (.int .u8 22)) fun (h10 : Hp) =>
stC h10 (Addr.add (Addr.mk 2 0 none) 10) (
Let (hset h10 (Addr.add (Addr.mk 2 0 none) 10) (.int .u8 20)) fun (h11 : Hp) =>
stC h11 (Addr.add (Addr.mk 2 0 none) 11) (
Let (hset h11 (Addr.add (Addr.mk 2 0 none) 11) (.int .u8 15)) fun (h12 : Hp) =>
stC h12 (Addr.add (Addr.mk 2 0 none) 12) (
Let (hset h12 (Addr.add (Addr.mk 2 0 none) 12) (.int .u8 25)) fun (h13 : Hp) =>
stC h13 (Addr.add (Addr.mk 2 0 none) 13) (
Let (hset h13 (Addr.add (Addr.mk 2 0 none) 13) (.int .u8 17)) fun (h14 : Hp) =>
stC h14 (Addr.add (Addr.mk 2 0 none) 14) (
Let (hset h14 (Addr.add (Addr.mk 2 0 none) 14) (.int .u8 4)) fun (h15 : Hp) =>
stC h15 (Addr.add (Addr.mk 2 0 none) 15) (
Let (hset h15 (Addr.add (Addr.mk 2 0 none) 15) (.int .u8 8)) fun (h16 : Hp) =>
stC h16 (Addr.add (Addr.mk 2 0 none) 16) (
Let (hset h16 (Addr.add (Addr.mk 2 0 none) 16) (.int .u8 31)) fun (h17 : Hp) =>
stC h17 (Addr.add (Addr.mk 2 0 none) 17) (
Let (hset h17 (Addr.add (Addr.mk 2 0 none) 17) (.int .u8 27)) fun (h18 : Hp) =>
stC h18 (Addr.add (Addr.mk 2 0 none) 18) (
Let (hset h18 (Addr.add (Addr.mk 2 0 none) 18) (.int .u8 13)) fun (h19 : Hp) =>
stC h19 (Addr.add (Addr.mk 2 0 none) 19) (
Let (hset h19 (Addr.add (Addr.mk 2 0 none) 19) (.int .u8 23)) fun (h20 : Hp) =>
stC h20 (Addr.add (Addr.mk 2 0 none) 20) (
Let (hset h20 (Addr.add (Addr.mk 2 0 none) 20) (.int .u8 21)) fun (h21 : Hp) =>
stC h21 (Addr.add (Addr.mk 2 0 none) 21) (
Let (hset h21 (Addr.add (Addr.mk 2 0 none) 21) (.int .u8 19)) fun (h22 : Hp) =>
stC h22 (Addr.add (Addr.mk 2 0 none) 22) (
Let (hset h22 (Addr.add (Addr.mk 2 0 none) 22) (.int .u8 16)) fun (h23 : Hp) =>
stC h23 (Addr.add (Addr.mk 2 0 none) 23) (
Let (hset h23 (Addr.add (Addr.mk 2 0 none) 23) (.int .u8 7)) fun (h24 : Hp) =>
stC h24 (Addr.add (Addr.mk 2 0 none) 24) (
Let (hset h24 (Addr.add (Addr.mk 2 0 none) 24) (.int .u8 26)) fun (h25 : Hp) =>
stC h25 (Addr.add (Addr.mk 2 0 none) 25) (
Let (hset h25 (Addr.add (Addr.mk 2 0 none) 25) (.int .u8 12)) fun (h26 : Hp) =>
stC h26 (Addr.add (Addr.mk 2 0 none) 26) (
Let (hset h26 (Addr.add (Addr.mk 2 0 none) 26) (.int .u8 18)) fun (h27 : Hp) =>
stC h27 (Addr.add (Addr.mk 2 0 none) 27) (
Let (hset h27 (Addr.add (Addr.mk 2 0 none) 27) (.int .u8 6)) fun (h28 : Hp) =>
stC h28 (Addr.add (Addr.mk 2 0 none) 28) (
Let (hset h28 (Addr.add (Addr.mk 2 0 none) 28) (.int .u8 11)) fun (h29 : Hp) =>
stC h29 (Addr.add (Addr.mk 2 0 none) 29) (
Let (hset h29 (Addr.add (Addr.mk 2 0 none) 29) (.int .u8 5)) fun (h30 : Hp) =>
stC h30 (Addr.add (Addr.mk 2 0 none) 30) (
Let (hset h30 (Addr.add (Addr.mk 2 0 none) 30) (.int .u8 10)) fun (h31 : Hp) =>
stC h31 (Addr.add (Addr.mk 2 0 none) 31) (
Let (hset h31 (Addr.add (Addr.mk 2 0 none) 31) (.int .u8 9)) fun (h32 : Hp) =>
stC h32 (Addr.mk 3 0 none) (
Let (hset h32 (Addr.mk 3 0 none) (.int .u8 0)) fun (h33 : Hp) =>
stC h33 (Addr.add (Addr.mk 3 0 none) 1) (
Let (hset h33 (Addr.add (Addr.mk 3 0 none) 1) (.int .u8 1)) fun (h34 : Hp) =>
stC h34 (Addr.add (Addr.mk 3 0 none) 2) (
Let (hset h34 (Addr.add (Addr.mk 3 0 none) 2) (.int .u8 56)) fun (h35 : Hp) =>
stC h35 (Addr.add (Addr.mk 3 0 none) 3) (
Let (hset h35 (Addr.add (Addr.mk 3 0 none) 3) (.int .u8 2)) fun (h36 : Hp) =>
stC h36 (Addr.add (Addr.mk 3 0 none) 4) (
Let (hset h36 (Addr.add (Addr.mk 3 0 none) 4) (.int .u8 57)) fun (h37 : Hp) =>
stC h37 (Addr.add (Addr.mk 3 0 none) 5) (
Let (hset h37 (Addr.add (Addr.mk 3 0 none) 5) (.int .u8 49)) fun (h38 : Hp) =>
stC h38 (Addr.add (Addr.mk 3 0 none) 6) (
Let (hset h38 (Addr.add (Addr.mk 3 0 none) 6) (.int .u8 28)) fun (h39 : Hp) =>
stC h39 (Addr.add (Addr.mk 3 0 none) 7) (
Let (hset h39 (Addr.add (Addr.mk 3 0 none) 7) (.int .u8 3)) fun (h40 : Hp) =>
stC h40 (Addr.add (Addr.mk 3 0 none) 8) (
Let (hset h40 (Addr.add (Addr.mk 3 0 none) 8) (.int .u8 61)) fun (h41 : Hp) =>
stC h41 (Addr.add (Addr.mk 3 0 none) 9) (
Let (hset h41 (Addr.add (Addr.mk 3 0 none) 9) (.int .u8 58)) fun (h42 : Hp) =>
stC h42 (Addr.add (Addr.mk 3 0 none) 10) (
Let (hset h42 (Addr.add (Addr.mk 3 0 none) 10) (.int .u8 42)) fun (h43 : Hp) =>
stC h43 (Addr.add (Addr.mk 3 0 none) 11) (
Let (hset h43 (Addr.add (Addr.mk 3 0 none) 11) (.int .u8 50)) fun (h44 : Hp) =>
stC h44 (Addr.add (Addr.mk 3 0 none) 12) (
Let (hset h44 (Addr.add (Addr.mk 3 0 none) 12) (.int .u8 38)) fun (h45 : Hp) =>
stC h45 (Addr.add (Addr.mk 3 0 none) 13) (
Let (hset h45 (Addr.add (Addr.mk 3 0 none) 13) (.int .u8 29)) fun (h46 : Hp) =>
stC h46 (Addr.add (Addr.mk 3 0 none) 14) (
Let (hset h46 (Addr.add (Addr.mk 3 0 none) 14) (.int .u8 17)) fun (h47 : Hp) =>
stC h47 (Addr.add (Addr.mk 3 0 none) 15) (
Let (hset h47 (Addr.add (Addr.mk 3 0 none) 15) (.int .u8 4)) fun (h48 : Hp) =>
stC h48 (Addr.add (Addr.mk 3 0 none) 16) (
Let (hset h48 (Addr.add (Addr.mk 3 0 none) 16) (.int .u8 62)) fun (h49 : Hp) =>
stC h49 (Addr.add (Addr.mk 3 0 none) 17) (
Let (hset h49 (Addr.add (Addr.mk 3 0 none) 17) (.int .u8 47)) fun (h50 : Hp) =>
stC h50 (Addr.add (Addr.mk 3 0 none) 18) (
Let (hset h50 (Addr.add (Addr.mk 3 0 none) 18) (.int .u8 59)) fun (h51 : Hp) =>
stC h51 (Addr.add (Addr.mk 3 0 none) 19) (
Let (hset h51 (Addr.add (Addr.mk 3 0 none) 19) (.int .u8 36)) fun (h52 : Hp) =>
stC h52 (Addr.add (Addr.mk 3 0 none) 20) (
Let (hset h52 (Addr.add (Addr.mk 3 0 none) 20) (.int .u8 45)) fun (h53 : Hp) =>
stC h53 (Addr.add (Addr.mk 3 0 none) 21) (
Let (hset h53 (Addr.add (Addr.mk 3 0 none) 21) (.int .u8 43)) fun (h54 : Hp) =>
stC h54 (Addr.add (Addr.mk 3 0 none) 22) (
Let (hset h54 (Addr.add (Addr.mk 3 0 none) 22) (.int .u8 51)) fun (h55 : Hp) =>
stC h55 (Addr.add (Addr.mk 3 0 none) 23) (
Let (hset h55 (Addr.add (Addr.mk 3 0 none) 23) (.int .u8 22)) fun (h56 : Hp) =>
stC h56 (Addr.add (Addr.mk 3 0 none) 24) (
Let (hset h56 (Addr.add (Addr.mk 3 0 none) 24) (.int .u8 53)) fun (h57 : Hp) =>
stC h57 (Addr.add (Addr.mk 3 0 none) 25) (
Let (hset h57 (Addr.add (Addr.mk 3 0 none) 25) (.int .u8 39)) fun (h58 : Hp) =>
stC h58 (Addr.add (Addr.mk 3 0 none) 26) (
Let (hset h58 (Addr.add (Addr.mk 3 0 none) 26) (.int .u8 33)) fun (h59 : Hp) =>
stC h59 (Addr.add (Addr.mk 3 0 none) 27) (
Let (hset h59 (Addr.add (Addr.mk 3 0 none) 27) (.int .u8 30)) fun (h60 : Hp) =>
stC h60 (Addr.add (Addr.mk 3 0 none) 28) (
Let (hset h60 (Addr.add (Addr.mk 3 0 none) 28) (.int .u8 24)) fun (h61 : Hp) =>
stC h61 (Addr.add (Addr.mk 3 0 none) 29) (
Let (hset h61 (Addr.add (Addr.mk 3 0 none) 29) (.int .u8 18)) fun (h62 : Hp) =>
stC h62 (Addr.add (Addr.mk 3 0 none) 30) (
Let (hset h62 (Addr.add (Addr.mk 3 0 none) 30) (.int .u8 12)) fun (h63 : Hp) =>
stC h63 (Addr.add (Addr.mk 3 0 none) 31) (
Let (hset h63 (Addr.add (Addr.mk 3 0 none) 31) (.int .u8 5)) fun (h64 : Hp) =>
stC h64 (Addr.add (Addr.mk 3 0 none) 32) (
Let (hset h64 (Addr.add (Addr.mk 3 0 none) 32) (.int .u8 63)) fun (h65 : Hp) =>
stC h65 (Addr.add (Addr.mk 3 0 none) 33) (
Let (hset h65 (Addr.add (Addr.mk 3 0 none) 33) (.int .u8 55)) fun (h66 : Hp) =>
stC h66 (Addr.add (Addr.mk 3 0 none) 34) (
Let (hset h66 (Addr.add (Addr.mk 3 0 none) 34) (.int .u8 48)) fun (h67 : Hp) =>
stC h67 (Addr.add (Addr.mk 3 0 none) 35) (
Let (hset h67 (Addr.add (Addr.mk 3 0 none) 35) (.int .u8 27)) fun (h68 : Hp) =>
stC h68 (Addr.add (Addr.mk 3 0 none) 36) (
Let (hset h68 (Addr.add (Addr.mk 3 0 none) 36) (.int .u8 60)) fun (h69 : Hp) =>
stC h69 (Addr.add (Addr.mk 3 0 none) 37) (
Let (hset h69 (Addr.add (Addr.mk 3 0 none) 37) (.int .u8 41)) fun (h70 : Hp) =>
stC h70 (Addr.add (Addr.mk 3 0 none) 38) (
Let (hset h70 (Addr.add (Addr.mk 3 0 none) 38) (.int .u8 37)) fun (h71 : Hp) =>
stC h71 (Addr.add (Addr.mk 3 0 none) 39) (
Let (hset h71 (Addr.add (Addr.mk 3 0 none) 39) (.int .u8 16)) fun (h72 : Hp) =>
stC h72 (Addr.add (Addr.mk 3 0 none) 40) (
Let (hset h72 (Addr.add (Addr.mk 3 0 none) 40) (.int .u8 46)) fun (h73 : Hp) =>
stC h73 (Addr.add (Addr.mk 3 0 none) 41) (
Let (hset h73 (Addr.add (Addr.mk 3 0 none) 41) (.int .u8 35)) fun (h74 : Hp) =>
stC h74 (Addr.add (Addr.mk 3 0 none) 42) (
Let (hset h74 (Addr.add (Addr.mk 3 0 none) 42) (.int .u8 44)) fun (h75 : Hp) =>
stC h75 (Addr.add (Addr.mk 3 0 none) 43) (
Let (hset h75 (Addr.add (Addr.mk 3 0 none) 43) (.int .u8 21)) fun (h76 : Hp) =>
stC h76 (Addr.add (Addr.mk 3 0 none) 44) (
Let (hset h76 (Addr.add (Addr.mk 3 0 none) 44) (.int .u8 52)) fun (h77 : Hp) =>
stC h77 (Addr.add (Addr.mk 3 0 none) 45) (
Let (hset h77 (Addr.add (Addr.mk 3 0 none) 45) (.int .u8 32)) fun (h78 : Hp) =>
stC h78 (Addr.add (Addr.mk 3 0 none) 46) (
Let (hset h78 (Addr.add (Addr.mk 3 0 none) 46) (.int .u8 23)) fun (h79 : Hp) =>
stC h79 (Addr.add (Addr.mk 3 0 none) 47) (
Let (hset h79 (Addr.add (Addr.mk 3 0 none) 47) (.int .u8 11)) fun (h80 : Hp) =>
stC h80 (Addr.add (Addr.mk 3 0 none) 48) (
Let (hset h80 (Addr.add (Addr.mk 3 0 none) 48) (.int .u8 54)) fun (h81 : Hp) =>
stC h81 (Addr.add (Addr.mk 3 0 none) 49) (
Let (hset h81 (Addr.add (Addr.mk 3 0 none) 49) (.int .u8 26)) fun (h82 : Hp) =>
stC h82 (Addr.add (Addr.mk 3 0 none) 50) (
Let (hset h82 (Addr.add (Addr.mk 3 0 none) 50) (.int .u8 40)) fun (h83 : Hp) =>
stC h83 (Addr.add (Addr.mk 3 0 none) 51) (
Let (hset h83 (Addr.add (Addr.mk 3 0 none) 51) (.int .u8 15)) fun (h84 : Hp) =>
stC h84 (Addr.add (Addr.mk 3 0 none) 52) (
Let (hset h84 (Addr.add (Addr.mk 3 0 none) 52) (.int .u8 34)) fun (h85 : Hp) =>
stC h85 (Addr.add (Addr.mk 3 0 none) 53) (
Let (hset h85 (Addr.add (Addr.mk 3 0 none) 53) (.int .u8 20)) fun (h86 : Hp) =>
stC h86 (Addr.add (Addr.mk 3 0 none) 54) (
Let (hset h86 (Addr.add (Addr.mk 3 0 none) 54) (.int .u8 31)) fun (h87 : Hp) =>
stC h87 (Addr.add (Addr.mk 3 0 none) 55) (
Let (hset h87 (Addr.add (Addr.mk 3 0 none) 55) (.int .u8 10)) fun (h88 : Hp) =>
stC h88 (Addr.add (Addr.mk 3 0 none) 56) (
Let (hset h88 (Addr.add (Addr.mk 3 0 none) 56) (.int .u8 25)) fun (h89 : Hp) =>
stC h89 (Addr.add (Addr.mk 3 0 none) 57) (
Let (hset h89 (Addr.add (Addr.mk 3 0 none) 57) (.int .u8 14)) fun (h90 : Hp) =>
stC h90 (Addr.add (Addr.mk 3 0 none) 58) (
Let (hset h90 (Addr.add (Addr.mk 3 0 none) 58) (.int .u8 19)) fun (h91 : Hp) =>
stC h91 (Addr.add (Addr.mk 3 0 none) 59) (
Let (hset h91 (Addr.add (Addr.mk 3 0 none) 59) (.int .u8 9)) fun (h92 : Hp) =>
stC h92 (Addr.add (Addr.mk 3 0 none) 60) (
Let (hset h92 (Addr.add (Addr.mk 3 0 none) 60) (.int .u8 13)) fun (h93 : Hp) =>
stC h93 (Addr.add (Addr.mk 3 0 none) 61) (
Let (hset h93 (Addr.add (Addr.mk 3 0 none) 61) (.int .u8 8)) fun (h94 : Hp) =>
stC h94 (Addr.add (Addr.mk 3 0 none) 62) (
Let (hset h94 (Addr.add (Addr.mk 3 0 none) 62) (.int .u8 7)) fun (h95 : Hp) =>
stC h95 (Addr.add (Addr.mk 3 0 none) 63) (
Let (hset h95 (Addr.add (Addr.mk 3 0 none) 63) (.int .u8 6)) fun (h96 : Hp) =>
stC h96 (Addr.mk 1 0 none) (
Let (hset h96 (Addr.mk 1 0 none) (.int .u64 1)) fun (h97 : Hp) =>
stC h97 (Addr.add (Addr.mk 1 0 none) 1) (
Let (hset h97 (Addr.add (Addr.mk 1 0 none) 1) (.int .u64 10)) fun (h98 : Hp) =>
stC h98 (Addr.add (Addr.mk 1 0 none) 2) (
Let (hset h98 (Addr.add (Addr.mk 1 0 none) 2) (.int .u64 100)) fun (h99 : Hp) =>
stC h99 (Addr.add (Addr.mk 1 0 none) 3) (
Let (hset h99 (Addr.add (Addr.mk 1 0 none) 3) (.int .u64 1000)) fun (h100 : Hp) =>
stC h100 (Addr.add (Addr.mk 1 0 none) 4) (
Let (hset h100 (Addr.add (Addr.mk 1 0 none) 4) (.int .u64 10000)) fun (h101 : Hp) =>
stC h101 (Addr.add (Addr.mk 1 0 none) 5) (
Let (hset h101 (Addr.add (Addr.mk 1 0 none) 5) (.int .u64 100000)) fun (h102 : Hp) =>
stC h102 (Addr.add (Addr.mk 1 0 none) 6) (
Let (hset h102 (Addr.add (Addr.mk 1 0 none) 6) (.int .u64 1000000)) fun (h103 : Hp) =>
stC h103 (Addr.add (Addr.mk 1 0 none) 7) (
Let (hset h103 (Addr.add (Addr.mk 1 0 none) 7) (.int .u64 10000000)) fun (h104 : Hp) =>
stC h104 (Addr.add (Addr.mk 1 0 none) 8) (
Let (hset h104 (Addr.add (Addr.mk 1 0 none) 8) (.int .u64 100000000)) fun (h105 : Hp) =>
stC h105 (Addr.add (Addr.mk 1 0 none) 9) (
Let (hset h105 (Addr.add (Addr.mk 1 0 none) 9) (.int .u64 1000000000)) fun (h106 : Hp) =>
stC h106 (Addr.add (Addr.mk 1 0 none) 10) (
Let (hset h106 (Addr.add (Addr.mk 1 0 none) 10) (.int .u64 10000000000)) fun (h107 : Hp) =>
stC h107 (Addr.add (Addr.mk 1 0 none) 11) (
Let (hset h107 (Addr.add (Addr.mk 1 0 none) 11) (.int .u64 100000000000)) fun (h108 : Hp) =>
stC h108 (Addr.add (Addr.mk 1 0 none) 12) (
Let (hset h108 (Addr.add (Addr.mk 1 0 none) 12) (.int .u64 1000000000000)) fun (h109 : Hp) =>
stC h109 (Addr.add (Addr.mk 1 0 none) 13) (
Let (hset h109 (Addr.add (Addr.mk 1 0 none) 13) (.int .u64 10000000000000)) fun (h110 : Hp) =>
stC h110 (Addr.add (Addr.mk 1 0 none) 14) (
Let (hset h110 (Addr.add (Addr.mk 1 0 none) 14) (.int .u64 100000000000000)) fun (h111 : Hp) =>
stC h111 (Addr.add (Addr.mk 1 0 none) 15) (
Let (hset h111 (Addr.add (Addr.mk 1 0 none) 15) (.int .u64 1000000000000000)) fun (h112 : Hp) =>
stC h112 (Addr.add (Addr.mk 1 0 none) 16) (
Let (hset h112 (Addr.add (Addr.mk 1 0 none) 16) (.int .u64 10000000000000000)) fun (h113 : Hp) =>
stC h113 (Addr.add (Addr.mk 1 0 none) 17) (
Let (hset h113 (Addr.add (Addr.mk 1 0 none) 17) (.int .u64 100000000000000000)) fun (h114 : Hp) =>
stC h114 (Addr.add (Addr.mk 1 0 none) 18) (
Let (hset h114 (Addr.add (Addr.mk 1 0 none) 18) (.int .u64 1000000000000000000)) fun (h115 : Hp) =>
stC h115 (Addr.add (Addr.mk 1 0 none) 19) (
Let (hset h115 (Addr.add (Addr.mk 1 0 none) 19) (.int .u64 10000000000000000000)) fun (h116 : Hp) =>
C_internal_reflectlite_TypeOf (.iface 134 (.pointer none)) h116 fun (t117 : Value) (h118 : Hp) =>
invV Tryd.prog (t117) "Elem" [] [.at .raw] h118 fun (s119 : Value × Unit) (h120 : Hp) =>
((1 : Nat) = 1) ∧ (
stO h120 (Addr.mk 0 0 none) (s119.1) (
Let (hset h120 (Addr.mk 0 0 none) (s119.1)) fun (h121 : Hp) =>
K h121))))))))))))))))))))))))))))))))))))))))))))))))))))))))))))))))))))))))))))))))))))))))))))))))))))))))))))))))))))))

theorem F_gosem_cut_vars_ok  (h : Hp) (K : Hp → Prop) (hF : F_gosem_cut_vars  h K) : C_gosem_cut_vars  h K := by
  have e : bodyVC Tryd.prog Tryd.f87 (.seq .no (.seq .no (.seq .no .no))) (Option.getD Tryd.f87.body .skip) [] h [] (fun s h => K h) = F_gosem_cut_vars  h K := by kernel_rfl
  exact fun_sound mixed Tryd.func87 rfl (e.mpr hF)

end Go.Proofs.YtlkaipmhjgfkpaaDoorF
