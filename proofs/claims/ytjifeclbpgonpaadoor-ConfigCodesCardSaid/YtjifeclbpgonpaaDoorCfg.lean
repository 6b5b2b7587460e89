/- Chapter 28: a config's fields, and where they stand; a config put, and got. No condition. -/
import Derived.Test.YtjifeclbpgonpaaDoorFaultC
import Derived.Test.YtjifeclbpgonpaaDoorCodeBack
import Derived.Test.YtjifeclbpgonpaaDoorK18
import Derived.Test.YtjifeclbpgonpaaDoorK20
namespace Go.Proofs.YtjifeclbpgonpaaDoorF
open Go Go.Proofs.YtjifeclbpgonpaaDoorK
set_option linter.unusedSimpArgs false
set_option linter.unusedVariables false
set_option maxRecDepth 100000

abbrev ptr (b o : Nat) : Value := .pointer (some ⟨b, o, none⟩)
abbrev i64 (n : Int) : Value := .int .i64 n
def cfLow : List Int := [1, 1, 0, 4, 1, 1, 0, 0]
def cfHigh : List Int := [4, 3, 65536, 256, 2, 1048576, 64, 64]
abbrev nmK : ByteArray := ByteArray.mk #[75, 105, 110, 100]
def cfName : List ByteArray := [nmK, ByteArray.mk #[77, 101, 116, 114, 105, 99], ByteArray.mk #[83, 105, 122, 101], ByteArray.mk #[67, 97, 112], ByteArray.mk #[80, 111, 108, 105, 99, 121], ByteArray.mk #[76, 105, 109, 105, 116], ByteArray.mk #[67, 117, 114, 115, 111, 114, 115], ByteArray.mk #[80, 105, 118, 111, 116, 115]]
abbrev FT : List At := [.str, .int .i64, .int .i64]
def cfV : List Value := ((cfName.zip (cfLow.zip cfHigh)).flatMap fun x => [Value.string x.1, i64 x.2.1, i64 x.2.2])
theorem cf_at {k : Nat} (hk : k < 8) : ∃ (n : ByteArray) (lo hi : Int), cfLow[k]? = some lo ∧ cfHigh[k]? = some hi ∧ (cfV.drop (k * FT.length)).take FT.length = vsA FT (n, lo, hi, ()) := by
  match k, hk with
  | 0, _ => exact ⟨_, _, _, rfl, rfl, rfl⟩
  | 1, _ => exact ⟨_, _, _, rfl, rfl, rfl⟩
  | 2, _ => exact ⟨_, _, _, rfl, rfl, rfl⟩
  | 3, _ => exact ⟨_, _, _, rfl, rfl, rfl⟩
  | 4, _ => exact ⟨_, _, _, rfl, rfl, rfl⟩
  | 5, _ => exact ⟨_, _, _, rfl, rfl, rfl⟩
  | 6, _ => exact ⟨_, _, _, rfl, rfl, rfl⟩
  | 7, _ => exact ⟨_, _, _, rfl, rfl, rfl⟩
theorem ptrs_at {b k : Nat} (hk : k < 8) : [ptr b 0, ptr b 1, ptr b 2, ptr b 3, ptr b 4, ptr b 5, ptr b 6, ptr b 7][k]? = some (ptr b k) := by
  match k, hk with
  | 0, _ => rfl
  | 1, _ => rfl
  | 2, _ => rfl
  | 3, _ => rfl
  | 4, _ => rfl
  | 5, _ => rfl
  | 6, _ => rfl
  | 7, _ => rfl
theorem c_places {b : Nat} {h : Hp} {K : Option Addr → Option Addr → Option Addr → Option Addr → Option Addr → Option Addr → Option Addr → Option Addr → Hp → Prop}
    (hk : ∀ h', Ext h h' → K (some ⟨b, 0, none⟩) (some ⟨b, 1, none⟩) (some ⟨b, 2, none⟩) (some ⟨b, 3, none⟩) (some ⟨b, 4, none⟩) (some ⟨b, 5, none⟩) (some ⟨b, 6, none⟩) (some ⟨b, 7, none⟩) h') : C_config_places (some ⟨b, 0, none⟩) h K := by
  refine F_config_places_ok _ _ _ ?_
  unfold F_config_places
  refine push_to fun h1 b1 x1 z1 => let_to ?_
  simp only [someA, add_mk, Nat.zero_add]
  refine stores_blk (i := 0) (vs := [ptr b 0, ptr b 1, ptr b 2, ptr b 3, ptr b 4, ptr b 5, ptr b 6, ptr b 7]) b1 rfl fun h2 b2 o2 _ z2 => ?_
  simp only [List.take_zero, List.nil_append] at b2
  refine ldA_blk (s := .ptr) (x := some ⟨b, 0, none⟩) (i := 0) b2 rfl (ldA_blk (s := .ptr) (x := some ⟨b, 1, none⟩) (i := 1) b2 rfl (ldA_blk (s := .ptr) (x := some ⟨b, 2, none⟩) (i := 2) b2 rfl (ldA_blk (s := .ptr) (x := some ⟨b, 3, none⟩) (i := 3) b2 rfl
    (ldA_blk (s := .ptr) (x := some ⟨b, 4, none⟩) (i := 4) b2 rfl (ldA_blk (s := .ptr) (x := some ⟨b, 5, none⟩) (i := 5) b2 rfl (ldA_blk (s := .ptr) (x := some ⟨b, 6, none⟩) (i := 6) b2 rfl (ldA_blk (s := .ptr) (x := some ⟨b, 7, none⟩) (i := 7) b2 rfl ?_)))))))
  exact hk _ (x1.only_new o2 (Nat.le_refl _))
theorem c_fields {h : Hp} {K : ByteArray → Int → Int → ByteArray → Int → Int → ByteArray → Int → Int → ByteArray → Int → Int → ByteArray → Int → Int → ByteArray → Int → Int → ByteArray → Int → Int → ByteArray → Int → Int → Hp → Prop} (hk : ∀ h', Ext h h' → K (ByteArray.mk #[75, 105, 110, 100]) 1 4 (ByteArray.mk #[77, 101, 116, 114, 105, 99]) 1 3 (ByteArray.mk #[83, 105, 122, 101]) 0 65536 (ByteArray.mk #[67, 97, 112]) 4 256 (ByteArray.mk #[80, 111, 108, 105, 99, 121]) 1 2 (ByteArray.mk #[76, 105, 109, 105, 116]) 1 1048576 (ByteArray.mk #[67, 117, 114, 115, 111, 114, 115]) 0 64 (ByteArray.mk #[80, 105, 118, 111, 116, 115]) 0 64 h') : C_config_fields h K := by
  refine F_config_fields_ok _ _ ?_
  unfold F_config_fields
  refine push_to fun h1 b1 x1 z1 => let_to ?_
  simp only [add_mk, Nat.zero_add]
  refine stores_blk (i := 0) (vs := [.string (ByteArray.mk #[75, 105, 110, 100]), i64 1, i64 4, .string (ByteArray.mk #[77, 101, 116, 114, 105, 99]), i64 1, i64 3, .string (ByteArray.mk #[83, 105, 122, 101]), i64 0, i64 65536, .string (ByteArray.mk #[67, 97, 112]), i64 4, i64 256, .string (ByteArray.mk #[80, 111, 108, 105, 99, 121]), i64 1, i64 2, .string (ByteArray.mk #[76, 105, 109, 105, 116]), i64 1, i64 1048576, .string (ByteArray.mk #[67, 117, 114, 115, 111, 114, 115]), i64 0, i64 64, .string (ByteArray.mk #[80, 105, 118, 111, 116, 115]), i64 0, i64 64]) b1 rfl fun h2 b2 o2 _ z2 => ?_
  simp only [List.take_zero, List.nil_append] at b2
  refine ldA_blk (s := .str) (x := ByteArray.mk #[75, 105, 110, 100]) (i := 0) b2 rfl (ldA_blk (s := .int .i64) (x := 1) (i := 1) b2 rfl (ldA_blk (s := .int .i64) (x := 4) (i := 2) b2 rfl (ldA_blk (s := .str) (x := ByteArray.mk #[77, 101, 116, 114, 105, 99]) (i := 3) b2 rfl (ldA_blk (s := .int .i64) (x := 1) (i := 4) b2 rfl (ldA_blk (s := .int .i64) (x := 3) (i := 5) b2 rfl (ldA_blk (s := .str) (x := ByteArray.mk #[83, 105, 122, 101]) (i := 6) b2 rfl (ldA_blk (s := .int .i64) (x := 0) (i := 7) b2 rfl (ldA_blk (s := .int .i64) (x := 65536) (i := 8) b2 rfl (ldA_blk (s := .str) (x := ByteArray.mk #[67, 97, 112]) (i := 9) b2 rfl (ldA_blk (s := .int .i64) (x := 4) (i := 10) b2 rfl (ldA_blk (s := .int .i64) (x := 256) (i := 11) b2 rfl (ldA_blk (s := .str) (x := ByteArray.mk #[80, 111, 108, 105, 99, 121]) (i := 12) b2 rfl (ldA_blk (s := .int .i64) (x := 1) (i := 13) b2 rfl (ldA_blk (s := .int .i64) (x := 2) (i := 14) b2 rfl (ldA_blk (s := .str) (x := ByteArray.mk #[76, 105, 109, 105, 116]) (i := 15) b2 rfl (ldA_blk (s := .int .i64) (x := 1) (i := 16) b2 rfl (ldA_blk (s := .int .i64) (x := 1048576) (i := 17) b2 rfl (ldA_blk (s := .str) (x := ByteArray.mk #[67, 117, 114, 115, 111, 114, 115]) (i := 18) b2 rfl (ldA_blk (s := .int .i64) (x := 0) (i := 19) b2 rfl (ldA_blk (s := .int .i64) (x := 64) (i := 20) b2 rfl (ldA_blk (s := .str) (x := ByteArray.mk #[80, 105, 118, 111, 116, 115]) (i := 21) b2 rfl (ldA_blk (s := .int .i64) (x := 0) (i := 22) b2 rfl (ldA_blk (s := .int .i64) (x := 64) (i := 23) b2 rfl (?_))))))))))))))))))))))))
  exact hk _ (x1.only_new o2 (Nat.le_refl _))
theorem c_At0 {c0 c1 c2 c3 c4 c5 c6 c7 : Int} {h : Hp} {K : Int → Hp → Prop} (hk : ∀ h', Ext h h' → K c0 h') : C_config_At c0 c1 c2 c3 c4 c5 c6 c7 0 h K := by
  refine F_config_At_ok _ _ _ _ _ _ _ _ _ _ _ ?_
  unfold F_config_At
  refine push_to fun h1 b1 x1 z1 => let_to (c_places fun h2 x2 => push_to fun h3 b3 x3 z3 => let_to ?_)
  simp only [add_mk, Nat.zero_add]
  refine stores_blk (i := 0) (vs := [ptr h.size 0, ptr h.size 1, ptr h.size 2, ptr h.size 3, ptr h.size 4, ptr h.size 5, ptr h.size 6, ptr h.size 7]) b3 rfl fun h4 b4 o4 _ z4 => ?_
  simp only [List.take_zero, List.nil_append] at b4
  refine cnd_no rfl (cnd_no rfl ?_)
  unfold J1_config_At
  have := x1.size; have := x2.size
  refine idx_blk ⟨by decide, by decide⟩ (ldA_blk (s := .ptr) (x := some ⟨h.size, 0, none⟩) b4 rfl ?_)
  have b5 := ((b1.ext x2).ext x3).only o4 (by omega)
  exact ldA_blk (s := .int .i64) (x := c0) b5 rfl (hk _ (((x1.trans x2).trans x3).only_new o4 (by omega)))
/-- A config of zeros has no kind. -/
theorem c_Check0 {h : Hp} {K : Value → Hp → Prop} (hk : ∀ p h', Ext h h' → Flt h' p nmK 0 0 (eE 11) → K (eF (some p)) h') : C_config_Check 0 0 0 0 0 0 0 0 h K := by
  refine F_config_Check_ok _ _ _ _ _ _ _ _ _ _ ?_
  unfold F_config_Check
  refine push_to fun h1 b1 x1 z1 => let_to (c_fields fun h2 x2 => ⟨1, Lp.next ?_⟩)
  unfold L1_config_Check
  dsimp only
  refine cnd_yes rfl ⟨⟨by decide, by decide⟩, (nmK, 1, 4, ()), rfl, ?_⟩
  refine push_to fun h3 b3 x3 z3 => let_to ?_
  simp only [add_mk, Nat.zero_add]
  refine stores_blk (i := 0) (vs := [.string nmK, i64 1, i64 4]) b3 rfl fun h4 b4 o4 _ z4 => ?_
  simp only [List.take_zero, List.nil_append] at b4
  have := x1.size; have := x2.size
  have b5 := ((b1.ext x2).ext x3).only o4 (by omega)
  have x4 := ((x1.trans x2).trans x3).only_new o4 (by omega)
  refine ldA_blk (s := .int .i64) (x := 0) (i := 0) b5 rfl (ldA_blk (s := .int .i64) (x := 0) (i := 1) b5 rfl (ldA_blk (s := .int .i64) (x := 0) (i := 2) b5 rfl (ldA_blk (s := .int .i64) (x := 0) (i := 3) b5 rfl
    (ldA_blk (s := .int .i64) (x := 0) (i := 4) b5 rfl (ldA_blk (s := .int .i64) (x := 0) (i := 5) b5 rfl (ldA_blk (s := .int .i64) (x := 0) (i := 6) b5 rfl (ldA_blk (s := .int .i64) (x := 0) (i := 7) b5 rfl ?_)))))))
  refine c_At0 fun h5 x5 => ?_
  rw [Jn_eq]
  have b6 := b4.ext x5
  refine ldA_blk (s := .int .i64) (x := 1) (i := 1) b6 rfl (cnd_yes rfl ?_)
  unfold J1_config_Check
  refine cnd_yes rfl (ldA_blk (s := .str) (x := nmK) (i := 0) b6 rfl ?_)
  exact c_Wrap fun h6 x6 f6 => hk _ _ ((x4.trans x5).trans x6) f6
theorem c_lives28 {h : Hp} {K : Bool → Hp → Prop} (hg : rt0 h) (hk : ∀ h', Ext h h' → K true h') : C_law28_lives h K := by
  refine F_law28_lives_ok _ _ ?_
  unfold F_law28_lives
  refine c_Check0 fun p h1 x1 f1 => c_Where f1 ⟨_, _, rfl⟩ (x1.cell hg) fun h2 x2 => push_to fun h3 b3 x3 z3 => let_to ?_
  simp only [add_mk, Nat.zero_add]
  refine stores_blk (i := 0) (vs := [.string nmK, i64 0, .int .u64 0, eE 11]) b3 rfl fun h4 b4 o4 _ z4 => ?_
  simp only [List.take_zero, List.nil_append] at b4
  have := x1.size; have := x2.size
  have x4 : Ext h h4 := ((x1.trans x2).trans x3).only_new o4 (by omega)
  refine ldA_blk (s := .str) (x := nmK) (i := 0) b4 rfl (cnd_yes (strEq_iff.2 rfl) (ldA_blk (s := .int .i64) (x := 0) (i := 1) b4 rfl (cnd_yes rfl ?_)))
  refine c_Check0 fun p5 h5 x5 f5 => c_Code (.flt f5 (.num 11)) ((x4.trans x5).cell hg) fun h6 x6 => ?_
  exact hk _ ((x4.trans x5).trans x6)
end Go.Proofs.YtjifeclbpgonpaaDoorF
