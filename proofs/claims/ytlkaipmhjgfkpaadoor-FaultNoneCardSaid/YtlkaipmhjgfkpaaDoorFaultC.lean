/- Chapter 4: where an error is, its number, a fault around it. No condition. -/
import Derived.Test.YtlkaipmhjgfkpaaDoorAs
import Derived.Test.YtlkaipmhjgfkpaaDoorK14
import Derived.Test.YtlkaipmhjgfkpaaDoorK15
namespace Go.Proofs.YtlkaipmhjgfkpaaDoorF
open Go Go.Proofs.YtlkaipmhjgfkpaaDoorK
set_option linter.unusedSimpArgs false
set_option linter.unusedVariables false
set_option maxRecDepth 100000

/-- A fault as memory has it. -/
structure Flt (h : Hp) (p : Addr) (op : ByteArray) (at' id : Int) (e : Value) : Prop where
  c0 : hcell h p = some (.string op)
  c1 : hcell h (p.add 1) = some (.int .i64 at')
  c2 : hcell h (p.add 2) = some (.int .u64 id)
  c3 : hcell h (p.add 3) = some e
theorem Flt.ext {h h' : Hp} {p : Addr} {op : ByteArray} {a i : Int} {e : Value} (f : Flt h p op a i e) (x : Ext h h') : Flt h' p op a i e := ⟨x.cell f.c0, x.cell f.c1, x.cell f.c2, x.cell f.c3⟩
/-- An error: a number, and the faults around it, the last one first. -/
inductive ErrCh (h : Hp) : Value → List (ByteArray × Int × Int) → Int → Prop
  | num (n : Int) : ErrCh h (eE n) [] n
  | flt {p : Addr} {op : ByteArray} {a i : Int} {e : Value} {l : List (ByteArray × Int × Int)} {n : Int} : Flt h p op a i e → ErrCh h e l n → ErrCh h (eF (some p)) ((op, a, i) :: l) n
theorem ErrCh.ext {h h' : Hp} {e : Value} {l : List (ByteArray × Int × Int)} {n : Int} (c : ErrCh h e l n) (x : Ext h h') : ErrCh h' e l n := by
  induction c with
  | num n => exact .num n
  | flt f _ ih => exact .flt (f.ext x) ih
theorem ErrCh.ifc {h : Hp} {e : Value} {l : List (ByteArray × Int × Int)} {n : Int} (c : ErrCh h e l n) : ∃ t v, e = .iface t v := by
  cases c with
  | num n => exact ⟨_, _, rfl⟩
  | flt f _ => exact ⟨_, _, rfl⟩
theorem only_hit {h h1 : Hp} {b : Nat} {i : Nat} {v : Value} (x : Ext h h1) : Only b h (hset h1 ⟨b, i, none⟩ v) :=
  ⟨by rw [hset_size]; exact x.size, fun k hk hb => by rw [hset_other hb]; exact x.get k hk⟩
/-- errors.As of a fault, asked for a fault. -/
theorem c_As_FF {p : Option Addr} {tb : Nat} {old : Value} {h : Hp} {K : Bool → Hp → Prop} (ht : Blk h tb #[old]) (hg : rt0 h) (hk : ∀ h', Only tb h h' → Blk h' tb #[.pointer p] → K true h') :
    C_errors_As (eF p) (.iface T_PPfault_Fault (.pointer (some ⟨tb, 0, none⟩))) h K := by
  refine c_As_F ⟨_, _, rfl⟩ ht hg fun h1 ab x1 hab k1 => ?_
  refine F_errors_as_ok _ _ _ _ _ _ _ _ ?_
  refine push_to fun h2 b2 x2 z2 => let_to ⟨1, Lp.next (s_hit_F b2 (k1.ext x2) ((ht.ext x1).ext x2) ?_)⟩
  have x3 := (x1.trans x2).thenPush (.cells #[.pointer p] T_Pfault_Fault)
  exact hk _ (only_hit x3) (blk1_set (ht.ext x3))
/-- errors.As of a number, asked for a fault. -/
theorem c_As_EF {n : Int} {tb : Nat} {old : Value} {h : Hp} {K : Bool → Hp → Prop} (ht : Blk h tb #[old]) (hg : rt0 h) (hk : ∀ h', Ext h h' → K false h') :
    C_errors_As (eE n) (.iface T_PPfault_Fault (.pointer (some ⟨tb, 0, none⟩))) h K := by
  refine c_As_F ⟨_, _, rfl⟩ ht hg fun h1 ab x1 hab k1 => ?_
  refine F_errors_as_ok _ _ _ _ _ _ _ _ ?_
  exact push_to fun h2 b2 x2 z2 => let_to ⟨1, Lp.next (s_miss_EF (hk _ (x1.trans x2)))⟩
/-- errors.As of an error, asked for its number. -/
theorem c_As_EE {e : Value} {l : List (ByteArray × Int × Int)} {n : Int} {tb : Nat} {old : Value} {h : Hp} {K : Bool → Hp → Prop} (c : ErrCh h e l n) (ht : Blk h tb #[old]) (hg : rt0 h) (hk : ∀ h', Only tb h h' → Blk h' tb #[.int .i64 n] → K true h') :
    C_errors_As e (.iface T_Papi_Errno (.pointer (some ⟨tb, 0, none⟩))) h K := by
  refine c_As_E c.ifc ht hg fun h1 ab x1 hab k1 => ?_
  refine F_errors_as_ok _ _ _ _ _ _ _ _ ?_
  refine push_to fun h2 b2 x2 z2 => let_to ?_
  have c2 := c.ext (x1.trans x2)
  clear c
  induction c2 with
  | num n =>
    refine ⟨1, Lp.next (s_hit_E b2 (k1.ext x2) ((ht.ext x1).ext x2) ?_)⟩
    have x3 := (x1.trans x2).thenPush (.cells #[.int .i64 n] T_api_Errno)
    exact hk _ (only_hit x3) (blk1_set (ht.ext x3))
  | flt f c ih =>
    obtain ⟨k, hk2⟩ := ih hk
    obtain ⟨t, v, he⟩ := c.ifc
    exact ⟨k + 1, Lp.next (s_miss_FE f.c3 (fun e0 => by rw [he] at e0; cases e0) (fun _ _ _ => hk2) (.inr ⟨t, v, he⟩))⟩
/-- fault.Where of a fault. -/
theorem c_Where {p : Addr} {op : ByteArray} {a i : Int} {e : Value} {h : Hp} {K : ByteArray → Int → Int → Value → Bool → Hp → Prop} (f : Flt h p op a i e) (he : ∃ t v, e = .iface t v) (hg : rt0 h) (hk : ∀ h', Ext h h' → K op a i e true h') : C_fault_Where (eF (some p)) h K := by
  refine F_fault_Where_ok _ _ _ ?_
  refine push_to fun h1 b1 x1 z1 => let_to (push_to fun h2 b2 x2 z2 => let_to ?_)
  rw [Jn_eq]
  refine c_As_FF (p := some p) b2 ((x1.trans x2).cell hg) fun h3 o3 b3 => ?_
  refine cnd_no rfl (ldA_blk b3 (i := 0) (x := some p) rfl ?_)
  unfold J1_fault_Where
  refine cnd_no rfl (ldA_blk b3 (i := 0) (x := some p) rfl ?_)
  have x3 : Ext h h3 := (x1.trans x2).only_new o3 (by omega)
  have f3 := f.ext x3
  refine ⟨op, f3.c0, a, f3.c1, i, f3.c2, e, f3.c3, ?_⟩
  have b1' : Blk h3 h.size _ := (b1.ext x2).only o3 (by omega)
  obtain ⟨t, v, rfl⟩ := he
  refine set_to b1' (by simp) fun h4 b4 o4 _ z4 => ?_
  refine set_to b4 (by simp) fun h5 b5 o5 _ z5 => ?_
  refine set_to b5 (by simp) fun h6 b6 o6 _ z6 => ?_
  refine set_to b6 (by simp) fun h7 b7 o7 _ z7 => ?_
  refine ldA_blk b7 (i := 0) (x := op) rfl (ldA_blk b7 (i := 1) (x := a) rfl (ldA_blk b7 (i := 2) (x := i) rfl (ldA_blk b7 (i := 3) (x := Value.iface t v) rfl ?_)))
  exact hk _ ((((x3.only_new o4 (Nat.le_refl _)).only_new o5 (Nat.le_refl _)).only_new o6 (Nat.le_refl _)).only_new o7 (Nat.le_refl _))
/-- fault.Code of an error. -/
theorem c_Code {e : Value} {l : List (ByteArray × Int × Int)} {n : Int} {h : Hp} {K : Int → Hp → Prop} (c : ErrCh h e l n) (hg : rt0 h) (hk : ∀ h', Ext h h' → K n h') : C_fault_Code e h K := by
  refine F_fault_Code_ok _ _ _ ?_
  refine push_to fun h1 b1 x1 z1 => let_to ?_
  obtain ⟨t, v, he⟩ := c.ifc
  rw [he]
  refine ifc_some (cnd_no rfl ?_)
  rw [← he]
  refine c_As_EE (c.ext x1) b1 (x1.cell hg) fun h2 o2 b2 => ?_
  exact cnd_yes rfl (ldA_blk b2 (i := 0) (x := n) rfl (hk _ (x1.only_new o2 (Nat.le_refl _))))
/-- fault.Wrap. -/
theorem c_Wrap {op : ByteArray} {a i : Int} {t : TypeId} {v : Value} {h : Hp} {K : Value → Hp → Prop} (hk : ∀ h', Ext h h' → Flt h' ⟨h.size, 0, none⟩ op a i (.iface t v) → K (eF (some ⟨h.size, 0, none⟩)) h') : C_fault_Wrap op a i (.iface t v) h K := by
  refine F_fault_Wrap_ok _ _ _ _ _ _ ?_
  refine ifc_some (cnd_no rfl ?_)
  refine oneA_of rfl ?_
  exact push_to fun h1 b1 x1 z1 => let_to (hk _ x1 ⟨b1.cell 0, b1.cell 1, b1.cell 2, b1.cell 3⟩)
end Go.Proofs.YtlkaipmhjgfkpaaDoorF
