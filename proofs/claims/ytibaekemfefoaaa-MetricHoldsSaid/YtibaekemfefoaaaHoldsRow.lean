/- Chapter 9: MetricHolds, and over its arguments as memory has them. No condition of its own. -/
import Derived.Test.YtibaekemfefoaaaHoldsLaw
import Derived.Test.YtibaekemfefoaaaArgObs
namespace Go.Proofs.YtibaekemfefoaaaF
open Go Go.Proofs.YtibaekemfefoaaaK
set_option linter.unusedSimpArgs false
set_option linter.unusedVariables false
theorem ObX.ext {h h' : Hp} {x : StA OT} {o : Ob} (r : ObX h x o) (e : Ext h h') : ObX h' x o := ⟨r.str, r.vec.ext e, r.ok⟩
theorem three_row {h h1 : Hp} {x y z : StA OT} {a b c : Ob} (rx : ObX h x a) (ry : ObX h y b) (rz : ObX h z c) (e : Ext h h1) {cs : Array Value} {p : Nat} (bx : Blk h1 p cs) (hc : cs.toList = [x, y, z].flatMap (vsA OT)) : XRow h1 ⟨some ⟨p, 0, none⟩, 3, 3⟩ [a, b, c] := by
  refine ⟨[x, y, z], Blk.row encOT bx (l := [x, y, z]) (cap := 3) (Nat.le_refl _) hc, rfl, fun i u o hu ho => ?_⟩
  match i, hu, ho with
  | 0, hu, ho => cases hu; cases ho; exact rx.ext e
  | 1, hu, ho => cases hu; cases ho; exact ry.ext e
  | 2, hu, ho => cases hu; cases ho; exact rz.ext e
  | _ + 3, hu, ho => simp at hu
theorem obj_to {g : Hp} {b : Nat} {x : StA OT} {K : Int → Sl → ByteArray → Prop} (r : Blk g b (vsA OT x).toArray) (hk : K (oTag x) (oVec x) (oStr x)) :
    someA (some (⟨b, 0, none⟩ : Addr)) fun p => ldA (.int .i64) g p fun a => ldA .sl g (Addr.add p 1) fun c => ldA .str g (Addr.add p 2) fun d => K a c d := by
  show ldA (.int .i64) g ⟨b, 0, none⟩ _
  refine ldA_blk (s := .int .i64) (i := 0) (x := oTag x) r rfl ?_
  rw [add_mk, add_mk]
  exact ldA_blk (s := .sl) (i := 1) (x := oVec x) r rfl (ldA_blk (s := .str) (i := 2) (x := oStr x) r rfl hk)
def pick3 {α : Type} (x y z : α) : Nat → α
  | 0 => x
  | 1 => y
  | _ => z
theorem metricHolds_ok {n size : Int} {x y z : StA OT} {a b c : Ob} {h : Hp} (rx : ObX h x a) (ry : ObX h y b) (rz : ObX h z c) :
    C_law09_MetricHolds n size (oTag x) (oVec x) (oStr x) (oTag y) (oVec y) (oStr y) (oTag z) (oVec z) (oStr z) h fun t h' => t = true ∧ Ext h h' := by
  refine F_law09_MetricHolds_ok _ _ _ _ _ _ _ _ _ _ _ _ _ (push_to fun h1 b1 e1 z1 => let_to ?_)
  have R := @mh_reg h.size h1 (pick3 x y z) b1
  unfold mhOps at R
  refine R fun p q r h3 bp bq br e3 => ?_
  clear R
  change Blk h3 p (vsA OT x).toArray at bp
  change Blk h3 q (vsA OT y).toArray at bq
  change Blk h3 r (vsA OT z).toArray at br
  have x3 := e1.trans e3
  replace rx := rx.ext x3
  replace ry := ry.ext x3
  replace rz := rz.ext x3
  rw [Jn_eq]
  have jt : ∀ g, Ext h3 g → J2_law09_MetricHolds n (fun t h' => t = true ∧ Ext h h') (some ⟨p, 0, none⟩, some ⟨q, 0, none⟩, some ⟨r, 0, none⟩, ()) (true, ()) g := fun g e => by
    unfold J2_law09_MetricHolds
    exact cnd_yes rfl (l_lives09 fun g' e' => ⟨rfl, (x3.trans e).trans e'⟩)
  refine obj_to bp ?_
  refine r_Right rx fun t1 h4 ht1 e4 => cnd_not.2 (cnd_if (fun hl1 => ?_) fun _ => jt _ e4)
  refine obj_to (bq.ext e4) ?_
  refine r_Right (ry.ext e4) fun t2 h5 ht2 e5 => cnd_not.2 (cnd_if (fun hl2 => ?_) fun _ => jt _ (e4.trans e5))
  replace e5 := e4.trans e5
  refine obj_to (br.ext e5) ?_
  refine r_Right (rz.ext e5) fun t3 h6 ht3 e6 => cnd_not.2 (cnd_if (fun hl3 => ?_) fun _ => jt _ (e5.trans e6))
  replace e6 := e5.trans e6
  refine obj_to (bp.ext e6) (obj_to (bq.ext e6) (obj_to (br.ext e6) (push_to fun h7 b7 e7 z7 => let_to ?_)))
  replace e7 := e6.trans e7
  refine r_Short (three_row rx ry rz e7 b7 rfl) (by show (3 : Nat) ≤ 140737488355328; decide) fun t hs => ?_
  cases t with
  | false => exact jt _ e7
  | true =>
  have ss := hs rfl
  have s1 := ss a (by simp)
  have s2 := ss b (by simp)
  have s3 := ss c (by simp)
  have ra := ht1 hl1
  have rb := ht2 hl2
  have rc := ht3 hl3
  have m1 : Sm a := ⟨by omega, by omega⟩
  have m2 : Sm b := ⟨by omega, by omega⟩
  have m3 : Sm c := ⟨by omega, by omega⟩
  have qx := rx.small s1
  have qy := ry.small s2
  have qz := rz.small s3
  have oz := od_zero ra rb
  have nab := od_nn n a b
  have nac := od_nn n a c
  have ncb := od_nn n c b
  have mab := od_max (n := n) qx.ok qy.ok m1 m2
  have mac := od_max (n := n) qx.ok qz.ok m1 m3
  have mcb := od_max (n := n) qz.ok qy.ok m3 m2
  unfold J2_law09_MetricHolds
  refine cnd_no rfl ?_
  refine obj_to (bp.ext e7) (obj_to (bq.ext e7) ?_)
  refine c_mDist (qx.ext e7) (qy.ext e7) fun h8 e8 => ?_
  replace e8 := e7.trans e8
  refine obj_to (bp.ext e8) (obj_to (bq.ext e8) ?_)
  refine r_Same (qx.ext e8) (qy.ext e8) oz.1 fun ts h9 hts e9 => ?_
  replace e9 := e8.trans e9
  refine cnd_yes ?_ (cnd_yes (decide_eq_true nab) (cnd_yes (decide_eq_true mab) ?_))
  · rw [beq_iff_eq, Bool.eq_iff_iff, beq_iff_eq, hts]; exact oz.2
  refine obj_to (bq.ext e9) (obj_to (bp.ext e9) ?_)
  refine c_mDist (qy.ext e9) (qx.ext e9) fun h10 e10 => cnd_yes (beq_iff_eq.2 (od_comm _ _ _)) ?_
  replace e10 := e9.trans e10
  refine obj_to (bp.ext e10) (obj_to (br.ext e10) ?_)
  refine c_mDist (qx.ext e10) (qz.ext e10) fun h11 e11 => ⟨e11, ?_⟩
  refine obj_to (br.ext e10) (obj_to (bq.ext e10) ?_)
  refine c_mDist ((qz.ext e10).ext e11) ((qy.ext e10).ext e11) fun h12 e12 => let_to ?_
  replace e12 := (e10.trans e11).trans e12
  rw [wrap_i64 (by omega) (by omega)]
  refine cnd_yes (decide_eq_true (od_tri ra rb rc)) ?_
  refine obj_to (bp.ext e12) (obj_to (bq.ext e12) ?_)
  refine c_mLeast (qx.ext e12) (qy.ext e12) fun h13 e13 => cnd_yes (decide_eq_true (oleast_le ra rb)) ?_
  exact l_lives09 fun g' e' => ⟨rfl, ((x3.trans e12).trans e13).trans e'⟩
theorem metricHolds_row (h : Hp) (x0 : Int) (_ : (Lit.int .i64 x0).wf = true) {m0 : Nat} (_ : Arg Try.prog h 3 (.int .i64 x0) m0) (x1 : Int) (_ : (Lit.int .i64 x1).wf = true) {m1 : Nat} (_ : Arg Try.prog h 3 (.int .i64 x1) m1) (cs : Array Value) {m2 : Nat} (g : Arg Try.prog h 25 (.agg cs) m2) :
    CallT Try.prog 3 [.int .i64 x0, .int .i64 x1, .agg cs] [.at .bool] h fun s h' => s.1 = true ∧ Ext h h' := by
  have hC : Try.prog.cellsOf 24 = 3 := by kernel_rfl
  have hC9 : Try.prog.cellsOf 25 = 9 := by kernel_rfl
  have hk : kinds Try.prog 16 24 = some OT := by kernel_rfl
  obtain ⟨fuel, g⟩ := g
  cases fuel with
  | zero => exact g.elim
  | succ f =>
  unfold Rd at g
  obtain ⟨_, g⟩ := g
  rw [show Try.prog.underlying 25 = some (.array 3 24) by kernel_rfl] at g
  obtain ⟨hl, ms, _, _, hf⟩ := g
  rw [hC9] at hl
  have el : ∀ i, i < 3 → ∃ x : StA OT, (cs.toList.drop (i * 3)).take 3 = vsA OT x ∧ ∃ o : Ob, ObX h x o := fun i hi => by
    obtain ⟨mi, _, r⟩ := hf i hi
    rw [hC] at r
    obtain ⟨x, hx⟩ := (rd_kinds 16 f hk hC r (by rw [List.length_take, List.length_drop, hl]; show min 3 (9 - i * 3) = 3; omega)).ty
    rw [hx] at r
    obtain ⟨o, ho, _⟩ := rd_ob r
    exact ⟨x, hx, o, ho⟩
  obtain ⟨x, hx, a, rx⟩ := el 0 (by omega)
  obtain ⟨y, hy, b, ry⟩ := el 1 (by omega)
  obtain ⟨z, hz, c, rz⟩ := el 2 (by omega)
  have e : cs.toList = vsA OT x ++ vsA OT y ++ vsA OT z := by
    rw [← hx, ← hy, ← hz]
    obtain ⟨l⟩ := cs
    match l, hl with
    | [_, _, _, _, _, _, _, _, _], _ => rfl
  obtain rfl : cs = (vsA OT x ++ vsA OT y ++ vsA OT z).toArray := by rw [← e]
  exact metricHolds_ok rx ry rz
end Go.Proofs.YtibaekemfefoaaaF
