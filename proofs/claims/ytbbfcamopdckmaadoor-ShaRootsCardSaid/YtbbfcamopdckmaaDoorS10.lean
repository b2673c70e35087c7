/- SHA: the laws that ask no reference: ShaApart, ShaParts, ShaNone. -/
import Derived.Test.YtbbfcamopdckmaaDoorS9
import Derived.Test.YtbbfcamopdckmaaDoorFnB
set_option linter.unusedSimpArgs false
set_option linter.unusedVariables false
set_option maxRecDepth 100000
namespace Go.Proofs.YtbbfcamopdckmaaDoor
open Go Go.Sh

theorem law_apart {W : World} {a b : Slc} {la lb : List UInt8} (hg : Glob W) (ha : SlRd W a 1 (bys la)) (hal : ∀ x, a.blk = some x → x < W.heap.size) (hb : SlRd W b 1 (bys lb)) (hbl : ∀ x, b.blk = some x → x < W.heap.size)
    (h1 : a.len ≤ 1000000000000000) (h2 : b.len ≤ 1000000000000000) :
    Calls Tryd.prog 9 #[.slice a.a a.len a.cap, .slice b.a b.len b.cap] W (Ret fun v w' => v = .bool true ∧ Mod NoB W w') := by
  refine call9 _ _ ?_
  unfold sh9
  have hna := rd_len8 ha; have hnb := rd_len8 hb
  refine callK_ret (c_awake hg) ?_
  rintro v w1 ⟨rfl, hm1⟩
  refine ⟨true, rfl, ?_⟩
  show condK false _ _
  refine condK_i (fun e => by cases e) fun _ => ?_
  have e1 : IntKind.i64.wrap ((a.len : Int) + (b.len : Int)) = ((a.len + b.len : Nat) : Int) := by rw [wrap_i64 (by omega)]; omega
  rw [e1]
  refine condK_i (fun _ => ⟨rfl, hm1⟩) fun h => ?_
  have hsm : a.len + b.len ≤ 3000 := by simp at h; omega
  refine callK_ret (c_newF (hg.no hm1) hm1) ?_
  rintro v w2 ⟨x, rfl, hx2, hxf, hm2⟩
  have hM2 := hm1.tr hm2
  have hxF : ∀ y, HSet x ⟨none, 0, 0⟩ y → W.heap.size ≤ y := fun y hy => Nat.le_trans hm1.size (hxf y hy)
  refine ⟨_, rfl, callK_ret (c_newF (hg.no hM2) hM2) ?_⟩
  rintro v w3 ⟨y, rfl, hy3, hyf, hm3⟩
  have hM3 := hM2.tr hm3
  have hyF : ∀ z, HSet y ⟨none, 0, 0⟩ z → W.heap.size ≤ z := fun z hz => Nat.le_trans hM2.size (hyf z hz)
  have hx3 := hx2.no hm3
  have hd3 : ∀ z, HSet x ⟨none, 0, 0⟩ z → ¬ HSet y ⟨none, 0, 0⟩ z := fun z hz hz' => by have := hx2.low hz; have := hyf z hz'; omega
  -- x gets a, y gets b
  refine ⟨_, rfl, step_write (W := W) (ss := [a]) (pl := [la]) hx3 (hg.no hM3) hxF hM3 rfl rfl (by omega) (by omega) rfl (rows1 ha hal) (by simp; omega) ?_⟩
  intro sx4 w4 hx4 hg4 hxF4 hxs4 hm4 hM4 hsz4
  have hy4 := hy3.keep hm4 fun z hz hz' => hd3 z hz' hz
  have hd4 := disj_sub hd3 hxs4 fun z hz => hy3.low hz
  refine step_write (W := W) (ss := [b]) (pl := [lb]) hy4 hg4 hyF hM4 rfl rfl (by omega) (by omega) rfl (rows1 hb hbl) (by simp; omega) ?_
  intro sy5 w5 hy5 hg5 hyF5 hys5 hm5 hM5 hsz5
  have hx5 := hx4.keep hm5 hd4
  have hd5 : ∀ z, HSet x sx4 z → ¬ HSet y sy5 z := fun z hz hz' => disj_sub (fun z h h' => hd4 z h' h) hys5 (fun z hz => hx4.low hz) z hz' hz
  -- z is a copy of x
  refine callK_ret (c_copy hx5 hg5 (by simp; omega)) ?_
  rintro v w6 ⟨z, sz, rfl, hz6, hzp, hzs, hm6⟩
  have hM6 := hM5.tr hm6
  have hg6 := hg5.no hm6
  have hx6 := hx5.no hm6; have hy6 := hy5.no hm6
  have hzF5 : ∀ y, HSet z sz y → w5.heap.size ≤ y := fun y hy => hy.elim (fun e => by omega) fun e => FB.of hzs y e
  have hzF : ∀ y, HSet z sz y → W.heap.size ≤ y := fun y hy => Nat.le_trans hM5.size (hzF5 y hy)
  have hxz : ∀ y, HSet x sx4 y → ¬ HSet z sz y := fun q hq hq' => by have := hx5.low hq; have := hzF5 q hq'; omega
  have hyz : ∀ q, HSet y sy5 q → ¬ HSet z sz q := fun q hq hq' => by have := hy5.low hq; have := hzF5 q hq'; omega
  -- x gets b
  refine ⟨_, rfl, step_write (W := W) (ss := [b]) (pl := [lb]) hx6 hg6 hxF4 hM6 rfl rfl (by omega) (by omega) rfl (rows1 hb hbl) (by simp; omega) ?_⟩
  intro sx7 w7 hx7 hg7 hxF7 hxs7 hm7 hM7 hsz7
  have hy7 := hy6.keep hm7 fun q hq hq' => hd5 q hq' hq
  have hz7 := hz6.keep hm7 fun q hq hq' => hxz q hq' hq
  have hd7 := disj_sub hd5 hxs7 fun q hq => hy6.low hq
  have hxz7 := disj_sub hxz hxs7 fun q hq => hz6.low hq
  -- y gets a
  refine step_write (W := W) (ss := [a]) (pl := [la]) hy7 hg7 hyF5 hM7 rfl rfl (by omega) (by omega) rfl (rows1 ha hal) (by simp; omega) ?_
  intro sy8 w8 hy8 hg8 hyF8 hys8 hm8 hM8 hsz8
  have hx8 := hx7.keep hm8 hd7
  have hz8 := hz7.keep hm8 fun q hq hq' => hyz q hq' hq
  have hyz8 := disj_sub hyz hys8 fun q hq => hz7.low hq
  -- z gets a, b
  refine step_write (W := W) (ss := [a, b]) (pl := [la, lb]) hz8 hg8 hzF hM8 rfl rfl (by omega) (by omega) rfl (rows2 ha hal hb hbl) (by simp; omega) ?_
  intro sz9 w9 hz9 hg9 hzF9 hzs9 hm9 hM9 hsz9
  have hx9 := hx8.keep hm9 hxz7
  have hy9 := hy8.keep hm9 hyz8
  -- the sums
  refine step_sum (W := W) (ss := [a, b]) (pl := [la, lb]) hg9 hM9 rfl rfl (by omega) (by omega) rfl (rows2 ha hal hb hbl) (by simp; omega) ?_
  intro q1 w10 ho10 _ hm10
  refine step_sum (W := W) (ss := [b, a]) (pl := [lb, la]) (hg9.no hm10) (hM9.tr hm10) rfl rfl (by omega) (by omega) rfl (rows2 hb hbl ha hal) (by simp; omega) ?_
  intro q2 w11 ho11 _ hm11
  have hm911 := hm10.tr hm11
  refine step_sum (W := W) (ss := [a, a, b]) (pl := [la, la, lb]) (hg9.no hm911) (hM9.tr hm911) rfl rfl (by omega) (by omega) rfl (rows3 ha hal ha hal hb hbl) (by simp; omega) ?_
  intro q3 w12 ho12 _ hm12
  have hm912 := hm911.tr hm12
  refine step_same (hx9.no hm912) (hg9.no hm912) ((ho10.no hm11).no hm12).rd (by simp; omega) fun w13 hm13 => ?_
  have hm913 := hm912.tr hm13
  have t1 : decide (sha ([] ++ [la].flatten ++ [lb].flatten) = sha [la, lb].flatten) = true := by simp
  rw [t1]
  refine condK_i (fun _ => ?_) fun e => by cases e
  refine step_same (hy9.no hm913) (hg9.no hm913) ((ho11.no hm12).no hm13).rd (by simp; omega) fun w14 hm14 => ?_
  have hm914 := hm913.tr hm14
  have t2 : decide (sha ([] ++ [lb].flatten ++ [la].flatten) = sha [lb, la].flatten) = true := by simp
  rw [t2]
  refine condK_i (fun _ => ?_) fun e => by cases e
  refine step_same (hz9.no hm914) (hg9.no hm914) ((ho12.no hm13).no hm14).rd (by simp; omega) fun w15 hm15 => ?_
  have t3 : decide (sha ([] ++ [la].flatten ++ [la, lb].flatten) = sha [la, la, lb].flatten) = true := by simp
  rw [t3]
  exact ⟨rfl, (hM9.tr hm914).tr hm15⟩
end Go.Proofs.YtbbfcamopdckmaaDoor
