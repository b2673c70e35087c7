/- SHA: the digests of parts are the document's. -/
import Derived.Test.YtbbfcamopdckmaaDoorD3
import Derived.Test.YtbbfcamopdckmaaDoorF5
import Derived.Test.YtbbfcamopdckmaaDoorS12
set_option linter.unusedSimpArgs false
set_option linter.unusedVariables false
set_option maxRecDepth 100000
namespace Go.Proofs.YtbbfcamopdckmaaDoor
open Go Go.Sh

section
variable {H : Type} {enc : TypeId × Value → H} {W : World}
theorem bytes24 : Tryd.prog.bytesOf 26 = 24 := by kernel_rfl
theorem len_boundR {ts : List TypeId} {ds : List (DataW H)} (h : (DataW.weightsEach Tryd.prog ts ds).all (· ≤ reachBytes) = true) {j : Nat} (ht : ts[j]? = some 22) {a : Option Addr} {len cap fuel : Nat} {d : DataW H} {p : List MemPlace}
    (hd : ds[j]? = some d) (hf : DataW.trod enc Tryd.prog W 0 (fun _ => true) true fuel 22 [.slice a len cap] = some (d, p)) : len ≤ 1000000000000000 := by
  obtain ⟨V, h1, h2, h3, h4⟩ := row_of u22 cells26 hf
  have hl : len ≤ cap := h1.2.1
  rcases h4 with ⟨_, hc⟩ | ⟨es, ss, e, hc⟩
  · omega
  · have e' : d = .slice es ss := e
    subst e'
    have := sized_slice h ht hd u22
    rw [bytes24, hc] at this
    have := reachBytes_lt
    omega
end

theorem law_sums {W : World} {l : Slc} {pl : List (List UInt8)} (hg : Glob W) (hp : PartsAt W l pl (fun x => x < W.heap.size)) (hl : l.len ≤ 1000000000000000) :
    Calls Tryd.prog 3 #[.slice l.a l.len l.cap] W (Ret fun v w' => v = .bool true ∧ Mod NoB W w') := by
  refine call3 _ ?_
  unfold sh3
  refine callK_ret (c_awake hg) ?_
  rintro v w1 ⟨rfl, hm1⟩
  refine ⟨true, rfl, ?_⟩
  show condK false _ _
  refine condK_i (fun e => by cases e) fun _ => ?_
  have hp1 := hp.mod hm1 fun _ _ h => h
  refine callK_ret (c_smallL hp1 (by omega)) ?_
  rintro v w1 ⟨b, rfl, rfl, hb⟩
  refine ⟨b, rfl, condK_i (fun _ => ⟨rfl, hm1⟩) fun hbt => ?_⟩
  obtain ⟨h40, h3000⟩ := hb (by simpa using hbt)
  have hX1 : ∀ x, x < W.heap.size → x < w1.heap.size := fun x hx => Nat.lt_of_lt_of_le hx hm1.size
  refine callK_ret (c_lentRows hp1 hX1 (by omega) (by omega)) ?_
  rintro v w3 ⟨x, rfl, hx, hm3⟩
  have hM3 := hm1.tr hm3
  refine ⟨x, rfl, ?_⟩
  have hpx := hx.parts
  have hxl : x.len = l.len := by have := row_blk hpx; have := row_blk hp; omega
  have hpl : pl.length ≤ 40 := by have := row_blk hp; omega
  refine callK_ret (c_sum (hg.no hM3) hpx (fun _ h => h) (by omega) (by omega)) ?_
  rintro v w4 ⟨x3, rfl, ho3, hf3, hm4⟩
  refine ⟨x3, rfl, ?_⟩
  refine callK_ret (c_sum (hg.no (hM3.tr hm4)) ((hx.no hm4).parts) (fun _ h => h) (by omega) (by omega)) ?_
  rintro v w5 ⟨x4, rfl, ho4, hf4, hm5⟩
  have hM5 := (hM3.tr hm4).tr hm5
  have hp5 := hp.mod hM5 fun _ _ h => h
  refine ⟨x4, rfl, fun l' w' => l' = [.b false] ∧ Mod NoB w5 w', ?_, ?_⟩
  · refine callK_ret (c_together hp5 (by omega) (by omega) fun x hx => Nat.lt_of_lt_of_le hx hM5.size) ?_
    rintro v w6 ⟨x5, rfl, ho5, hf5, hm6⟩
    refine ⟨x5, rfl, callK_ret (c_ref ho5.rd (by omega)) ?_⟩
    rintro v w7 ⟨x6, rfl, ho6, hf6, hm7⟩
    have h57 := hm6.tr hm7
    refine ⟨x6, rfl, callK_ret (c_same ((ho3.no hm5).no h57).rd ho6.rd (by rw [sha_len]; omega)) ?_⟩
    rintro v w8 ⟨rfl, hm8⟩
    refine ⟨_, rfl, condK_i (fun e => by simp at e) fun _ => ?_⟩
    have h58 := h57.tr hm8
    refine callK_ret (c_same ((ho3.no hm5).no h58).rd (ho4.no h58).rd (by rw [sha_len]; omega)) ?_
    rintro v w9 ⟨rfl, hm9⟩
    refine ⟨_, rfl, condK_i (fun e => by simp at e) fun _ => ?_⟩
    have h59 := h58.tr hm9
    refine callK_ret (c_keptRows (((hx.no hm4).no hm5).no h59) (hp5.mod h59 fun _ _ h => h) (by omega) (by omega)) ?_
    rintro v w10 ⟨rfl, hm10⟩
    exact ⟨_, rfl, rfl, h59.tr hm10⟩
  · rintro x10 w11 ⟨he, hm11⟩
    simp at he; subst he
    refine condK_i (fun e => by cases e) fun _ => ?_
    have hM11 := hM5.tr hm11
    refine sem_rows [x3, x4] rfl rfl (by omega) (by omega) fun y e w12 hN12 hy hb12 ho12 => ⟨y, rfl, ?_⟩
    have h312 := (hm5.tr hm11).tr hN12.mod
    have h412 := hm11.tr hN12.mod
    have hl3 := rd_len8 ho3.rd
    have hl4 := rd_len8 ho4.rd
    rw [sha_len] at hl3 hl4
    have hb34 : ∀ z, x3.blk = some z → x4.blk ≠ some z := fun z h h' => by
      have := ho3.lt h
      have := hf4 z h'
      omega
    refine callK_ret (c_apartBytes (ss := [x3, x4]) ho12.rd (fun k hk => ?_) (fun i j hi hj hij z h h' => ?_) (by simp)) ?_
    · match k, hk with
      | 0, _ => exact ⟨⟨_, ho3.no h312⟩, by show x3.len ≤ _; omega⟩
      | 1, _ => exact ⟨⟨_, ho4.no h412⟩, by show x4.len ≤ _; omega⟩
    · match i, j, hi, hj with
      | 0, 0, _, _ => exact hij rfl
      | 1, 1, _, _ => exact hij rfl
      | 0, 1, _, _ => exact hb34 z h h'
      | 1, 0, _, _ => exact hb34 z h' h
    · rintro v w13 ⟨rfl, hm13⟩
      refine ⟨true, rfl, rfl, (hM11.tr hN12.mod).fresh hm13 ?_⟩
      rintro z ⟨k, hk, hz⟩
      match k, hk with
      | 0, _ => have := hf3 z hz; have := hM3.size; omega
      | 1, _ => have := hf4 z hz; have := hM3.size; have := hm4.size; omega
end Go.Proofs.YtbbfcamopdckmaaDoor
