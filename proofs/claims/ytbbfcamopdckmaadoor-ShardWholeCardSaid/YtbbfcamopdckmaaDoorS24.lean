/- Shard: the document's bits, way and shard; the chapter's example. -/
import Derived.Test.YtbbfcamopdckmaaDoorS23
set_option linter.unusedSimpArgs false
set_option linter.unusedVariables false
set_option maxRecDepth 100000
namespace Go.Proofs.YtbbfcamopdckmaaDoor
open Go Go.Sh

theorem u8_all {p : UInt8 → Prop} (h : ∀ n : Fin 256, p (UInt8.ofNat n.val)) (x : UInt8) : p x := by
  have := h ⟨x.toNat, x.toNat_lt⟩
  simpa using this
theorem bit_01 (d : List UInt8) (i : Nat) : bit d i = 0 ∨ bit d i = 1 := by
  unfold bit
  generalize shrU8 _ _ = x
  exact u8_all (p := fun x => x &&& 1 = 0 ∨ x &&& 1 = 1) (by decide +kernel) x
theorem of_bits (d : List UInt8) : 2 * ((bit d 0).toNat : Int) + ((bit d 1).toNat : Int) = shardOf d := by
  unfold bit shardOf
  simp only [show 0 / 8 = 0 from rfl, show 1 / 8 = 0 from rfl, show 7 - 0 % 8 = 7 from rfl, show 7 - 1 % 8 = 6 from rfl]
  generalize d.getD 0 0 = x
  exact u8_all (p := fun x => 2 * (((shrU8 x 7) &&& 1).toNat : Int) + (((shrU8 x 6) &&& 1).toNat : Int) = ((shrU8 x 6).toNat : Int)) (by decide +kernel) x
theorem shard_small (d : List UInt8) : 0 ≤ shardOf d ∧ shardOf d ≤ 3 := by
  unfold shardOf
  generalize d.getD 0 0 = x
  exact u8_all (p := fun x => 0 ≤ ((shrU8 x 6).toNat : Int) ∧ ((shrU8 x 6).toNat : Int) ≤ 3) (by decide +kernel) x

/-- the document's bits -/
theorem c_refBits {w : World} {key : List UInt8} (hn : key.length ≤ 800000000) :
    Calls Tryd.prog 51 #[.string ⟨key.toArray⟩] w (Ret fun v w' => ∃ x : Slc, v = x.val ∧ Sh.Own w' x 1 (bys (bitsFrom (dg key) 0 512)) ∧ FB w x ∧ Mod NoB w w') := by
  refine call51 _ ?_
  unfold sh51
  obtain ⟨i5', h51, h52, h53, h54⟩ := i5
  have h64 := dg_len key
  refine sem_bytes [6] (by rfl) rfl (by decide) (by decide) fun x e w1 hN1 hx hbx hox => ⟨x, rfl, ?_⟩
  have hxb := blk_of_eq hx
  have hxl : x.len = 1 := by rw [hx]
  refine sem_append_str u26 uStr h51 h52 h53 rfl h54 hox (by omega) (by omega) fun y w2 hoy hyl hyb hm2 => ⟨y, rfl, ?_⟩
  have hat1 := hN1.at_; have hsz1 := hN1.size
  have hm2' : Mod NoB w w2 := hN1.mod.fresh hm2 fun z hz => by have := hxb z hz; omega
  rw [← bys_app] at hoy
  refine callK_ret (c_ref hoy.rd (by simp; omega)) ?_
  rintro v w3 ⟨d, rfl, hod, hfd, hm3⟩
  have hM3 := hm2'.tr hm3
  have hdl : d.len = 64 := by have := rd_len8 hod.rd; rw [sha_len] at this; omega
  refine ⟨d, rfl, fun l' w' => match l' with | [.sl q, .i _ i] => ∃ k : Nat, i = k ∧ k ≤ 64 ∧ Sh.Own w' q 1 (bys (bitsFrom (dg key) 0 (8 * k))) ∧ FB w3 q ∧ Mod NoB w3 w' | _ => False, fun l' _ => match l' with | [.sl q, .i _ i] => (64 - i).toNat | _ => 0,
    ⟨0, rfl, by omega, own_nil _ _, FB.nil _, Mod.refl _ _⟩, ?_⟩
  rintro q i w4 ⟨k, rfl, hk, hoq, hfq, hm4⟩
  refine condK_i (fun hlt => ?_) fun hge => ?_
  · have hk' : k < 64 := by simp at hlt; omega
    refine ⟨fun l' w' => match l' with | [.sl q, .i _ i] => ∃ t : Nat, i = 7 - (t : Int) ∧ t ≤ 8 ∧ Sh.Own w' q 1 (bys (bitsFrom (dg key) 0 (8 * k + t))) ∧ FB w3 q ∧ Mod NoB w3 w' | _ => False, fun l' _ => match l' with | [.sl q, .i _ i] => (i + 1).toNat | _ => 0,
      ⟨0, by omega, by omega, hoq, hfq, hm4⟩, ?_⟩
    rintro q1 j w5 ⟨t, rfl, ht, hoq1, hfq1, hm5⟩
    refine condK_i (fun hj => ?_) fun hj => ?_
    · have ht' : t < 8 := by simp at hj; omega
      obtain ⟨a, ea, hra⟩ := rd_u8 (hod.rd.no hm5) (i := k) (by rw [sha_len]; omega)
      rw [ea]
      have e1 : (u64OfInt (7 - (t : Int))).toNat = 7 - t := by
        rw [show (7 - (t : Int)) = ((7 - t : Nat) : Int) by omega, u64_nat, UInt64.toNat_ofNat', Nat.mod_eq_of_lt (by omega)]
      refine ⟨⟨by omega, by omega⟩, _, hra, by omega, ?_⟩
      rw [e1]
      simp only [Int.toNat_natCast]
      have e2 : shrU8 ((sha ([6] ++ key))[k]'(by rw [sha_len]; omega)) (7 - t) &&& 1 = bit (dg key) (8 * k + t) := by
        unfold bit
        rw [show (8 * k + t) / 8 = k by omega, show 7 - (8 * k + t) % 8 = 7 - t by omega, List.getD_eq_getElem?_getD, List.getElem?_eq_getElem (by omega : k < (dg key).length)]
        rfl
      rw [e2]
      refine sem_byte (w0 := w3) hoq1 hfq1 hm5 (by simp; omega) fun q2 w6 ho6 hf6 hm6 hl6 => ⟨⟨t + 1, by rw [wrap_i64 (by omega)]; omega, by omega, ?_, hf6, hm6⟩, ?_⟩
      · rw [← Nat.add_assoc, bitsFrom_succ, Nat.zero_add]; exact ho6
      · rw [wrap_i64 (by omega)]; (try simp only []); omega
    · have ht' : t = 8 := by simp at hj; omega
      subst ht'
      refine ⟨⟨k + 1, wrap_nat (by omega), by omega, by rw [Nat.mul_add]; exact hoq1, hfq1, hm5⟩, ?_⟩
      rw [wrap_nat (by omega)]; (try simp only []); omega
  · have hk' : k = 64 := by simp at hge; omega
    subst hk'
    exact ⟨q, rfl, hoq, hfq.le hM3.size, hM3.tr hm4⟩
theorem bits_at {w w' : World} {x : Slc} {d : List UInt8} (h : Sh.Own w x 1 (bys (bitsFrom d 0 512))) {i : Nat} (hi : i < 512) (hm : Mod NoB w w') : ∃ a, x.a = some a ∧ Rd w' (a.add (i * 1)) [.int .u8 (bit d i).toNat] := by
  obtain ⟨a, ea, hr⟩ := rd_u8 (h.rd.no hm) (i := i) (by simp; omega)
  refine ⟨a, ea, ?_⟩
  have : (bitsFrom d 0 512)[i]'(by simp; omega) = bit d i := by simp [bitsFrom]
  rwa [this] at hr
/-- the document's shard -/
theorem c_refOf {w : World} {key : List UInt8} (hn : key.length ≤ 800000000) :
    Calls Tryd.prog 33 #[.string ⟨key.toArray⟩] w (Ret fun v w' => v = .int .i64 (shardOf (dg key)) ∧ Mod NoB w w') := by
  refine call33 _ ?_
  unfold sh33
  refine callK_ret (c_refBits hn) ?_
  rintro v w1 ⟨x, rfl, ho, hf, hm⟩
  have hl : x.len = 512 := by have := rd_len8 ho.rd; simp at this; omega
  obtain ⟨a, ea, hr⟩ := bits_at ho (i := 0) (by omega) (Mod.drew _ _)
  obtain ⟨a', ea', hr'⟩ := bits_at ho (i := 1) (by omega) (Mod.drew _ _)
  refine ⟨x, rfl, ⟨by omega, by omega⟩, ?_⟩
  rw [ea]
  refine ⟨⟨by omega, by omega⟩, _, hr, ?_⟩
  rw [ea] at ea'; cases ea'
  refine ⟨_, hr', ?_, Mod.dr hm⟩
  rw [← of_bits]
  have h0 := (bit (dg key) 0).toNat_lt
  have h1 := (bit (dg key) 1).toNat_lt
  rw [wrap_i64 (e := 2 * _) (by omega), wrap_i64 (by omega)]
/-- the document's way -/
theorem c_refBitsS {w : World} {key : List UInt8} (hn : key.length ≤ 800000000) :
    Calls Tryd.prog 35 #[.string ⟨key.toArray⟩] w (Ret fun v w' => v = .string ⟨(way (dg key)).toArray⟩ ∧ Mod NoB w w') := by
  refine call35 _ ?_
  unfold sh35
  refine callK_ret (c_refBits hn) ?_
  rintro v w1 ⟨x, rfl, ho, hf, hm⟩
  have hl : x.len = 512 := by have := rd_len8 ho.rd; simp at this; omega
  refine ⟨x, rfl, fun l' w' => match l' with | [.s s, .i _ i] => ∃ k : Nat, i = ((k + 2 : Nat) : Int) ∧ k ≤ 510 ∧ s = (bitsFrom (dg key) 2 k).map (48 + ·) ∧ w' = w1 | _ => False, fun l' _ => match l' with | [.s s, .i _ i] => (512 - i).toNat | _ => 0,
    ⟨0, rfl, by omega, rfl, rfl⟩, ?_⟩
  rintro s i w2 ⟨k, rfl, hk, rfl, rfl⟩
  refine condK_i (fun hlt => ?_) fun hge => ?_
  · have hk' : k < 510 := by simp at hlt; omega
    obtain ⟨a, ea, hr⟩ := bits_at ho (i := k + 2) (by omega) (Mod.refl _ _)
    rw [ea]
    refine ⟨⟨by omega, by omega⟩, _, hr, ?_⟩
    have hs : ∀ c : UInt8, bit (dg key) (k + 2) = c - 48 → (bitsFrom (dg key) 2 k).map (48 + ·) ++ [c] = (bitsFrom (dg key) 2 (k + 1)).map (48 + ·) := by
      intro c hc
      rw [bitsFrom_succ, List.map_append, show 2 + k = k + 2 by omega, hc]
      have : (48 : UInt8) + (c - 48) = c := by
        exact u8_all (p := fun c => (48 : UInt8) + (c - 48) = c) (by decide +kernel) c
      simp [this]
    have hw : IntKind.i64.wrap (((k + 2 : Nat) : Int) + 1) = ((k + 1 + 2 : Nat) : Int) := by rw [wrap_nat (by omega)]
    refine condK_i (fun h1 => ⟨by simp; omega, ⟨k + 1, hw, by omega, hs 49 ?_, rfl⟩, by rw [hw]; (try simp only []); omega⟩) fun h1 => ⟨by simp; omega, ⟨k + 1, hw, by omega, hs 48 ?_, rfl⟩, by rw [hw]; (try simp only []); omega⟩
    · have : bit (dg key) (k + 2) = 1 := by simpa using h1
      rw [this]; rfl
    · rcases bit_01 (dg key) (k + 2) with h | h
      · rw [h]; rfl
      · rw [h] at h1; simp at h1
  · have hk' : k = 510 := by simp at hge; omega
    subst hk'
    exact ⟨rfl, hm⟩
theorem c_awake11 {w : World} (hg : Glob w) : Calls Tryd.prog 36 #[] w (Ret fun v w' => v = .bool true ∧ Mod NoB w w') := by
  refine call36 ?_
  unfold sh36
  refine callK_ret (c_shardOf hg (by simp)) ?_
  rintro v w1 ⟨rfl, hm1⟩
  refine ⟨_, rfl, callK_ret (c_refOf (by simp)) ?_⟩
  rintro v w2 ⟨rfl, hm2⟩
  refine ⟨_, rfl, condK_i (fun _ => ?_) fun h => by simp at h⟩
  have hm2' := hm1.tr hm2
  refine callK_ret (c_shardBits (hg.no hm2') (by simp)) ?_
  rintro v w3 ⟨rfl, hm3⟩
  refine ⟨_, rfl, callK_ret (c_refBitsS (by simp)) ?_⟩
  rintro v w4 ⟨rfl, hm4⟩
  exact ⟨_, rfl, by simp, (hm2'.tr hm3).tr hm4⟩
/-- the law: any key -/
theorem law_tells {W : World} {key : List UInt8} (hg : Glob W) : Calls Tryd.prog 10 #[.string ⟨key.toArray⟩] W (Ret fun v w' => v = .bool true ∧ Mod NoB W w') := by
  refine call10 _ ?_
  unfold sh10
  refine condK_i (fun _ => ⟨rfl, Mod.refl _ _⟩) fun h => ?_
  have hn : key.length ≤ 2000 := by simp at h; omega
  refine callK_ret (c_shardOf hg (by omega)) ?_
  rintro v w1 ⟨rfl, hm1⟩
  refine ⟨_, rfl, callK_ret (c_refOf (by omega)) ?_⟩
  rintro v w2 ⟨rfl, hm2⟩
  refine ⟨_, rfl, condK_i (fun _ => ?_) fun h => by simp at h⟩
  have hm2' := hm1.tr hm2
  refine callK_ret (c_shardBits (hg.no hm2') (by omega)) ?_
  rintro v w3 ⟨rfl, hm3⟩
  refine ⟨_, rfl, callK_ret (c_refBitsS (by omega)) ?_⟩
  rintro v w4 ⟨rfl, hm4⟩
  have hm4' := (hm2'.tr hm3).tr hm4
  refine ⟨_, rfl, condK_i (fun _ => ?_) fun h => by simp at h⟩
  refine callK_ret (c_awake11 (hg.no hm4')) ?_
  rintro v w5 ⟨rfl, hm5⟩
  exact ⟨_, rfl, rfl, hm4'.tr hm5⟩
/-- the law: keys of each byte and length -/
theorem law_numbers {W : World} (hg : Glob W) : Calls Tryd.prog 11 #[] W (Ret fun v w' => v = .bool true ∧ Mod NoB W w') := by
  refine call11 ?_
  unfold sh11
  refine ⟨fun l' w' => match l' with | [.s s, .i _ i] => ∃ k : Nat, i = k ∧ k ≤ 300 ∧ s.length = k ∧ Mod NoB W w' | _ => False, fun l' _ => match l' with | [.s s, .i _ i] => (300 - i).toNat | _ => 0,
    ⟨0, rfl, by omega, rfl, Mod.refl _ _⟩, ?_⟩
  rintro s i w1 ⟨k, rfl, hk, hs, hm1⟩
  refine condK_i (fun hlt => ?_) fun hge => ?_
  · have hk' : k < 300 := by simp at hlt; omega
    refine ⟨fun l' w' => l' = [.b false] ∧ Mod NoB W w', callK_ret (law_tells (hg.no hm1)) ?_, ?_⟩
    · rintro v w2 ⟨rfl, hm2⟩
      refine ⟨_, rfl, condK_i (fun e => by cases e) fun _ => ?_⟩
      refine sem_bytes [u8OfInt (k : Int)] (by rfl) rfl (by decide) (by decide) fun x e w3 hN3 hx hbx hox => ⟨x, rfl, ?_⟩
      refine sem_bytesStr u26 uStr uU8 hox.rd ⟨_, rfl, ?_⟩
      have hm3 := (hm1.tr hm2).tr hN3.mod
      refine callK_ret (law_tells (hg.no hm3)) ?_
      rintro v w4 ⟨rfl, hm4⟩
      exact ⟨_, rfl, rfl, hm3.tr hm4⟩
    · rintro x w2 ⟨h, hm2⟩
      cases h
      refine condK_i (fun e => by cases e) fun _ => ⟨by omega, ?_⟩
      refine sem_bytes [u8OfInt (IntKind.i64.wrap ((97 : Int) + (Int.tmod (k : Int) (26 : Int))))] (by rfl) rfl (by decide) (by decide) fun x e w3 hN3 hx hbx hox => ⟨x, rfl, ?_⟩
      refine sem_bytesStr u26 uStr uU8 hox.rd ⟨_, rfl, by simp; omega, ⟨k + 1, wrap_nat (by omega), by omega, by simp; omega, hm2.tr hN3.mod⟩, ?_⟩
      rw [wrap_nat (by omega)]; (try simp only []); omega
  · refine callK_ret (c_awake11 (hg.no hm1)) ?_
    rintro v w5 ⟨rfl, hm5⟩
    exact ⟨_, rfl, rfl, hm1.tr hm5⟩
theorem way_at (d : List UInt8) {i : Nat} (hi : i < 510) : (way d)[i]? = some (48 + bit d (i + 2)) := by
  simp [way, bitsFrom, hi, Nat.add_comm]
theorem way_len (d : List UInt8) : (way d).length = 510 := by simp [way]
theorem whole_at (d : List UInt8) {k : Nat} (hk : k < 512) : ([48 + bit d 0, 48 + bit d 1] ++ way d)[k]? = some (48 + bit d k) := by
  rcases k with _ | _ | j
  · rfl
  · rfl
  · have := way_at d (i := j) (by omega)
    simpa using this
/-- the law: bit by bit -/
theorem law_whole {W : World} {key : List UInt8} (hg : Glob W) : Calls Tryd.prog 12 #[.string ⟨key.toArray⟩] W (Ret fun v w' => v = .bool true ∧ Mod NoB W w') := by
  refine call12 _ ?_
  unfold sh12
  refine callK_ret (c_awake11 hg) ?_
  rintro v w1 ⟨rfl, hm1⟩
  refine ⟨_, rfl, condK_i (fun e => by cases e) fun _ => ?_⟩
  refine condK_i (fun _ => ⟨rfl, hm1⟩) fun h => ?_
  have hn : key.length ≤ 2000 := by simp at h; omega
  refine callK_ret (c_shardBits (hg.no hm1) (by omega)) ?_
  rintro v w2 ⟨rfl, hm2⟩
  have hm2' := hm1.tr hm2
  refine ⟨_, rfl, callK_ret (c_shardOf (hg.no hm2') (by omega)) ?_⟩
  rintro v w3 ⟨rfl, hm3⟩
  have hm3' := hm2'.tr hm3
  have hsm := shard_small (dg key)
  refine ⟨_, rfl, fun l' w' => l' = [.b false] ∧ w' = w3, condK_i (fun e => by simp [way_len] at e) fun _ => condK_i (fun e => by simp at e; omega) fun _ => ⟨by simp; omega, rfl⟩, ?_⟩
  rintro x w4 ⟨e, rfl⟩
  cases e
  refine condK_i (fun e => by cases e) fun _ => ⟨by omega, by omega, ?_⟩
  generalize hc0 : u8OfInt (IntKind.i64.wrap ((48 : Int) + IntKind.i64.wrap ((shardOf (dg key)).tdiv 2))) = c0
  generalize hc1 : u8OfInt (IntKind.i64.wrap ((48 : Int) + (shardOf (dg key)).tmod 2)) = c1
  have hcc : c0 = 48 + bit (dg key) 0 ∧ c1 = 48 + bit (dg key) 1 := by
    subst hc0 hc1
    unfold bit shardOf
    simp only [show 0 / 8 = 0 from rfl, show 1 / 8 = 0 from rfl, show 7 - 0 % 8 = 7 from rfl, show 7 - 1 % 8 = 6 from rfl]
    generalize (dg key).getD 0 0 = x
    exact u8_all (p := fun x => u8OfInt (IntKind.i64.wrap ((48 : Int) + IntKind.i64.wrap (((shrU8 x 6).toNat : Int).tdiv 2))) = 48 + ((shrU8 x 7) &&& 1) ∧ u8OfInt (IntKind.i64.wrap ((48 : Int) + ((shrU8 x 6).toNat : Int).tmod 2)) = 48 + ((shrU8 x 6) &&& 1)) (by decide +kernel) x
  obtain ⟨rfl, rfl⟩ := hcc
  refine sem_bytes [48 + bit (dg key) 0, 48 + bit (dg key) 1] (by rfl) rfl (by decide) (by decide) fun x e w5 hN5 hx hbx hox => ⟨x, rfl, ?_⟩
  refine sem_bytesStr u26 uStr uU8 hox.rd ⟨_, rfl, by simp [way_len], ?_⟩
  refine sem_bytes [6] (by rfl) rfl (by decide) (by decide) fun y e6 w6 hN6 hy hby hoy => ⟨y, rfl, ?_⟩
  have hyb := blk_of_eq hy
  refine sem_strBytes uStr u26 uU8 fun z w7 hoz hzl hzb hm7 hs7 => ⟨z, rfl, ?_⟩
  have h6 := hN6.size; have h6a := hN6.at_
  have hm7' := ((hm3'.tr hN5.mod).tr hN6.mod).tr hm7
  refine step_sum (W := w7) (ss := [y, z]) (pl := [[6], key]) (hg.no hm7') (Mod.refl _ _) rfl rfl (by omega) (by omega) rfl (rows2 (hoy.rd.no hm7) (fun q hq => by have := hyb q hq; omega) hoz.rd (fun q hq => by rcases hzb with h | h <;> rw [h] at hq <;> cases hq; omega)) (by simp; omega) ?_
  intro d w8 hod hfd hm8
  simp only [List.flatten_cons, List.flatten_nil, List.append_nil, List.singleton_append] at hod
  have hdl : d.len = 64 := by have := rd_len8 hod.rd; rw [sha_len] at this; omega
  have hM8 := hm7'.tr hm8
  refine condK_i (fun e => by simp [hdl] at e) fun _ => ?_
  refine ⟨fun l' w' => match l' with | [.i _ i] => ∃ k : Nat, i = k ∧ k ≤ 512 ∧ Mod NoB w8 w' | _ => False, fun l' _ => match l' with | [.i _ i] => (512 - i).toNat | _ => 0, ⟨0, rfl, by omega, Mod.refl _ _⟩, ?_⟩
  rintro i w9 ⟨k, rfl, hk, hm9⟩
  have hlen : ([48 + bit (dg key) 0, 48 + bit (dg key) 1] ++ way (dg key)).length = 512 := by simp [way_len]
  refine condK_i (fun hlt => ?_) fun hge => ⟨rfl, hM8.tr hm9⟩
  have hk' : k < 512 := by rw [hlen] at hlt; simp at hlt; omega
  have hat := whole_at (dg key) hk'
  have e1 : IntKind.i64.wrap (Int.tdiv (k : Int) 8) = ((k / 8 : Nat) : Int) := by
    rw [show Int.tdiv (k : Int) 8 = ((k / 8 : Nat) : Int) from rfl, wrap_i64 (by omega)]
  have e2 : (u64OfInt (IntKind.i64.wrap (7 - Int.tmod (k : Int) 8))).toNat = 7 - k % 8 := by
    rw [show Int.tmod (k : Int) 8 = ((k % 8 : Nat) : Int) from rfl, wrap_i64 (by omega), show ((7 : Int) - ((k % 8 : Nat) : Int)) = ((7 - k % 8 : Nat) : Int) by omega, u64_nat, UInt64.toNat_ofNat', Nat.mod_eq_of_lt (by omega)]
  obtain ⟨a, ea, hra⟩ := rd_u8 ((hod.rd.no hm9).drew) (i := k / 8) (by rw [sha_len]; omega)
  rw [e1, e2, ea]
  refine ⟨by omega, _, hat, by omega, ⟨by omega, by omega⟩, by omega, _, hra, by omega, ?_⟩
  simp only [Int.toNat_natCast]
  have e3 : shrU8 ((sha (6 :: key))[k / 8]'(by rw [sha_len]; omega)) (7 - k % 8) &&& 1 = bit (dg key) k := by
    unfold bit
    rw [List.getD_eq_getElem?_getD, List.getElem?_eq_getElem (by rw [dg_len]; omega : k / 8 < (dg key).length)]
    rfl
  rw [e3]
  refine condK_i (fun e => by simp at e) fun _ => ⟨⟨k + 1, wrap_nat (by omega), by omega, Mod.dr hm9⟩, ?_⟩
  rw [wrap_nat (by omega)]; (try simp only []); omega
end Go.Proofs.YtbbfcamopdckmaaDoor
