/- The reference's primes and constants. -/
import Derived.Test.YtbbfcamopdckmaaDoorD6
import Derived.Test.YtbbfcamopdckmaaDoorS13
set_option linter.unusedSimpArgs false
set_option linter.unusedVariables false
set_option maxRecDepth 100000
namespace Go.Proofs.YtbbfcamopdckmaaDoor
open Go Go.Sh

def PR : List Nat := [2, 3, 5, 7, 11, 13, 17, 19, 23, 29, 31, 37, 41, 43, 47, 53, 59, 61, 67, 71, 73, 79, 83, 89, 97, 101, 103, 107, 109, 113, 127, 131, 137, 139, 149, 151, 157, 163, 167, 173, 179, 181, 191, 193, 197, 199, 211, 223, 227, 229, 233, 239, 241, 251, 257, 263, 269, 271, 277, 281, 283, 293, 307, 311, 313, 317, 331, 337, 347, 349, 353, 359, 367, 373, 379, 383, 389, 397, 401, 409]
def T2 : List Nat := [26087635650665564424, 31950697969885030203, 41248173712355948587, 48805497317890012913, 61180928696206656209, 66510681623121259551, 76057874264641092971, 80407493254657745273]
def T3 : List Nat := [23241441160490167842, 26604808713878332877, 31543488660544240431, 35287351959220771772, 41025191555757552952, 43374469216020582425, 47431773444313272219, 49223322299838333208, 52460086356995146306, 56674242196778545086, 57948244932766773900, 61468643694135456994, 63608380943893236079, 64626287408284341937, 66571091106846937653, 69291241975837173396, 71813108563482594002, 72615556083564357091, 74922338351982630325, 76384605279477341285, 77095200552867529333, 79152035218479047811, 80466001307761769428, 82360010132597855157, 84757271453788200875, 85906662539289440784, 86470001012957192511, 87575168524888248036, 88117443448470540226, 89182409882623190821, 92723033081372705391, 93686458245878541936, 95095488024300105724, 95556006044611561766, 97794660939065469677, 98230277650290947039, 99514478923103560670, 100766364611844223656, 101583977345534766822, 102786266195516601659, 103961068102722061156, 104346826991781163009, 106234157551817627537, 106603670640207904304, 107335108066752287256, 107697117917222381840, 109819772810290077738, 111863398698143437240, 112528278492720320712, 112857792170093030227, 113511107980111571865, 114477206417490790568, 114795642568024087139, 116361942610802215627, 117281838038729876339, 118187525164200278179, 119079540232616391420, 119373928427484032864, 120248493880617511794, 120824543361758411244, 121110519679094562344, 122520547622920568297, 124441674862916172053, 124979807718728684331, 125247145020423037340, 125778422408467759623, 127603441353585912606, 128369846764518166904, 129627222056361226170, 129875788766833580198, 130370087684295691694, 131104582549941012251, 132071287192121802116, 132787134709014930579, 133495346155087314620, 133963344184962190668, 134659270149180113590, 135576127461610847786, 136029942151059536620, 136928597060811708439]
def upto (n : Nat) : List Nat := PR.filter fun p => Nat.blt p n
theorem pr_check : ((List.range 410).all fun n => (Nat.blt n 2 || (((upto n).all fun p => !(Nat.beq (n % p) 0)) == (PR.any (Nat.beq n)))) && ((upto (n + 1)).length == (if PR.any (Nat.beq n) then upto n ++ [n] else upto n).length && (List.zipWith Nat.beq (upto (n + 1)) (if PR.any (Nat.beq n) then upto n ++ [n] else upto n)).all id) && Nat.blt (upto n).length 80) = true := by kernel_rfl
theorem pr_pos : (PR.all fun p => Nat.blt 0 p && Nat.blt p 65536) = true := by kernel_rfl
theorem pr_all : upto 410 = PR := by kernel_rfl
theorem r2_check : ((List.range 8).all fun i => Nat.blt (T2.getD i 0) 4722366482869645213696 && Nat.ble ((T2.getD i 0) ^ 2) (PR.getD i 0 * 65536 ^ 8) && Nat.blt (PR.getD i 0 * 65536 ^ 8) ((T2.getD i 0 + 1) ^ 2) && Nat.beq ((T2.getD i 0) % 18446744073709551616) (H0.getD i 0).toNat) = true := by kernel_rfl
theorem r3_check : ((List.range 80).all fun i => Nat.blt (T3.getD i 0) 4722366482869645213696 && Nat.ble ((T3.getD i 0) ^ 3) (PR.getD i 0 * 65536 ^ 12) && Nat.blt (PR.getD i 0 * 65536 ^ 12) ((T3.getD i 0 + 1) ^ 3) && Nat.beq ((T3.getD i 0) % 18446744073709551616) (KS.getD i 0).toNat) = true := by kernel_rfl
theorem beq_of {a b : Nat} (h : Nat.beq a b = true) : a = b := Nat.eq_of_beq_eq_true h
theorem blt_of {a b : Nat} (h : Nat.blt a b = true) : a < b := by
  have : Nat.ble (a + 1) b = true := h
  exact Nat.le_of_ble_eq_true this
theorem u64_eq {r : Nat} {x : UInt64} (h : r % 18446744073709551616 = x.toNat) : UInt64.ofNat r = x := by
  apply UInt64.toNat_inj.1
  rw [UInt64.toNat_ofNat', ← h]
theorem zip_eq : ∀ {a b : List Nat}, a.length = b.length → (List.zipWith Nat.beq a b).all id = true → a = b
  | [], [], _, _ => rfl
  | [], y :: b, h, _ => by simp at h
  | x :: a, [], h, _ => by simp at h
  | x :: a, y :: b, h, h2 => by
    simp only [List.zipWith_cons_cons, List.all_cons, Bool.and_eq_true, id] at h2
    rw [beq_of h2.1, zip_eq (by simpa using h) h2.2]
theorem pr_facts {n : Nat} (h : n < 410) : (2 ≤ n → ((upto n).all fun p => !(Nat.beq (n % p) 0)) = PR.any (Nat.beq n)) ∧ upto (n + 1) = (if PR.any (Nat.beq n) then upto n ++ [n] else upto n) ∧ (upto n).length < 80 := by
  have := List.all_eq_true.1 pr_check n (List.mem_range.2 h)
  simp only [Bool.and_eq_true] at this
  obtain ⟨⟨h1, h2, h3⟩, h4⟩ := this
  refine ⟨fun h2' => ?_, zip_eq (by simpa using h2) h3, blt_of h4⟩
  rcases Bool.or_eq_true _ _ ▸ h1 with h | h
  · have := blt_of h; omega
  · simpa using h
theorem upto_pos {n p : Nat} (h : p ∈ upto n) : p ≠ 0 := by
  have := List.all_eq_true.1 pr_pos p (List.mem_filter.1 h).1
  simp only [Bool.and_eq_true] at this
  have := blt_of this.1; omega
theorem PR_len : PR.length = 80 := rfl
theorem pr_lt {i : Nat} (h : i < 80) : PR.getD i 0 < 65536 := by
  have hi : i < PR.length := by rw [PR_len]; exact h
  have := List.all_eq_true.1 pr_pos (PR[i]) (List.getElem_mem _)
  simp only [Bool.and_eq_true] at this
  rw [List.getD, List.getElem?_eq_getElem hi]
  exact blt_of this.2
def il (l : List Nat) : List Int := l.map fun (n : Nat) => (n : Int)
@[simp] theorem il_len (l : List Nat) : (il l).length = l.length := by simp [il]
theorem iInt : ∃ i, Tryd.prog.info? 3 = some i ∧ i.zero = some (.int .i64 0) ∧ i.size = 1 ∧ i.bytes = 8 := info_of (by kernel_rfl) (by kernel_rfl) (by kernel_rfl)
theorem ints_one (l : List Int) : ∀ y ∈ ints l, y.oneCell' = true := by
  intro y hy
  obtain ⟨z, _, rfl⟩ := List.mem_map.1 hy; rfl
/-- append(s, x): one number -/
theorem sem_intApp {K : Slc → World → Prop} {w w0 : World} {s : Slc} {l : List Int} {c : Int} (hs : Sh.Own w s 1 (ints l)) (hf : FB w0 s) (hm : Mod NoB w0 w) (hn : l.length ≤ 2000000000)
    (hK : ∀ (s' : Slc) w', Sh.Own w' s' 1 (ints (l ++ [c])) → FB w0 s' → Mod NoB w0 w' → s'.len = s.len + 1 → K s' w') :
    semK Tryd.prog (Instr.buildSlice 51 1 #[(0, (.int .i64 c))]) w fun v w2 => ∃ x1 : Slc, v = (.slice x1.a x1.len x1.cap) ∧ semK Tryd.prog (Builtin.append_ #[51, 51] 51 #[(.slice s.a s.len s.cap), (.slice x1.a x1.len x1.cap)]) w2 fun v1 w3 => ∃ x2 : Slc, v1 = (.slice x2.a x2.len x2.cap) ∧ K x2 w3 := by
  obtain ⟨i5', h51, h52, h53, h54⟩ := iInt
  have hl := rd_lenI hs.rd
  refine sem_lit (l := [.int .i64 c]) [.int .i64 c] uInts h51 h52 h53 (by decide) rfl (by decide) (by decide) rfl (by simp [Value.cells]) rfl fun b w1 hN hb => ⟨⟨some ⟨b, 0, none⟩, 1, 1⟩, rfl, ?_⟩
  have hm1 := hm.tr hN.mod
  refine sem_append (x := ⟨some ⟨b, 0, none⟩, 1, 1⟩) uInts h51 h52 h53 rfl h54 (hs.no hN.mod) (own_whole (n := 1) (k := 1) hb rfl).rd (ints_one [c]) (by simp only []; omega) (by simp only []; omega) fun s' w2 ho hlen hblk hm2 => ⟨s', rfl, hK s' w2 ?_ (hf.step hm1.size hblk) (hf.mod hm1 hm2) hlen⟩
  have e : ints (l ++ [c]) = ints l ++ [.int .i64 c] := by simp [ints]
  rw [e]; exact ho
/-- append(s, x): one word; what it may write -/
theorem sem_word2 {K : Slc → World → Prop} {w : World} {s : Slc} {l : List UInt64} {c : UInt64} (hs : Sh.Own w s 1 (us l)) (hn : l.length ≤ 2000000000)
    (hK : ∀ (s' : Slc) w', Sh.Own w' s' 1 (us (l ++ [c])) → (s'.blk = s.blk ∨ ∃ b, s'.blk = some b ∧ w.heap.size ≤ b) → Mod (fun b => s.blk = some b) w w' → K s' w') :
    semK Tryd.prog (Instr.buildSlice 40 1 #[(0, (.int .u64 c.toNat))]) w fun v w2 => ∃ x1 : Slc, v = (.slice x1.a x1.len x1.cap) ∧ semK Tryd.prog (Builtin.append_ #[40, 40] 40 #[(.slice s.a s.len s.cap), (.slice x1.a x1.len x1.cap)]) w2 fun v1 w3 => ∃ x2 : Slc, v1 = (.slice x2.a x2.len x2.cap) ∧ K x2 w3 := by
  obtain ⟨i5', h51, h52, h53, h54⟩ := i44
  have hl := rd_len64 hs.rd
  refine sem_lit (l := [.int .u64 c.toNat]) [.int .u64 c.toNat] u40 h51 h52 h53 (by decide) rfl (by decide) (by decide) rfl (by simp [Value.cells]) rfl fun b w1 hN hb => ⟨⟨some ⟨b, 0, none⟩, 1, 1⟩, rfl, ?_⟩
  refine sem_append (x := ⟨some ⟨b, 0, none⟩, 1, 1⟩) u40 h51 h52 h53 rfl h54 (hs.no hN.mod) (own_whole (n := 1) (k := 1) hb rfl).rd (us_one [c]) (by simp only []; omega) (by simp only []; omega) fun s' w2 ho hlen hblk hm2 => ⟨s', rfl, hK s' w2 ?_ (hblk.imp id fun e => ⟨_, e, hN.mod.size⟩) (hN.mod.no hm2)⟩
  rw [us_app]; exact ho

theorem c_primes {w : World} : Calls Tryd.prog 46 #[.int .i64 80] w (Ret fun v w' => ∃ x : Slc, v = x.val ∧ Sh.Own w' x 1 (ints (il PR)) ∧ FB w x ∧ Mod NoB w w') := by
  refine call46 _ ?_
  unfold sh46
  refine ⟨fun l' w' => match l' with | [.sl q, .i _ n] => ∃ n' : Nat, n = n' ∧ 2 ≤ n' ∧ n' ≤ 410 ∧ Sh.Own w' q 1 (ints (il (upto n'))) ∧ FB w q ∧ Mod NoB w w' | _ => False, fun l' _ => match l' with | [.sl q, .i _ n] => (410 - n).toNat | _ => 0,
    ⟨2, rfl, by omega, by omega, own_nil _ _, FB.nil _, Mod.refl _ _⟩, ?_⟩
  rintro q n w1 ⟨n', rfl, hn2, hn410, hq, hqf, hm1⟩
  have hql := rd_lenI hq.rd
  rw [il_len] at hql
  refine condK_i (fun hc => ?_) fun hc => ?_
  · have hlt : n' < 410 := by
      rcases Nat.lt_or_ge n' 410 with h | h
      · exact h
      · have : n' = 410 := by omega
        subst this
        rw [pr_all, PR_len] at hql
        simp at hc; omega
    obtain ⟨f1, f2, f3⟩ := pr_facts hlt
    have f1 := f1 hn2
    refine ⟨fun l' w' => match l' with | [.b is, .i _ i] => ∃ k : Nat, i = k ∧ k ≤ (upto n').length ∧ is = (((upto n').take k).all fun p => !(Nat.beq (n' % p) 0)) ∧ w' = w1 | _ => False, fun l' _ => match l' with | [.b is, .i _ i] => ((upto n').length - i).toNat | _ => 0, ⟨0, rfl, by omega, rfl, rfl⟩, ?_⟩
    rintro is i w2 ⟨k, rfl, hk, his, rfl⟩
    refine condK_i (fun hc => ?_) fun hc => ?_
    · have hk' : k < (upto n').length := by simp at hc; omega
      have htk : ((upto n').take (k + 1)).all (fun p => !(Nat.beq (n' % p) 0)) = (is && !(Nat.beq (n' % (upto n')[k]) 0)) := by
        rw [take_snoc hk', List.all_append, ← his]; simp
      rw [wrap_nat (by omega)]
      refine condK_i (fun hi => ?_) fun hi => ?_
      · obtain ⟨a, ea, hr⟩ := rd_int hq.rd (i := k) (by simpa using hk')
        have hpp : (il (upto n'))[k]'(by simpa using hk') = (((upto n')[k] : Nat) : Int) := by simp [il]
        rw [hpp] at hr
        refine ⟨⟨by omega, by omega⟩, onSome_of ea ⟨_, hr, ?_, ⟨k + 1, rfl, by omega, ?_, rfl⟩, by (try simp only []); omega⟩⟩
        · have := upto_pos (List.getElem_mem hk'); omega
        · rw [htk, hi, Bool.true_and, show Int.tmod ((n' : Nat) : Int) (((upto n')[k] : Nat) : Int) = ((n' % (upto n')[k] : Nat) : Int) from rfl]
          by_cases h0 : n' % (upto n')[k] = 0
          · rw [h0]; rfl
          · have : Nat.beq (n' % (upto n')[k]) 0 = false := by
              cases hb : Nat.beq (n' % (upto n')[k]) 0 with
              | true => exact absurd (beq_of hb) h0
              | false => rfl
            rw [this]
            simp; omega
      · refine ⟨⟨k + 1, rfl, by omega, ?_, rfl⟩, by (try simp only []); omega⟩
        rw [htk, hi]; rfl
    · have hk' : k = (upto n').length := by simp at hc; omega
      subst hk'
      rw [List.take_length, f1] at his
      rw [wrap_nat (by omega)]
      refine condK_i (fun hi => ?_) fun hi => ?_
      · refine sem_intApp (w0 := w) hq hqf hm1 (by rw [il_len]; omega) fun s' w3 ho3 hf3 hm3 hl3 => ?_
        rw [his] at hi
        rw [hi, if_pos rfl] at f2
        refine ⟨⟨n' + 1, rfl, by omega, by omega, ?_, hf3, hm3⟩, by (try simp only []); omega⟩
        rw [f2]
        have : il (upto n' ++ [n']) = il (upto n') ++ [(n' : Int)] := by simp [il]
        rw [this]; exact ho3
      · rw [his] at hi
        rw [hi] at f2
        refine ⟨⟨n' + 1, rfl, by omega, by omega, ?_, hqf, hm1⟩, by (try simp only []); omega⟩
        rw [f2]; exact hq
  · have hn : n' = 410 := by
      rcases Nat.lt_or_ge n' 410 with h | h
      · have := (pr_facts h).2.2
        simp at hc; omega
      · omega
    subst hn
    rw [pr_all] at hq
    exact ⟨q, rfl, hq, hqf, hm1⟩

theorem c_constants {w : World} : Calls Tryd.prog 29 #[] w (Ret fun v w' => ∃ x y : Slc, v = .tuple #[x.val, y.val] ∧ Sh.Own w' x 1 (us H0) ∧ Sh.Own w' y 1 (us KS) ∧ Mod NoB w w') := by
  refine call29 ?_
  unfold sh29
  refine callK_ret c_primes ?_
  rintro v w1 ⟨x, rfl, hx, hxf, hm1⟩
  have hxl := rd_lenI hx.rd
  rw [il_len, PR_len] at hxl
  refine ⟨x, rfl, fun l' w' => match l' with | [.sl f, .sl k, .i _ i] => ∃ n : Nat, i = n ∧ n ≤ 80 ∧ Sh.Own w' f 1 (us (H0.take n)) ∧ Sh.Own w' k 1 (us (KS.take n)) ∧ FB w1 f ∧ FB w1 k ∧ (∀ y, f.blk = some y → k.blk ≠ some y) ∧ Mod NoB w1 w' | _ => False, fun l' _ => match l' with | [.sl f, .sl k, .i _ i] => (80 - i).toNat | _ => 0,
    ⟨0, rfl, by omega, own_nil _ _, own_nil _ _, FB.nil _, FB.nil _, fun y hy => by simp at hy, Mod.refl _ _⟩, ?_⟩
  rintro f k i w2 ⟨n, rfl, hn, hf, hk, hff, hkf, hfk, hm2⟩
  refine condK_i (fun hc => ?_) fun hc => ?_
  · have hn80 : n < 80 := by simp at hc; omega
    obtain ⟨a, ea, hr⟩ := rd_int hx.rd (i := n) (by rw [il_len, PR_len]; exact hn80)
    have hpp : (il PR)[n]'(by rw [il_len, PR_len]; exact hn80) = ((PR.getD n 0 : Nat) : Int) := by
      have : n < PR.length := by rw [PR_len]; exact hn80
      simp [il, List.getD, this]
    rw [hpp] at hr
    refine ⟨fun l' w' => ∃ f1 : Slc, l' = [.sl f1] ∧ Sh.Own w' f1 1 (us (H0.take (n + 1))) ∧ Sh.Own w' k 1 (us (KS.take n)) ∧ FB w1 f1 ∧ (∀ y, f1.blk = some y → k.blk ≠ some y) ∧ Mod NoB w1 w', condK_i (fun h8 => ?_) fun h8 => ?_, ?_⟩
    · have hn8 : n < 8 := by simp at h8; omega
      have hck := List.all_eq_true.1 r2_check n (List.mem_range.2 hn8)
      simp only [Bool.and_eq_true] at hck
      obtain ⟨⟨⟨c1, c2⟩, c3⟩, c4⟩ := hck
      refine ⟨⟨by omega, by omega⟩, onSome_of ea ⟨_, hr.mod hm2 fun h => h, callK_ret (c_root (wh := 2) (R := T2.getD n 0) (pr_lt hn80) (.inl rfl) (blt_of c1) (Nat.le_of_ble_eq_true c2) (blt_of c3)) ?_⟩⟩
      rintro v w3 ⟨rfl, hm3⟩
      rw [u64_eq (beq_of c4)]
      refine ⟨_, rfl, sem_word2 (hf.no hm3) (by rw [List.length_take, H0_len]; omega) fun s' w4 ho4 hb4 hm4 => ?_⟩
      have hM3 := hm2.tr hm3
      refine ⟨s', rfl, ?_, (hk.no hm3).mod hm4 fun b hb hb' => hfk b hb' hb, fun y hy => ?_, fun y hy hy' => ?_, hM3.fresh hm4 fun y hy => hff y hy⟩
      · have : H0.take (n + 1) = H0.take n ++ [H0.getD n 0] := by
          rw [take_snoc (l := H0) (by rw [H0_len]; exact hn8), List.getD, List.getElem?_eq_getElem (by rw [H0_len]; exact hn8)]; rfl
        rw [this]; exact ho4
      · rcases hb4 with h | ⟨b, h, hb⟩
        · exact hff y (by rw [← h]; exact hy)
        · rw [h] at hy; cases hy; have := hM3.size; omega
      · rcases hb4 with h | ⟨b, h, hb⟩
        · exact hfk y (by rw [← h]; exact hy) hy'
        · rw [h] at hy; cases hy; have := (hk.no hm3).lt hy'; omega
    · have hn8 : 8 ≤ n := by simp at h8; omega
      refine ⟨f, rfl, ?_, hk, hff, hfk, hm2⟩
      rw [List.take_of_length_le (by rw [H0_len]; omega)]
      rw [List.take_of_length_le (by rw [H0_len]; omega)] at hf
      exact hf
    rintro f0 w6 ⟨f1, he, hf6, hk6, hff6, hfk6, hm6⟩
    simp at he; subst he
    have hck := List.all_eq_true.1 r3_check n (List.mem_range.2 hn80)
    simp only [Bool.and_eq_true] at hck
    obtain ⟨⟨⟨c1, c2⟩, c3⟩, c4⟩ := hck
    refine ⟨⟨by omega, by omega⟩, onSome_of ea ⟨_, hr.mod hm6 fun h => h, callK_ret (c_root (wh := 3) (R := T3.getD n 0) (pr_lt hn80) (.inr rfl) (blt_of c1) (Nat.le_of_ble_eq_true c2) (blt_of c3)) ?_⟩⟩
    rintro v w7 ⟨rfl, hm7⟩
    rw [u64_eq (beq_of c4)]
    refine ⟨_, rfl, sem_word2 (hk6.no hm7) (by rw [List.length_take, KS_len]; omega) fun s' w8 ho8 hb8 hm8 => ?_⟩
    have hM7 := hm6.tr hm7
    rw [wrap_nat (by omega)]
    refine ⟨⟨n + 1, rfl, by omega, (hf6.no hm7).mod hm8 fun b hb hb' => hfk6 b hb hb', ?_, hff6, fun y hy => ?_, fun y hy hy' => ?_, hM7.fresh hm8 fun y hy => hkf y hy⟩, by (try simp only []); omega⟩
    · have : KS.take (n + 1) = KS.take n ++ [KS.getD n 0] := by
        rw [take_snoc (l := KS) (by rw [KS_len]; exact hn80), List.getD, List.getElem?_eq_getElem (by rw [KS_len]; exact hn80)]; rfl
      rw [this]; exact ho8
    · rcases hb8 with h | ⟨b, h, hb⟩
      · exact hkf y (by rw [← h]; exact hy)
      · rw [h] at hy; cases hy; have := hM7.size; omega
    · rcases hb8 with h | ⟨b, h, hb⟩
      · exact hfk6 y hy (by rw [← h]; exact hy')
      · rw [h] at hy'; cases hy'; have := (hf6.no hm7).lt hy; omega
  · have hn80 : n = 80 := by simp at hc; omega
    subst hn80
    rw [List.take_of_length_le (by rw [H0_len]; omega)] at hf
    rw [List.take_of_length_le (by rw [KS_len]; omega)] at hk
    exact ⟨f, k, rfl, hf, hk, hm1.tr hm2⟩
end Go.Proofs.YtbbfcamopdckmaaDoor
