/- The kit's marks, rows of bytes lent and kept. -/
import Derived.Test.YtknbihogadcnpaaGreatG2
import Derived.Test.YtknbihogadcnpaaGreatFnD
set_option linter.unusedSimpArgs false
set_option linter.unusedVariables false
set_option maxRecDepth 100000
namespace Go.Proofs.YtknbihogadcnpaaGreat
open Go Go.Sh

/-- the mark of a place -/
def mk (k i : Int) : Int := IntKind.i64.wrap ((IntKind.i64.wrap ((1000003 : Int) * (IntKind.i64.wrap (k + (7 : Int))))) + i)
def mb (k i : Int) : UInt8 := (shrU64 ((u64OfInt (mk k i)) * (11400714819323198485 : UInt64)) 56).toUInt8
def mt (k i : Int) : List UInt8 := [35, u8OfInt k, u8OfInt (Int.fdiv k (2 ^ (min 8 (IntKind.bits .i64)))), u8OfInt (Int.fdiv k (2 ^ (min 16 (IntKind.bits .i64)))), 47, u8OfInt i, u8OfInt (Int.fdiv i (2 ^ (min 8 (IntKind.bits .i64)))), u8OfInt (Int.fdiv i (2 ^ (min 16 (IntKind.bits .i64))))]
theorem c_mark {w : World} {k i : Int} : Calls Tryz.prog 35 #[.int .i64 k, .int .i64 i] w (Ret fun v w' => v = .int .i64 (mk k i) ∧ w' = w) := by
  refine call35 _ _ ?_
  unfold sh35
  exact ⟨rfl, rfl⟩
theorem c_markByte {w : World} {k i : Int} : Calls Tryz.prog 23 #[.int .i64 k, .int .i64 i] w (Ret fun v w' => v = .int .u8 (mb k i).toNat ∧ w' = w) := by
  refine call23 _ _ ?_
  unfold sh23
  refine callK_ret c_mark ?_
  rintro v w1 ⟨rfl, rfl⟩
  exact ⟨_, rfl, by omega, rfl, rfl⟩
theorem c_markText {w : World} {k i : Int} : Calls Tryz.prog 70 #[.int .i64 k, .int .i64 i] w (Ret fun v w' => v = .string ⟨(mt k i).toArray⟩ ∧ Mod NoB w w') := by
  refine call70 _ _ ?_
  unfold sh70
  refine ⟨by omega, by omega, by omega, by omega, sem_bytes (mt k i) rfl rfl (by omega) (by omega) fun x b w1 hN hx hb ho => ⟨x, rfl, ?_⟩⟩
  refine sem_bytesStr (e := 5) (by kernel_rfl) (by kernel_rfl) (by kernel_rfl) ho.rd ⟨_, rfl, rfl, hN.mod⟩
theorem c_markRow {w : World} {k i : Int} : Calls Tryz.prog 71 #[.int .i64 k, .int .i64 i] w (Ret fun v w' => ∃ x : Slc, v = x.val ∧ Sh.Own w' x 1 (bys (mt k i)) ∧ FB w x ∧ Mod NoB w w') := by
  refine call71 _ _ ?_
  unfold sh71
  refine callK_ret c_markText ?_
  rintro v w1 ⟨rfl, hm1⟩
  refine ⟨_, rfl, sem_strBytes (u := .string) (e := 5) (l := mt k i) (by kernel_rfl) (by kernel_rfl) (by kernel_rfl) fun s' w2 ho hl hb hm2 hs2 => ⟨s', rfl, s', rfl, ho, fun x hx => ?_, hm1.tr hm2⟩⟩
  rcases hb with hb | hb
  · rw [hb] at hx; cases hx; exact hm1.size
  · rw [hb] at hx; cases hx

/-- the marks behind a row -/
def marks : Nat → List UInt8
  | 0 => []
  | n + 1 => marks n ++ [mb 1 n]
@[simp] theorem marks_len : ∀ n, (marks n).length = n
  | 0 => rfl
  | n + 1 => by simp [marks, marks_len n]
theorem marks_at : ∀ (n i : Nat), i < n → (marks n)[i]? = some (mb 1 i)
  | 0, i, h => by omega
  | n + 1, i, h => by
    rcases Nat.lt_or_ge i n with h' | h'
    · rw [marks, List.getElem?_append_left (by simpa using h'), marks_at n i h']
    · have : i = n := by omega
      subst this
      rw [marks, List.getElem?_append_right (by simp)]; simp
/-- a row that is lent: marks lie behind it -/
def LentB (w : World) (x : Slc) (l : List UInt8) : Prop := x.len = l.length ∧ Sh.Own w ⟨x.a, x.len + 12, x.cap⟩ 1 (bys (l ++ marks 12))
theorem LentB.rd {w : World} {x : Slc} {l : List UInt8} (h : LentB w x l) : SlRd w x 1 (bys l) := by
  have := h.2.rd.take (n := x.len) (by simp only []; omega)
  rw [Nat.mul_one, bys_app, h.1, List.take_append_of_le_length (by simp), List.take_of_length_le (by simp)] at this
  have e := h.1
  rw [← e] at this
  exact this
theorem LentB.cap {w : World} {x : Slc} {l : List UInt8} (h : LentB w x l) : x.len + 12 ≤ x.cap := h.2.2.1
theorem LentB.mod {w w' : World} {x : Slc} {l : List UInt8} {S : Nat → Prop} (h : LentB w x l) (hm : Mod S w w') (hs : ∀ b, x.blk = some b → ¬ S b) : LentB w' x l := ⟨h.1, h.2.mod hm hs⟩
theorem LentB.no {w w' : World} {x : Slc} {l : List UInt8} (h : LentB w x l) (hm : Mod NoB w w') : LentB w' x l := h.mod hm fun _ _ h => h
theorem LentB.lt {w : World} {x : Slc} {l : List UInt8} (h : LentB w x l) {b : Nat} (hb : x.blk = some b) : b < w.heap.size := h.2.lt hb

theorem c_lentBytes {w : World} {s : Slc} {l : List UInt8} (hs : SlRd w s 1 (bys l)) (hn : l.length ≤ 1000000000) :
    Calls Tryz.prog 7 #[.slice s.a s.len s.cap] w (Ret fun v w' => ∃ x : Slc, v = x.val ∧ LentB w' x l ∧ FB w x ∧ Mod NoB w w') := by
  refine call7 _ ?_
  unfold sh7
  obtain ⟨i5', h51, h52, h53, h54⟩ := i5
  have hL := rd_len8 hs
  rw [show IntKind.i64.wrap ((s.len : Int) + 12) = ((s.len + 12 : Nat) : Int) by rw [wrap_i64 (by omega)]; omega]
  refine sem_makeSlice (l := 0) (c := s.len + 12) u26 h51 h52 h53 rfl h54 rfl rfl (by omega) (by omega) (by omega) fun e0 w1 hN1 hb1 ho1 => ⟨⟨_, _, _⟩, rfl, ?_⟩
  have hf1 : FB w ⟨some ⟨e0, 0, none⟩, 0, s.len + 12⟩ := FB.new (by rw [hN1.at_]; exact Nat.le_refl _)
  refine sem_append u26 h51 h52 h53 rfl h54 (s := ⟨some ⟨e0, 0, none⟩, 0, s.len + 12⟩) ho1 (hs.no hN1.mod) (bys_one _) (by simp only []; omega) (by simp only []; omega) fun s2 w2 ho2 hl2 hb2 hm2 => ⟨s2, rfl, ?_⟩
  have hf2 := hf1.step hN1.mod.size hb2
  have hM2 := hf1.mod hN1.mod hm2
  have ho2 : Sh.Own w2 s2 1 (bys l) := by simpa using ho2
  refine ⟨fun l' w' => match l' with | [.sl q, .i _ i] => ∃ k : Nat, i = k ∧ k ≤ 12 ∧ Sh.Own w' q 1 (bys (l ++ marks k)) ∧ FB w q ∧ Mod NoB w w' | _ => False, fun l' _ => match l' with | [.sl q, .i _ i] => (12 - i).toNat | _ => 0,
    ⟨0, rfl, by omega, by simpa [marks] using ho2, hf2, hM2⟩, ?_⟩
  rintro q i w3 ⟨k, rfl, hk, hq, hqf, hm3⟩
  refine condK_i (fun hlt => ?_) fun hge => ?_
  · have hk' : k < 12 := by simp at hlt; omega
    refine callK_ret c_markByte ?_
    rintro v w4 ⟨rfl, rfl⟩
    refine ⟨_, rfl, sem_byte (w0 := w) hq hqf hm3 (by simp; omega) fun s5 w5 ho5 hf5 hm5 hl5 => ?_⟩
    rw [wrap_nat (by omega)]
    refine ⟨⟨k + 1, rfl, by omega, ?_, hf5, hm5⟩, by (try simp only []); omega⟩
    rw [List.append_assoc] at ho5
    exact ho5
  · have hk' : k = 12 := by simp at hge; omega
    subst hk'
    have hql := rd_len8 hq.rd
    have hqc := hq.2.1
    simp at hql
    refine ⟨⟨by omega, by omega⟩, ?_⟩
    rw [Int.toNat_natCast, cutSl0 hqc (by omega)]
    refine ⟨_, rfl, ⟨by simp only []; omega, ?_⟩, hqf, hm3⟩
    simp only []
    rw [show s.len + 12 = q.len by omega]
    exact hq

theorem c_keptBytes {w : World} {x s : Slc} {l : List UInt8} (hx : LentB w x l) (hs : SlRd w s 1 (bys l)) (hn : l.length ≤ 1000000000) :
    Calls Tryz.prog 16 #[.slice x.a x.len x.cap, .slice s.a s.len s.cap] w (Ret fun v w' => v = .bool true ∧ Mod NoB w w') := by
  refine call16 _ _ ?_
  unfold sh16
  have hL := rd_len8 hs
  have hc := hx.cap
  have hxl := hx.1
  have hel : x.len = s.len := by omega
  refine condK_i (fun h => by simp [hel] at h) fun _ => ?_
  rw [show IntKind.i64.wrap ((s.len : Int) + 12) = ((s.len + 12 : Nat) : Int) by rw [wrap_i64 (by omega)]; omega]
  refine ⟨⟨by omega, by omega⟩, ?_⟩
  have e1 : cutSl x 1 0 (((s.len + 12 : Nat) : Int)).toNat x.cap = ⟨x.a, s.len + 12, x.cap⟩ := by rw [Int.toNat_natCast]; exact cutSl0 (by omega) (by omega)
  simp only [e1]
  have hall : SlRd w ⟨x.a, s.len + 12, x.cap⟩ 1 (bys (l ++ marks 12)) := by rw [← hel]; exact hx.2.rd
  have hal : (l ++ marks 12).length = s.len + 12 := by simp; omega
  refine ⟨fun l' w' => match l' with | [.i _ i] => ∃ k : Nat, i = k ∧ k ≤ s.len + 12 ∧ Mod NoB w w' | _ => False, fun l' _ => match l' with | [.i _ i] => (s.len + 12 - i).toNat | _ => 0, ⟨0, rfl, by omega, Mod.refl _ _⟩, ?_⟩
  rintro i w1 ⟨k, rfl, hk, hm1⟩
  refine condK_i (fun hlt => ?_) fun hge => ⟨rfl, hm1⟩
  have hk' : k < s.len + 12 := by simp at hlt; omega
  obtain ⟨xa, ea, hra⟩ := rd_u8 hall (i := k) (by omega)
  have ea' : x.a = some xa := ea
  have hnext : (∃ k' : Nat, IntKind.i64.wrap ((k : Int) + 1) = k' ∧ k' ≤ s.len + 12 ∧ Mod NoB w w1.drew) ∧ (s.len + 12 - IntKind.i64.wrap ((k : Int) + 1)).toNat < ((s.len : Int) + 12 - (k : Int)).toNat := by
    rw [wrap_nat (by omega)]
    exact ⟨⟨k + 1, rfl, by omega, hm1.dr⟩, by omega⟩
  refine ⟨fun w' => Mod NoB w w', hm1.dr, condK_i (fun h => ?_) fun h => ?_⟩
  · have hkl : k < s.len := by simp at h; omega
    obtain ⟨sa, es, hrs⟩ := rd_u8 hs (i := k) (by omega)
    simp only [ea', es, Int.toNat_natCast]
    have hv : (l ++ marks 12)[k]'(by omega) = l[k]'(by omega) := List.getElem_append_left _
    rw [hv] at hra
    refine ⟨⟨by omega, by omega⟩, ⟨by omega, by omega⟩, _, fun w' h => hra.mod h fun h => h, _, fun w' h => hrs.mod h fun h => h, condK_i (fun e => by simp at e) fun _ => condK_i (fun e => by simp at e; omega) fun _ => ⟨⟨hm1.dr, hnext⟩, trivial⟩⟩
  · have hkl : s.len ≤ k := by simp at h; omega
    simp only [ea', Int.toNat_natCast]
    have hv : (l ++ marks 12)[k]'(by omega) = mb 1 ((k - s.len : Nat) : Int) := by
      rw [List.getElem_append_right (by omega)]
      have := marks_at 12 (k - l.length) (by omega)
      rw [List.getElem?_eq_getElem (by simp; omega)] at this
      rw [Option.some.inj this, hL]
    rw [hv] at hra
    refine condK_i (fun _ => ⟨⟨by omega, by omega⟩, _, fun w' h => hra.mod h fun h => h, ?_, trivial⟩) fun e => by simp at e; omega
    rw [show IntKind.i64.wrap ((k : Int) - (s.len : Int)) = ((k - s.len : Nat) : Int) by rw [wrap_i64 (by omega)]; omega]
    refine callK_ret c_markByte ?_
    rintro v w4 ⟨rfl, rfl⟩
    exact ⟨_, rfl, hm1.dr, condK_i (fun e => by simp at e) fun _ => hnext⟩

end Go.Proofs.YtknbihogadcnpaaGreat
