/- Budget: Tick, New. -/
import Derived.Test.YtnecbkjpijiopaaB5
set_option linter.unusedSimpArgs false
set_option linter.unusedVariables false
namespace Go.Proofs.Ytnecbkjpijiopaa
open Go Go.Sh Go.MapKept

def BSt.tick (st : BSt) : BSt := { st with acc := fun q => ((st.acc q).1, 0) }
def BSt.with (st : BSt) (acc : Int → List Int × Int) : BSt := { st with acc := acc }
def leftIn (w : World) (m r : Nat) : Nat :=
  match w.heap[m]?, w.heap[r]? with
  | some (.map es _), some (.mapIter _ _ seen _) => (es.toList.filter fun e => !seen.contains e.born).length
  | _, _ => 0
theorem leftIn_eq {w : World} {m r : Nat} {es : List MapEntry} {clock since last : Nat} {seen : Array Nat} {o : Option Nat} (h1 : w.heap[m]? = some (.map es.toArray clock)) (h2 : w.heap[r]? = some (.mapIter o since seen last)) :
    leftIn w m r = (es.filter fun e => !seen.contains e.born).length := by
  unfold leftIn
  rw [h1, h2]

theorem c15_un {w : World} {b : Option Addr} (h : Un w b) : Calls Try.prog 15 #[.pointer b] w (Ret fun v w' => v = .tuple #[] ∧ Mod NoB w w') := by
  refine call15 _ ?_
  unfold sh15
  refine callK_ret (c32_un h) ?_
  rintro v w' ⟨rfl, rfl⟩
  exact ⟨_, rfl, rfl, Mod.refl _ _⟩

theorem c15 {w : World} {b : Nat} {S : Nat → Prop} {st : BSt} (h : BH w b S st) :
    Calls Try.prog 15 #[.pointer (some ⟨b, 0, none⟩)] w (Ret fun v w' => v = .tuple #[] ∧ Post S w w' b st.tick) := by
  refine call15 _ ?_
  unfold sh15
  obtain ⟨m, es, clock, pl, h⟩ := h
  refine callK_ret (c32 h.blk) ?_
  rintro v w' ⟨rfl, rfl⟩
  refine ⟨true, rfl, some m, h.blk.rd1 rfl, sem_range u39 h.map fun r w1 hN => ⟨_, rfl, ?_⟩⟩
  have har := hN.at_; have hsr := hN.size
  refine ⟨fun l w2 => l = [] ∧ ∃ acc S2 es2 pl2 seen, BRep w2 b S2 (st.with acc) m es2 clock pl2 ∧ w2.heap[r]? = some (.mapIter (some m) clock seen clock) ∧ (∀ q, (acc q).1 = (st.acc q).1 ∧ ((acc q).2 = 0 ∨ ∀ e ∈ es2, e.key = .int .i64 q → e.born ∉ seen)) ∧
      (∀ x, S2 x → S x ∨ r < x) ∧ Mod S w' w2 ∧ r < w2.heap.size, fun _ w2 => leftIn w2 m r,
    ⟨rfl, st.acc, S, es, pl, #[], h.mod hN.mod fun _ _ h => h, hN.get, fun q => ⟨rfl, .inr fun e _ _ => by simp⟩, fun x hx => .inl hx, hN.mod.mono fun _ _ h => h.elim, by omega⟩, ?_⟩
  rintro w2 ⟨-, acc, S2, es2, pl2, seen, hB, hr, hacc, hS2, hm2, hrs⟩
  have hS2r : ∀ x, S2 x → x ≠ r := fun x hx => by
    rcases hS2 x hx with e | e
    · have := h.low x e; omega
    · omega
  refine sem_next hB.map hr (fun x hx => hB.map.st.1 x (by simpa using hx)) (Nat.le_refl _) (fun hall => ?_) (fun e w3 he hns hr3 hm3 hsz3 => ?_)
  · refine ⟨_, rfl, _, rfl, false, rfl, rfl, S2, ?_, fun x hx => ?_, hm2⟩
    · refine ⟨m, es2, clock, pl2, ?_⟩
      have : (st.with acc) = st.tick := by
        unfold BSt.with BSt.tick
        congr
        funext q
        obtain ⟨e1, e2⟩ := hacc q
        refine Prod.ext e1 ?_
        rcases e2 with e2 | e2
        · exact e2
        · have : pl2 q = none := by
            cases hp : pl2 q with
            | none => rfl
            | some y =>
              obtain ⟨⟨e, he, hk, _⟩, _⟩ := hB.acc q y.1 y.2 hp
              exact absurd (hall e he) (e2 e he hk)
          have := hB.non q this
          show (acc q).2 = 0
          have e' : acc q = ([], 0) := this
          rw [e']
      rw [← this]; exact hB
    · rcases hS2 x hx with e | e
      · exact .inl e
      · right; omega
  · have hB3 := hB.mod hm3 fun x hx => hS2r x hx
    refine ⟨_, rfl, _, rfl, true, rfl, sem_entry hB3.map hr3 he ?_⟩
    obtain ⟨peer, p, s, hk, hpl, hv⟩ := hB.ent e he
    refine ⟨_, rfl, _, rfl, peer, ?_, ?_⟩
    · rw [hk]; rfl
    refine callK_ret (c28 hB3 (T := NoB) (W0 := fun _ => True) (Qx := fun _ => True) (by kernel_rfl) (fun x hx e => e.elim) (fun x e => e.elim) (fun _ _ => trivial) (fun _ _ _ _ _ _ => trivial) d33) ?_
    rintro v w4 ⟨rfl, -, S4, es4, ck4, pl4, hB4, hS4, hm4, hkept⟩
    obtain ⟨rfl, hsub, hold⟩ := hkept (by rw [hpl]; rfl)
    have hr4 : w4.heap[r]? = some (.mapIter (some m) ck4 (seen.push e.born) ck4) := (hm4.block r (by omega) (fun e => e.elim (fun e => hS2r r e rfl) fun e => e)).trans hr3
    refine ⟨rfl, ⟨rfl, fun q => if q = peer then ((acc q).1, 0) else acc q, S4, es4, pl4, seen.push e.born, ?_, hr4, fun q => ?_, fun x hx => ?_, ?_, ?_⟩, ?_⟩
    · have e1 : (st.with acc).put peer (((st.with acc).acc peer).1, 0) = st.with (fun q => if q = peer then ((acc q).1, 0) else acc q) := by
        unfold BSt.put BSt.with
        congr
        funext q
        split
        · next hq => rw [hq]
        · rfl
      rw [← e1]; exact hB4
    · obtain ⟨e1, e2⟩ := hacc q
      dsimp only
      by_cases hq : q = peer
      · simp only [hq, if_true]; exact ⟨hq ▸ e1, .inl trivial⟩
      · simp only [if_neg hq]
        refine ⟨e1, e2.imp id fun e2 y hy hyk => ?_⟩
        have := e2 y (hsub.subset hy) hyk
        rw [Array.mem_push]
        rintro (h' | h')
        · exact this h'
        · have := born_inj (l := es2) hB.map.st.2.1 (hsub.subset hy) he h'
          rw [this, hk] at hyk
          cases hyk; exact hq rfl
    · rcases hS4 x hx with e | e
      · exact hS2 x e
      · right; omega
    · refine (hm2.trans hm3 (fun _ _ e => e) fun x hx e => ?_).trans hm4 (fun _ _ e => e) fun x hx e => ?_
      · omega
      · rcases e with e | e
        · rcases hS2 x e with e | e
          · exact e
          · omega
        · exact e.elim
    · have := hm4.size; omega
    · show leftIn w4 m r < leftIn w2 m r
      rw [leftIn_eq hB4.map.get hr4, leftIn_eq hB.map.get hr]
      refine Nat.lt_of_le_of_lt (hsub.filter _).length_le ?_
      refine filter_lt _ _ (fun x hx => ?_) e ?_ ?_ es2 he
      · simp at hx ⊢; exact hx.1
      · simpa using hns
      · simp

/-! ## New -/
theorem c26 {w : World} {b : Nat} {n : Int} {l : List Value} {T : TypeId} (hb : Blk w b l T) (hl : l.length = 3) : Calls Try.prog 26 #[.pointer (some ⟨b, 0, none⟩), .int .i64 n] w (Ret fun v w' => v = .tuple #[] ∧ Upd w w' b (.cells (l.set 1 (.int .i64 n)).toArray T (0, 0))) := by
  refine call26 _ _ ?_
  unfold sh26
  exact semU_store1 (o := 1) (by kernel_rfl) (by kernel_rfl) rfl hb (by omega) fun w2 hu _ => ⟨rfl, hu⟩
theorem c27 {w : World} {b : Nat} {n : Int} {l : List Value} {T : TypeId} (hb : Blk w b l T) (hl : l.length = 3) : Calls Try.prog 27 #[.pointer (some ⟨b, 0, none⟩), .int .i64 n] w (Ret fun v w' => v = .tuple #[] ∧ Upd w w' b (.cells (l.set 2 (.int .i64 n)).toArray T (0, 0))) := by
  refine call27 _ _ ?_
  unfold sh27
  exact semU_store1 (o := 2) (by kernel_rfl) (by kernel_rfl) rfl hb (by omega) fun w2 hu _ => ⟨rfl, hu⟩
theorem u65 : Try.prog.underlying 65 = some (.slice 50) := by kernel_rfl
theorem i50 : ∃ i, Try.prog.info? 50 = some i ∧ i.zero = some (.agg #[.int .i64 0, .nilFunc]) ∧ i.size = 2 ∧ i.bytes = 16 := info_of (by kernel_rfl) (by kernel_rfl) (by kernel_rfl)
def fnv (k : FuncId) : Value := .func (.func k) #[] #[]
def bst0 (most worst : Int) : BSt := ⟨fun _ => ([], 0), most, worst⟩
def max1 (n : Int) : Int := if (1 : Int) > n then 1 else n

theorem c25 {w : World} {a : Nat} {x y : Int} {T : TypeId} (ha : Blk w a [.int .i64 x, fnv 26, .int .i64 y, fnv 27] T) :
    Calls Try.prog 25 #[.slice (some ⟨a, 0, none⟩) 2 2] w (Ret fun v w' => ∃ b S, v = .pointer (some ⟨b, 0, none⟩) ∧ BH w' b S (bst0 (max1 x) (max1 y)) ∧ (∀ z, S z → w.heap.size ≤ z) ∧ Mod NoB w w') := by
  refine call25 ⟨some ⟨a, 0, none⟩, 2, 2⟩ ?_
  unfold sh25
  obtain ⟨i5, h51, h52, h53, h54⟩ := i50
  refine sem_makeMap (d := .int .i64) fun m w1 hat1 hsz1 hM hm1 => ⟨_, rfl, sem_box (l := [.map (some m), .int .i64 0, .int .i64 0]) rfl fun b w2 hN hb => ⟨_, rfl, ?_⟩⟩
  have hat2 := hN.at_; have hsz2 := hN.size
  have hal := ha.lt
  refine ⟨fun l w3 => match l with
      | [.i _ k] => Mod NoB w w3 ∧ MapB (.int .i64) w3 m [] 0 ∧ b < w3.heap.size ∧ ((k = 0 ∧ Blk w3 b [.map (some m), .int .i64 0, .int .i64 0] 41) ∨ (k = 1 ∧ Blk w3 b [.map (some m), .int .i64 (max1 x), .int .i64 0] 41) ∨ (k = 2 ∧ Blk w3 b [.map (some m), .int .i64 (max1 x), .int .i64 (max1 y)] 41))
      | _ => False, fun l _ => match l with | [.i _ k] => (2 - k).toNat | _ => 0, ⟨hm1.no hN.mod, hM.mod hN.mod fun h => h, by omega, .inl ⟨rfl, hb⟩⟩, ?_⟩
  rintro k w3 ⟨hm3, hM3, hbs, hc⟩
  have ha3 := ha.mod hm3 fun h => h
  rcases hc with ⟨rfl, hb3⟩ | ⟨rfl, hb3⟩ | ⟨rfl, hb3⟩
  · refine condK_i (fun _ => ?_) (fun h => by simp at h)
    refine ⟨⟨by omega, by simp⟩, x, fnv 26, ha3.rd (o := 0) (by intro j v hj; match j, hj with | 0, hj => simpa using hj | 1, hj => simpa using hj | j + 2, hj => simp at hj), ?_⟩
    refine sem_alloc (l := [.int .i64 0, .nilFunc]) h51 h52 rfl fun s w4 hN4 hs4 => ⟨_, rfl, ?_⟩
    have hat4 := hN4.at_; have hsz4 := hN4.size
    refine semU_store (o := 0) (vs := [.int .i64 x, fnv 26]) (by kernel_rfl) (by kernel_rfl) rfl hs4 (by simp) (by intro u hu; simp at hu; rcases hu with rfl | rfl <;> rfl) fun w5 hu5 hs5 => ?_
    refine ⟨fnv 26, hs5.rd1 rfl, x, hs5.rd1 rfl, callFV_of (by kernel_rfl) (callK_ret (c26 (((hb3.mod hN4.mod fun h => h)).mod hu5.mod (by omega)) rfl) ?_)⟩
    rintro v w6 ⟨rfl, hu6⟩
    have hm5 : Mod NoB w3 w5 := hN4.mod.fresh hu5.mod fun x e => by omega
    have hsz5 := hu5.size; have hsz6 := hu6.size
    refine ⟨rfl, ⟨(hm3.no hm5).fresh hu6.mod fun x e => by omega, (hM3.mod hm5 fun h => h).mod hu6.mod (by omega), by omega, .inr (.inl ⟨rfl, hu6.get⟩)⟩, Nat.le_of_ble_eq_true rfl⟩
  · refine condK_i (fun _ => ?_) (fun h => by simp at h)
    refine ⟨⟨by omega, by simp⟩, y, fnv 27, ha3.rd (o := 2) (by intro j v hj; match j, hj with | 0, hj => simpa using hj | 1, hj => simpa using hj | j + 2, hj => simp at hj), ?_⟩
    refine sem_alloc (l := [.int .i64 0, .nilFunc]) h51 h52 rfl fun s w4 hN4 hs4 => ⟨_, rfl, ?_⟩
    have hat4 := hN4.at_; have hsz4 := hN4.size
    refine semU_store (o := 0) (vs := [.int .i64 y, fnv 27]) (by kernel_rfl) (by kernel_rfl) rfl hs4 (by simp) (by intro u hu; simp at hu; rcases hu with rfl | rfl <;> rfl) fun w5 hu5 hs5 => ?_
    refine ⟨fnv 27, hs5.rd1 rfl, y, hs5.rd1 rfl, callFV_of (by kernel_rfl) (callK_ret (c27 (((hb3.mod hN4.mod fun h => h)).mod hu5.mod (by omega)) rfl) ?_)⟩
    rintro v w6 ⟨rfl, hu6⟩
    have hm5 : Mod NoB w3 w5 := hN4.mod.fresh hu5.mod fun x e => by omega
    have hsz5 := hu5.size; have hsz6 := hu6.size
    refine ⟨rfl, ⟨(hm3.no hm5).fresh hu6.mod fun x e => by omega, (hM3.mod hm5 fun h => h).mod hu6.mod (by omega), by omega, .inr (.inr ⟨rfl, hu6.get⟩)⟩, Nat.le_of_ble_eq_true rfl⟩
  · refine condK_i (fun h => by simp at h) (fun _ => ?_)
    refine ⟨b, fun z => z = b ∨ z = m, rfl, ⟨m, [], 0, fun _ => none, ⟨hb3, hM3, by simp, by simp, by simp [bst0, BSt.acc], by simp, by simp, ⟨.inl rfl, .inr rfl, by simp⟩, ?_, by omega⟩⟩, fun z hz => by omega, hm3⟩
    rintro z (rfl | rfl)
    · exact hbs
    · exact hM3.lt

theorem c8 {w : World} {x y : Int} : Calls Try.prog 8 #[.int .i64 x, .int .i64 y] w (Ret fun v w' => ∃ b S, v = .pointer (some ⟨b, 0, none⟩) ∧ BH w' b S (bst0 (max1 x) (max1 y)) ∧ (∀ z, S z → w.heap.size ≤ z) ∧ Mod NoB w w') := by
  refine call8 _ _ ?_
  unfold sh8
  obtain ⟨i5, h51, h52, h53, h54⟩ := i50
  refine ⟨rfl, rfl, sem_lit [.agg #[.int .i64 x, fnv 26], .agg #[.int .i64 y, fnv 27]] (l := [.int .i64 x, fnv 26, .int .i64 y, fnv 27]) u65 h51 h52 h53 (by decide) rfl (by decide) (by decide) rfl (by intro v hv; simp at hv; rcases hv with rfl | rfl <;> rfl) rfl fun a w1 hN ha => ⟨⟨_, _, _⟩, rfl, ?_⟩⟩
  refine callK_ret (c25 ha) ?_
  rintro v w2 ⟨b, S, rfl, hB, hS, hm⟩
  have := hN.size; have := hN.at_
  exact ⟨_, rfl, b, S, rfl, hB, fun z hz => by have := hS z hz; omega, hN.mod.no hm⟩
end Go.Proofs.Ytnecbkjpijiopaa
