/- Budget: the contracts of its methods. -/
import Derived.Test.YtnecbkjpijiopaaB4
set_option linter.unusedSimpArgs false
set_option linter.unusedVariables false
namespace Go.Proofs.Ytnecbkjpijiopaa
open Go Go.Sh Go.MapKept

theorem i4 : ∃ i, Try.prog.info? 4 = some i ∧ i.zero = some (.bool false) ∧ i.size = 1 ∧ i.bytes = 1 := info_of (by kernel_rfl) (by kernel_rfl) (by kernel_rfl)
theorem i33 : ∃ i, Try.prog.info? 33 = some i ∧ i.zero = some (.int .i64 0) ∧ i.size = 1 ∧ i.bytes = 8 := info_of (by kernel_rfl) (by kernel_rfl) (by kernel_rfl)

theorem c11 {w : World} {b : Nat} {S : Nat → Prop} {st : BSt} {peer n : Int} (h : BH w b S st) (hn : (st.acc peer).1.length ≤ 1000000) :
    Calls Try.prog 11 #[.pointer (some ⟨b, 0, none⟩), .int .i64 peer, .int .i64 n] w (Ret fun v w' => v = .tuple #[] ∧ Post S w w' b (st.put peer ((st.acc peer).1.erase n, (st.acc peer).2))) := by
  refine call11 _ _ _ ?_
  unfold sh11
  obtain ⟨m, es, clock, pl, h⟩ := h
  refine sem_box (l := [.int .i64 n]) rfl fun c w1 hN hb => ⟨_, rfl, ?_⟩
  have hat := hN.at_; have hsz := hN.size
  refine callK_ret (c28 (h.mod hN.mod fun _ _ h => h) (T := fun y => y = c) (W0 := fun w => Blk w c [.int .i64 n] 3) (Qx := fun _ => True) (by kernel_rfl) (fun x hx e => by have := h.low x hx; omega) (fun x e => by omega)
    (fun w2 hm => hb.mod hm fun e => by have := h.low _ e.1; omega) (fun _ _ _ _ _ _ => trivial) (d29 hn)) ?_
  rintro v w2 ⟨rfl, -, S', es', ck', pl', hB', h1, h2, -⟩
  exact ⟨rfl, rfl, Post.of hN.mod ⟨_, _, _, _, hB'⟩ h1 h2 (fun x e => by omega) rfl⟩
theorem c11_un {w : World} {b : Option Addr} {peer n : Int} (h : Un w b) : Calls Try.prog 11 #[.pointer b, .int .i64 peer, .int .i64 n] w (Ret fun v w' => v = .tuple #[] ∧ Mod NoB w w') := by
  refine call11 _ _ _ ?_
  unfold sh11
  refine sem_box (l := [.int .i64 n]) rfl fun c w1 hN hb => ⟨_, rfl, callK_ret (c28_un (h.mod hN.mod fun _ _ h => h) _ _) ?_⟩
  rintro v w2 ⟨rfl, rfl⟩
  exact ⟨rfl, rfl, hN.mod⟩

theorem c13 {w : World} {b : Nat} {S : Nat → Prop} {st : BSt} {peer : Int} (h : BH w b S st) (hn : -1000000 ≤ (st.acc peer).2 ∧ (st.acc peer).2 ≤ 1000000) :
    Calls Try.prog 13 #[.pointer (some ⟨b, 0, none⟩), .int .i64 peer] w (Ret fun v w' => v = .tuple #[] ∧ Post S w w' b (st.put peer ((st.acc peer).1, (st.acc peer).2 + 1))) := by
  refine call13 _ _ ?_
  unfold sh13
  obtain ⟨m, es, clock, pl, h⟩ := h
  refine callK_ret (c28 h (T := NoB) (W0 := fun _ => True) (Qx := fun _ => True) (by kernel_rfl) (fun x hx e => e.elim) (fun x e => e.elim) (fun _ _ => trivial) (fun _ _ _ _ _ _ => trivial) (d31 hn)) ?_
  rintro v w2 ⟨rfl, -, S', es', ck', pl', hB', h1, h2, -⟩
  exact ⟨rfl, rfl, Post.of (Mod.refl _ _) ⟨_, _, _, _, hB'⟩ h1 h2 (fun x e => e.elim) rfl⟩
theorem c13_un {w : World} {b : Option Addr} {peer : Int} (h : Un w b) : Calls Try.prog 13 #[.pointer b, .int .i64 peer] w (Ret fun v w' => v = .tuple #[] ∧ Mod NoB w w') := by
  refine call13 _ _ ?_
  unfold sh13
  refine callK_ret (c28_un h _ _) ?_
  rintro v w2 ⟨rfl, rfl⟩
  exact ⟨rfl, rfl, Mod.refl _ _⟩

theorem c19 {w : World} {b : Nat} {S : Nat → Prop} {st : BSt} {peer n : Int} (h : BH w b S st) (hn : (st.acc peer).1.length ≤ 1000000) :
    Calls Try.prog 19 #[.pointer (some ⟨b, 0, none⟩), .int .i64 peer, .int .i64 n] w (Ret fun v w' => v = .bool (decide (n ∈ (st.acc peer).1)) ∧ Post S w w' b st) := by
  refine call19 _ _ _ ?_
  unfold sh19
  obtain ⟨m, es, clock, pl, h⟩ := h
  obtain ⟨i4, h41, h42, h43, h44⟩ := i4
  refine sem_box (l := [.int .i64 n]) rfl fun c w1 hN1 hc1 => ⟨_, rfl, sem_alloc (l := [.bool false]) h41 h42 rfl fun r w2 hN2 hr2 => ⟨_, rfl, ?_⟩⟩
  have hat1 := hN1.at_; have hsz1 := hN1.size; have hat2 := hN2.at_; have hsz2 := hN2.size
  refine semU_store1 (o := 0) (by kernel_rfl) (by kernel_rfl) rfl hr2 (by simp) fun w3 hu hr3 => ?_
  have hsz3 := hu.size
  have hm3 : Mod NoB w w3 := (hN1.mod.no hN2.mod).fresh hu.mod fun x e => by omega
  have hc3 : Blk w3 c [.int .i64 n] 3 := (hc1.mod hN2.mod fun h => h).mod hu.mod (by omega)
  refine callK_ret (c28 (h.mod hm3 fun _ _ h => h) (T := fun y => y = c ∨ y = r) (W0 := fun w => Blk w c [.int .i64 n] 3 ∧ Blk w r [.bool false] 4) (Qx := fun w => Blk w r [.bool (decide (n ∈ (st.acc peer).1))] 4) (by kernel_rfl) (fun x hx e => by have := h.low x hx; omega) (fun x e => by omega)
    (fun w2 hm => ⟨hc3.mod hm fun e => by have := h.low _ e.1; omega, hr3.mod hm fun e => by have := h.low _ e.1; omega⟩) (fun U w1 w2 hq hm hU => hq.mod hm (hU r (.inr rfl))) (d37 hn (by omega))) ?_
  rintro v w4 ⟨rfl, hq, S', es', ck', pl', hB', h1, h2, -⟩
  refine ⟨rfl, _, hq.rd1 rfl, rfl, ?_⟩
  rw [put_self] at hB'
  exact Post.of hm3 ⟨_, _, _, _, hB'⟩ h1 h2 (fun x e => by omega) rfl
theorem c19_un {w : World} {b : Option Addr} {peer n : Int} (h : Un w b) : Calls Try.prog 19 #[.pointer b, .int .i64 peer, .int .i64 n] w (Ret fun v w' => v = .bool false ∧ Mod NoB w w') := by
  refine call19 _ _ _ ?_
  unfold sh19
  obtain ⟨i4, h41, h42, h43, h44⟩ := i4
  refine sem_box (l := [.int .i64 n]) rfl fun c w1 hN1 hc1 => ⟨_, rfl, sem_alloc (l := [.bool false]) h41 h42 rfl fun r w2 hN2 hr2 => ⟨_, rfl, ?_⟩⟩
  have hat1 := hN1.at_; have hsz1 := hN1.size; have hat2 := hN2.at_; have hsz2 := hN2.size
  refine semU_store1 (o := 0) (by kernel_rfl) (by kernel_rfl) rfl hr2 (by simp) fun w3 hu hr3 => ?_
  have hm3 : Mod NoB w w3 := (hN1.mod.no hN2.mod).fresh hu.mod fun x e => by omega
  refine callK_ret (c28_un (h.mod hm3 fun _ _ h => h) _ _) ?_
  rintro v w4 ⟨rfl, rfl⟩
  exact ⟨rfl, _, hr3.rd1 rfl, rfl, hm3⟩

theorem c21 {w : World} {b : Nat} {S : Nat → Prop} {st : BSt} {peer : Int} (h : BH w b S st) :
    Calls Try.prog 21 #[.pointer (some ⟨b, 0, none⟩), .int .i64 peer] w (Ret fun v w' => v = .bool (decide ((st.acc peer).2 < st.worst)) ∧ Post S w w' b st) := by
  refine call21 _ _ ?_
  unfold sh21
  obtain ⟨m, es, clock, pl, h⟩ := h
  obtain ⟨i4, h41, h42, h43, h44⟩ := i4
  refine sem_box (l := [.pointer (some ⟨b, 0, none⟩)]) rfl fun c w1 hN1 hc1 => ⟨_, rfl, sem_alloc (l := [.bool false]) h41 h42 rfl fun r w2 hN2 hr2 => ⟨_, rfl, ?_⟩⟩
  have hat1 := hN1.at_; have hsz1 := hN1.size; have hat2 := hN2.at_; have hsz2 := hN2.size
  refine semU_store1 (o := 0) (by kernel_rfl) (by kernel_rfl) rfl hr2 (by simp) fun w3 hu hr3 => ?_
  have hsz3 := hu.size
  have hm3 : Mod NoB w w3 := (hN1.mod.no hN2.mod).fresh hu.mod fun x e => by omega
  have hc3 : Blk w3 c [.pointer (some ⟨b, 0, none⟩)] 24 := (hc1.mod hN2.mod fun h => h).mod hu.mod (by omega)
  have hbl := h.blk.lt
  have h3 := h.mod hm3 fun _ _ h => h
  refine ⟨_, hc3.rd1 rfl, callK_ret (c28 h3 (T := fun y => y = c ∨ y = r) (W0 := fun w => Blk w c [.pointer (some ⟨b, 0, none⟩)] 24 ∧ Blk w r [.bool false] 4 ∧ Blk w b [.map (some m), .int .i64 st.most, .int .i64 st.worst] 41) (Qx := fun w => Blk w r [.bool (decide ((st.acc peer).2 < st.worst))] 4) (by kernel_rfl) (fun x hx e => by have := h.low x hx; omega) (fun x e => by omega)
    (fun w2 hm => ⟨hc3.mod hm fun e => by have := h.low _ e.1; omega, hr3.mod hm fun e => by have := h.low _ e.1; omega, h3.blk.mod hm fun e => e.2 rfl⟩) (fun U w1 w2 hq hm hU => hq.mod hm (hU r (.inr rfl))) (d38 (by omega) (by omega))) ?_⟩
  rintro v w4 ⟨rfl, hq, S', es', ck', pl', hB', h1, h2, -⟩
  refine ⟨rfl, _, hq.rd1 rfl, rfl, ?_⟩
  rw [put_self] at hB'
  exact Post.of hm3 ⟨_, _, _, _, hB'⟩ h1 h2 (fun x e => by omega) rfl
theorem c21_un {w : World} {b : Option Addr} {peer : Int} (h : Un w b) : Calls Try.prog 21 #[.pointer b, .int .i64 peer] w (Ret fun v w' => v = .bool false ∧ Mod NoB w w') := by
  refine call21 _ _ ?_
  unfold sh21
  obtain ⟨i4, h41, h42, h43, h44⟩ := i4
  refine sem_box (l := [.pointer b]) rfl fun c w1 hN1 hc1 => ⟨_, rfl, sem_alloc (l := [.bool false]) h41 h42 rfl fun r w2 hN2 hr2 => ⟨_, rfl, ?_⟩⟩
  have hat1 := hN1.at_; have hsz1 := hN1.size; have hat2 := hN2.at_; have hsz2 := hN2.size
  refine semU_store1 (o := 0) (by kernel_rfl) (by kernel_rfl) rfl hr2 (by simp) fun w3 hu hr3 => ?_
  have hm3 : Mod NoB w w3 := (hN1.mod.no hN2.mod).fresh hu.mod fun x e => by omega
  have hc3 : Blk w3 c [.pointer b] 24 := (hc1.mod hN2.mod fun h => h).mod hu.mod (by omega)
  refine ⟨b, hc3.rd1 rfl, callK_ret (c28_un (h.mod hm3 fun _ _ h => h) _ _) ?_⟩
  rintro v w4 ⟨rfl, rfl⟩
  exact ⟨rfl, _, hr3.rd1 rfl, rfl, hm3⟩

/-- Open's end: the results are read -/
theorem open_end {w7 : World} {g i e : Nat} {vg ve : Int} {vi : Bool} (hg : Blk w7 g [.int .i64 vg] 3) (hi : Blk w7 i [.bool vi] 4) (he : Blk w7 e [.int .i64 ve] 33) (hgi : g ≠ i) (hge : g ≠ e) (hie : i ≠ e)
    {R : Ending → World → Prop} (hR : ∀ w', Mod (fun x => x = g ∨ x = i ∨ x = e) w7 w' → R (.returned (.tuple #[.int .i64 vg, .bool vi, .int .i64 ve])) w') :
    ∃ sx : World → Prop, sx w7.drew ∧ onSome (some (⟨g, 0, none⟩ : Addr)) fun a2 => ∃ x1 : Int, (∀ w', sx w' → Rd w' a2 [(.int .i64 x1)]) ∧ onSome (some (⟨i, 0, none⟩ : Addr)) fun a3 => ∃ x2 : Bool, (∀ w', sx w' → Rd w' a3 [(.bool x2)]) ∧ onSome (some (⟨e, 0, none⟩ : Addr)) fun a4 => ∃ x3 : Int, (∀ w', sx w' → Rd w' a4 [(.int .i64 x3)]) ∧ ((onSome (some (⟨g, 0, none⟩ : Addr)) fun a5 => semU Try.prog (storeVar 3 a5 (.int .i64 x1)) w7.drew fun w8 => (sx w8 ∧ ((onSome (some (⟨i, 0, none⟩ : Addr)) fun a6 => semU Try.prog (storeVar 4 a6 (.bool x2)) w8 fun w9 => (sx w9 ∧ ((onSome (some (⟨e, 0, none⟩ : Addr)) fun a7 => semU Try.prog (storeVar 33 a7 (.int .i64 x3)) w9 fun w10 => (sx w10 ∧ onSome (some (⟨g, 0, none⟩ : Addr)) fun a8 => ∃ gone1 : Int, Rd w10 a8 [(.int .i64 gone1)] ∧ onSome (some (⟨i, 0, none⟩ : Addr)) fun a9 => ∃ is1 : Bool, Rd w10 a9 [(.bool is1)] ∧ onSome (some (⟨e, 0, none⟩ : Addr)) fun a10 => ∃ e1 : Int, Rd w10 a10 [(.int .i64 e1)] ∧ R (.returned (.tuple #[(.int .i64 gone1), (.bool is1), (.int .i64 e1)])) w10)) ∧ True))) ∧ True))) ∧ True) := by
  refine ⟨fun w => Blk w g [.int .i64 vg] 3 ∧ Blk w i [.bool vi] 4 ∧ Blk w e [.int .i64 ve] 33, ⟨hg, hi, he⟩, vg, fun w h => h.1.rd1 rfl, vi, fun w h => h.2.1.rd1 rfl, ve, fun w h => h.2.2.rd1 rfl, ?_, trivial⟩
  have hm0 : Mod (fun x => x = g ∨ x = i ∨ x = e) w7 w7.drew := Mod.drew _ _
  refine semU_store1 (o := 0) (l := [.int .i64 vg]) (by kernel_rfl) (by kernel_rfl) rfl hg (by simp) fun w8 hu8 hg8 => ?_
  have hi8 : Blk w8 i [.bool vi] 4 := Blk.mod (w := w7.drew) hi hu8.mod (Ne.symm hgi)
  have he8 : Blk w8 e [.int .i64 ve] 33 := Blk.mod (w := w7.drew) he hu8.mod (Ne.symm hge)
  refine ⟨⟨hg8, hi8, he8⟩, ?_, trivial⟩
  refine semU_store1 (o := 0) (by kernel_rfl) (by kernel_rfl) rfl hi8 (by simp) fun w9 hu9 hi9 => ?_
  have hg9 := hg8.mod hu9.mod hgi
  have he9 := he8.mod hu9.mod (Ne.symm hie)
  refine ⟨⟨hg9, hi9, he9⟩, ?_, trivial⟩
  refine semU_store1 (o := 0) (by kernel_rfl) (by kernel_rfl) rfl he9 (by simp) fun w10 hu10 he10 => ?_
  have hg10 := hg9.mod hu10.mod hge
  have hi10 := hi9.mod hu10.mod hie
  refine ⟨⟨hg10, hi10, he10⟩, _, hg10.rd1 rfl, _, hi10.rd1 rfl, _, he10.rd1 rfl, hR _ ?_⟩
  exact ((hm0.tr (hu8.mod.mono fun _ _ e => .inl e)).tr (hu9.mod.mono fun _ _ e => .inr (.inl e))).tr (hu10.mod.mono fun _ _ e => .inr (.inr e))

theorem c17 {w : World} {b : Nat} {S : Nat → Prop} {st : BSt} {peer n : Int} (h : BH w b S st) (hn : (st.acc peer).1.length ≤ 1000000) :
    Calls Try.prog 17 #[.pointer (some ⟨b, 0, none⟩), .int .i64 peer, .int .i64 n] w (Ret fun v w' => v = .tuple #[.int .i64 (openTells (st.acc peer).1 n st.most).1, .bool (openTells (st.acc peer).1 n st.most).2.1, .int .i64 (openTells (st.acc peer).1 n st.most).2.2] ∧
      Post S w w' b (st.put peer (openLeaves (st.acc peer).1 n st.most, (st.acc peer).2))) := by
  refine call17 _ _ _ ?_
  unfold sh17
  obtain ⟨m, es, clock, pl, h⟩ := h
  obtain ⟨i3, h31, h32, h33, h34⟩ := i3
  obtain ⟨i4, h41, h42, h43, h44⟩ := i4
  obtain ⟨i33, h331, h332, h333, h334⟩ := i33
  refine sem_box (l := [.pointer (some ⟨b, 0, none⟩)]) rfl fun b1 w1 hN1 hb1 => ⟨_, rfl, sem_box (l := [.int .i64 n]) rfl fun c w2 hN2 hb2 => ⟨_, rfl, sem_alloc (l := [.int .i64 0]) h31 h32 rfl fun g w3 hN3 hb3 => ⟨_, rfl,
    sem_alloc (l := [.bool false]) h41 h42 rfl fun i w4 hN4 hb4 => ⟨_, rfl, sem_alloc (l := [.int .i64 0]) h331 h332 rfl fun e w5 hN5 hb5 => ⟨_, rfl, semU_store1 (o := 0) (by kernel_rfl) (by kernel_rfl) rfl hb5 (by simp) fun w6 hu hb6 => ?_⟩⟩⟩⟩⟩
  have a1 := hN1.at_; have s1 := hN1.size; have a2 := hN2.at_; have s2 := hN2.size; have a3 := hN3.at_; have s3 := hN3.size; have a4 := hN4.at_; have s4 := hN4.size; have a5 := hN5.at_; have s5 := hN5.size; have s6 := hu.size
  have m25 := ((hN2.mod.no hN3.mod).no hN4.mod).no hN5.mod
  have hm6 : Mod NoB w w6 := (hN1.mod.no m25).fresh hu.mod fun x e => by omega
  have h6 := h.mod hm6 fun _ _ h => h
  have hbl := h.blk.lt
  have hoc : OpenCells w6 c e b1 g i b n (some m) st.most st.worst 0 false 1 := ⟨(hb2.mod ((hN3.mod.no hN4.mod).no hN5.mod) fun h => h).mod hu.mod (by omega), (hb1.mod m25 fun h => h).mod hu.mod (by omega), h6.blk,
    (hb3.mod (hN4.mod.no hN5.mod) fun h => h).mod hu.mod (by omega), (hb4.mod hN5.mod fun h => h).mod hu.mod (by omega), hb6⟩
  refine ⟨_, hoc.b1.rd1 rfl, callK_ret (c28 h6 (T := fun y => y = c ∨ y = e ∨ y = b1 ∨ y = g ∨ y = i) (by kernel_rfl) (fun x hx e => by have := h.low x hx; omega) (fun x e => by omega)
    (fun w2 hm => hoc.mod hm (fun y hy e => by have := h.low _ e.1; omega) fun e => e.2 rfl)
    (fun U w1 w2 hq hm hU => ⟨hq.1.mod hm (hU g (by simp)), hq.2.1.mod hm (hU i (by simp)), hq.2.2.mod hm (hU e (by simp))⟩)
    (d34 hn (by simp only [List.nodup_cons, List.mem_cons, List.not_mem_nil, or_false, not_or, List.nodup_nil, and_true, not_false_eq_true]; omega) (by simp only [List.mem_cons, List.not_mem_nil, or_false, not_or]; omega))) ?_⟩
  rintro v w7 ⟨rfl, ⟨hg, hi, he⟩, S', es', ck', pl', hB', h1, h2, -⟩
  refine ⟨rfl, open_end hg hi he (by omega) (by omega) (by omega) fun w' hm => ⟨rfl, ?_⟩⟩
  have hS'x : ∀ x, S' x → x ≠ g ∧ x ≠ i ∧ x ≠ e := fun x hx => by
    rcases h1 x hx with h1 | h1
    · have := h.low x h1; omega
    · omega
  refine Post.of (T := fun y => y = c ∨ y = e ∨ y = b1 ∨ y = g ∨ y = i) hm6 ⟨_, _, _, _, hB'.mod hm fun x hx e => by have := hS'x x hx; omega⟩ h1 (h2.tr (hm.mono fun x _ e => .inr (by omega))) (fun x e => by omega) rfl
theorem c17_un {w : World} {b : Option Addr} {peer n : Int} (h : Un w b) :
    Calls Try.prog 17 #[.pointer b, .int .i64 peer, .int .i64 n] w (Ret fun v w' => v = .tuple #[.int .i64 0, .bool false, .int .i64 1] ∧ Mod NoB w w') := by
  refine call17 _ _ _ ?_
  unfold sh17
  obtain ⟨i3, h31, h32, h33, h34⟩ := i3
  obtain ⟨i4, h41, h42, h43, h44⟩ := i4
  obtain ⟨i33, h331, h332, h333, h334⟩ := i33
  refine sem_box (l := [.pointer b]) rfl fun b1 w1 hN1 hb1 => ⟨_, rfl, sem_box (l := [.int .i64 n]) rfl fun c w2 hN2 hb2 => ⟨_, rfl, sem_alloc (l := [.int .i64 0]) h31 h32 rfl fun g w3 hN3 hb3 => ⟨_, rfl,
    sem_alloc (l := [.bool false]) h41 h42 rfl fun i w4 hN4 hb4 => ⟨_, rfl, sem_alloc (l := [.int .i64 0]) h331 h332 rfl fun e w5 hN5 hb5 => ⟨_, rfl, semU_store1 (o := 0) (by kernel_rfl) (by kernel_rfl) rfl hb5 (by simp) fun w6 hu hb6 => ?_⟩⟩⟩⟩⟩
  have a1 := hN1.at_; have s1 := hN1.size; have a2 := hN2.at_; have s2 := hN2.size; have a3 := hN3.at_; have s3 := hN3.size; have a4 := hN4.at_; have s4 := hN4.size; have a5 := hN5.at_; have s5 := hN5.size; have s6 := hu.size
  have m25 := ((hN2.mod.no hN3.mod).no hN4.mod).no hN5.mod
  have hm6 : Mod NoB w w6 := (hN1.mod.no m25).fresh hu.mod fun x e => by omega
  refine ⟨b, ((hb1.mod m25 fun h => h).mod hu.mod (by omega)).rd1 rfl, callK_ret (c28_un (h.mod hm6 fun _ _ h => h) _ _) ?_⟩
  rintro v w7 ⟨rfl, rfl⟩
  refine ⟨rfl, open_end ((hb3.mod (hN4.mod.no hN5.mod) fun h => h).mod hu.mod (by omega)) ((hb4.mod hN5.mod fun h => h).mod hu.mod (by omega)) hb6 (by omega) (by omega) (by omega) fun w' hm => ⟨rfl, hm6.fresh hm fun x e => by omega⟩⟩
end Go.Proofs.Ytnecbkjpijiopaa
