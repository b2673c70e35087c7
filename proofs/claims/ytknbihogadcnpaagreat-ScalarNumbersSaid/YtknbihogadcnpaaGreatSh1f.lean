/- Soundness of the shallow form: what hangs on operands alone, put together. -/
import Derived.Test.YtknbihogadcnpaaGreatSh1e
set_option linter.unusedSimpArgs false
set_option linter.unusedVariables false
namespace Go.Sh
open Go

section
variable {P : Program} {N : Nat} {env : Env} {a : Act} {next : TV → Prop}

theorem good_evs (hsim : Sim N env a.tmps) {xs : Array Operand} (h : allGood env xs = true) : xs.map a.eval = (evs env xs).toArray := by
  apply Array.ext'
  simp only [Array.toList_map, evs]
  apply List.map_congr_left
  intro x hx
  have := List.all_eq_true.1 h x hx
  exact hsim.eval x (by simpa using this)

theorem slice_run_s {T : TypeId} {s : List UInt8} {lo hi : Option Int} {kl kh : IntKind} (hu : P.underlying T = some .string)
    (h : boundK s.length s.length lo hi none fun l h _ => next (.s ((s.take h).drop l))) :
    ∃ t, (∀ w, (Instr.sliceAt T (.string ⟨s.toArray⟩) (lo.map (Value.int kl)) (hi.map (Value.int kh)) none).run P w = .ok t.enc w) ∧ next t := by
  obtain ⟨l, h', m, hr, hn⟩ := bounds_run (P := P) (isS := false) (kl := kl) (kh := kh) (km := .i64) h
  refine ⟨_, fun w => ?_, hn⟩
  have e1 : (ByteArray.mk s.toArray).size = s.length := by simp [ByteArray.size]
  have hr' := hr
  simp only [Option.map_none] at hr'
  simp only [Instr.sliceAt, Instr.slice, Sem.run_bind, run_underlying hu, Result.andThen_ok, e1]
  simp only [Option.isSome_none, Bool.false_eq_true, ↓reduceIte, Sem.run_bind, Sem.run_pure, Result.andThen_ok, hr', TV.enc]
  congr 2
  apply ByteArray.ext
  apply Array.ext'
  simp [ByteArray.data_extract, List.drop_take]

theorem slice_run_sl {T e : TypeId} {s : Slc} {lo hi mx : Option Int} {kl kh km : IntKind} (hu : P.underlying T = some (.slice e)) (hi' : (P.info? e).isSome = true)
    (h : boundK s.len s.cap lo hi mx fun l h m => next (.sl (cutSl s (sizeAt P e) l h m))) :
    ∃ t, (∀ w, (Instr.sliceAt T (.slice s.a s.len s.cap) (lo.map (Value.int kl)) (hi.map (Value.int kh)) (mx.map (Value.int km))).run P w = .ok t.enc w) ∧ next t := by
  obtain ⟨l, h', m, hr, hn⟩ := bounds_run (P := P) (isS := true) (kl := kl) (kh := kh) (km := km) h
  refine ⟨_, fun w => ?_, hn⟩
  simp only [Instr.sliceAt, Instr.slice, Sem.run_bind, run_underlying hu, Result.andThen_ok, hr, run_sizeAt hi', Sem.run_pure, TV.enc, cutSl]

theorem slice_run_a {T e : TypeId} {n : Nat} {ad : Addr} {lo hi : Option Int} {kl kh : IntKind} (hu : P.underlying T = some (.array n e)) (hi' : (P.info? e).isSome = true)
    (h : boundK n n lo hi none fun l h m => next (.sl (cutSl ⟨some ad, n, n⟩ (sizeAt P e) l h m))) :
    ∃ t, (∀ w, (Instr.sliceAt T (.pointer (some ad)) (lo.map (Value.int kl)) (hi.map (Value.int kh)) none).run P w = .ok t.enc w) ∧ next t := by
  obtain ⟨l, h', m, hr, hn⟩ := bounds_run (P := P) (isS := false) (kl := kl) (kh := kh) (km := .i64) h
  refine ⟨_, fun w => ?_, hn⟩
  have hr' := hr
  simp only [Option.map_none] at hr'
  simp only [Instr.sliceAt, Instr.sureAddr, Sem.run_bind, run_underlying hu, Result.andThen_ok, Sem.run_pure, hr', run_sizeAt hi', TV.enc, cutSl, Option.map_some]
  split <;> rfl

theorem opt_eval (hsim : Sim N env a.tmps) {x : Option Operand} {n : Option Int} (h : optNum env x = some n) : ∃ k, x.map a.eval = n.map (Value.int k) := by
  rcases optNum_run h with ⟨rfl, rfl⟩ | ⟨o, c, rfl, rfl, hc⟩
  · exact ⟨.i64, rfl⟩
  · obtain ⟨k, hk⟩ := hsim.numIs hc
    exact ⟨k, by simp [hk]⟩

theorem lenK_run {T : TypeId} {x : TV} {ty : TypeId} (h : lenK P T x next) : x.isBad = false ∧ ∃ t, (∀ w, (Builtin.len_ #[T] ty #[x.enc]).run P w = .ok t.enc w) ∧ next t := by
  have e1 : ∀ l : List UInt8, (ByteArray.mk l.toArray).size = l.length := fun l => by simp [ByteArray.size]
  unfold lenK at h
  split at h
  · rename_i hu
    exact ⟨rfl, _, fun w => by simp [Builtin.len_, run_underlying hu, TV.enc, goInt]; rw [e1], h⟩
  · rename_i hu
    exact ⟨rfl, _, fun w => by simp [Builtin.len_, run_underlying hu, TV.enc, goInt], h⟩
  · rename_i hu
    exact ⟨rfl, _, fun w => by simp [Builtin.len_, run_underlying hu, TV.enc, goInt], h⟩
  · rename_i hu
    split at h
    · rename_i hu2
      exact ⟨rfl, _, fun w => by simp [Builtin.len_, run_underlying hu, run_underlying hu2, TV.enc, goInt], h⟩
    · exact h.elim
  · exact h.elim
theorem capK_run {T : TypeId} {x : TV} {ty : TypeId} (h : capK P T x next) : x.isBad = false ∧ ∃ t, (∀ w, (Builtin.cap_ #[T] ty #[x.enc]).run P w = .ok t.enc w) ∧ next t := by
  unfold capK at h
  split at h
  · rename_i hu
    exact ⟨rfl, _, fun w => by simp [Builtin.cap_, run_underlying hu, TV.enc, goInt], h⟩
  · exact h.elim

theorem min2_run {xs : List TV} {y : TV} {ty : Array TypeId} {t : TypeId} (h : min2 xs = some y) : (∀ x ∈ xs, x.isBad = false) ∧ ∀ w, (Builtin.min_ ty t (encL xs).toArray).run P w = .ok y.enc w := by
  unfold min2 at h
  split at h
  · split at h
    · rename_i hk; subst hk; cases h
      exact ⟨by simp [TV.isBad], fun w => by simp [Builtin.min_, Builtin.min2, encL, TV.enc]⟩
    · simp at h
  · split at h
    · rename_i hk; obtain ⟨rfl, rfl⟩ := hk; cases h
      exact ⟨by simp [TV.isBad], fun w => by simp [Builtin.min_, Builtin.min2, encL, TV.enc]⟩
    · simp at h
  · simp at h
theorem max2_run {xs : List TV} {y : TV} {ty : Array TypeId} {t : TypeId} (h : max2 xs = some y) : (∀ x ∈ xs, x.isBad = false) ∧ ∀ w, (Builtin.max_ ty t (encL xs).toArray).run P w = .ok y.enc w := by
  unfold max2 at h
  split at h
  · split at h
    · rename_i hk; subst hk; cases h
      exact ⟨by simp [TV.isBad], fun w => by simp [Builtin.max_, Builtin.max2, encL, TV.enc]⟩
    · simp at h
  · split at h
    · rename_i hk; obtain ⟨rfl, rfl⟩ := hk; cases h
      exact ⟨by simp [TV.isBad], fun w => by simp [Builtin.max_, Builtin.max2, encL, TV.enc]⟩
    · simp at h
  · simp at h

theorem eval_list (hsim : Sim N env a.tmps) : ∀ (xs : List Operand), (∀ x ∈ xs.map (ev env), x.isBad = false) → xs.map a.eval = encL (xs.map (ev env))
  | [], _ => rfl
  | x :: r, h => by
    simp only [List.map_cons, encL]
    rw [hsim.eval x (h _ (by simp)), eval_list hsim r (fun y hy => h y (by simp at hy ⊢; exact .inr hy))]

theorem pureK_run {o : Oper} (hsim : Sim N env a.tmps) (h : pureK P o env next) : Gives P (execOp a.eval o) next := by
  obtain ⟨dst, op, type, pos, after, guard⟩ := o
  unfold pureK at h
  simp only at h
  unfold execOp
  cases op <;> simp only at h ⊢ <;> try (exact h.elim)
  case move x => exact ⟨ev env x, a.eval x, fun w => rfl, fun hb => hsim.eval x hb, h⟩
  case assign x => exact ⟨ev env x, a.eval x, fun w => rfl, fun hb => hsim.eval x hb, h⟩
  case pick c x y =>
    split at h
    · rename_i t hc
      have := hsim.is hc rfl
      cases t with
      | true => exact ⟨ev env x, a.eval x, fun w => by simp [this, TV.enc, asBool], fun hb => hsim.eval x hb, h⟩
      | false => exact ⟨ev env y, a.eval y, fun w => by simp [this, TV.enc, asBool], fun hb => hsim.eval y hb, h⟩
    · exact h.elim
  case nilCheck x =>
    split at h
    · rename_i q hx
      obtain ⟨ad, rfl, h⟩ := onSome_out h
      have := hsim.is hx rfl
      exact .of (t := .p (some ad)) (fun w => by simp [this, TV.enc]) h
    · rename_i f first cap hx
      have := hsim.is hx rfl
      exact .of (t := .v (.func (.func f) first cap)) (fun w => by simp [this, TV.enc]) h
    · exact h.elim
  case binOp op T x y yT =>
    obtain ⟨hbx, hby, t, ht, hn⟩ := binK_run h
    refine gives_value (t := t) (fun w => ?_) hn
    rw [hsim.eval x hbx, hsim.eval y hby]
    exact ht w
  case unOp op T x =>
    split at h
    · rename_i hx
      exact gives_value (fun w => by rw [hsim.is hx rfl]; rfl) h
    · rename_i hx
      exact gives_value (fun w => by rw [hsim.is hx rfl]; rfl) h
    · rename_i n hx
      refine gives_value (t := .u64 (~~~n)) (fun w => ?_) h
      rw [hsim.is hx rfl]
      show Result.ok (Value.int .u64 (IntKind.u64.wrap ((BitVec.ofInt 64 (IntKind.u64.max) ^^^ BitVec.ofInt 64 (n.toNat : Int)).toNat : Int))) w = _
      rw [not64]; rfl
    · rename_i n hx
      refine gives_value (t := .u8 (~~~n)) (fun w => ?_) h
      rw [hsim.is hx rfl]
      show Result.ok (Value.int .u8 (IntKind.u8.wrap ((BitVec.ofInt 8 (IntKind.u8.max) ^^^ BitVec.ofInt 8 (n.toNat : Int)).toNat : Int))) w = _
      rw [not8]; rfl
    · exact h.elim
  case convert s d x =>
    split at h
    · rename_i ts hs
      cases hd : P.underlying d with
      | none => simp [hd, convI] at h
      | some td =>
        rw [hd] at h
        obtain ⟨hb, t, ht, hn⟩ := convI_run hs hd h
        exact gives_value (fun w => by rw [hsim.eval x hb]; exact ht w) hn
    · exact h.elim
  case makeInterface T x =>
    cases hc : (isIface P T || (ev env x).isBad) with
    | true => simp [hc] at h
    | false =>
      simp only [hc, cond_false] at h
      simp only [Bool.or_eq_false_iff] at hc
      refine gives_value (t := .v (.iface T (ev env x).enc)) (fun w => ?_) h
      rw [hsim.eval x hc.2]
      have h1 := hc.1
      unfold isIface at h1
      cases hu : P.underlying T with
      | none => simp [hu] at h1
      | some d =>
        rw [hu] at h1
        cases d <;> simp at h1 <;> simp [Instr.makeInterface, run_underlying hu, TV.enc]
  case makeFunc fn first cap =>
    cases hc : (allGood env first && allGood env cap) with
    | false => simp [hc] at h
    | true =>
      simp only [hc, cond_true] at h
      simp only [Bool.and_eq_true] at hc
      refine gives_value (t := .v (.func fn (evs env first).toArray (evs env cap).toArray)) (fun w => ?_) h
      rw [good_evs hsim hc.1, good_evs hsim hc.2]
      rfl
  case slice T x lo hi mx =>
    split at h
    · rename_i l hh m hl hhi hm
      obtain ⟨kl, el⟩ := opt_eval hsim hl
      obtain ⟨kh, eh⟩ := opt_eval hsim hhi
      obtain ⟨km, em⟩ := opt_eval hsim hm
      rw [el, eh, em]
      split at h
      · rename_i s hu hx
        rw [hsim.is hx rfl]
        cases m with
        | some _ => exact h.elim
        | none =>
          obtain ⟨t, ht, hn⟩ := slice_run_s (kl := kl) (kh := kh) hu h
          exact gives_value ht hn
      · rename_i e s hu hx
        rw [hsim.is hx rfl]
        cases hi' : (P.info? e).isSome with
        | false => simp [hi'] at h
        | true =>
          simp only [hi', cond_true] at h
          obtain ⟨t, ht, hn⟩ := slice_run_sl (kl := kl) (kh := kh) (km := km) hu hi' h
          exact gives_value ht hn
      · rename_i n e q hu hx
        rw [hsim.is hx rfl]
        cases hi' : (P.info? e).isSome with
        | false => simp [hi'] at h
        | true =>
          cases m with
          | some _ => simp at h
          | none =>
            simp only [hi', Option.isNone_none, Bool.and_self, cond_true] at h
            obtain ⟨ad, rfl, h⟩ := onSome_out h
            obtain ⟨t, ht, hn⟩ := slice_run_a (kl := kl) (kh := kh) hu hi' h
            exact gives_value ht hn
      · exact h.elim
    · exact h.elim
  case fieldAddr T x f =>
    split at h
    · rename_i off q hf hx
      obtain ⟨ad, rfl, h⟩ := onSome_out h
      refine gives_value (t := .p (some (ad.add off))) (fun w => ?_) h
      rw [hsim.is hx rfl]
      unfold fieldOff at hf
      split at hf
      · rename_i fs hu
        split at hf
        · rename_i fd hfd
          cases hc : (Nat.beq (sizeAt P fd.type) 0 || !(P.info? fd.type).isSome) with
          | true => rw [hc] at hf; simp at hf
          | false =>
            simp only [hc, cond_false, Option.some.injEq] at hf
            subst hf
            simp only [Bool.or_eq_false_iff, Bool.not_eq_false'] at hc
            have hz : ¬ (sizeAt P fd.type = 0) := by
              intro e0; rw [e0] at hc; simp at hc
            simp [Instr.fieldAt, run_underlying hu, hfd, Instr.sureAddr, TV.enc, fieldPlace, run_sizeAt hc.2, hz]
        · simp at hf
      · simp at hf
    · exact h.elim
  case field T x f =>
    split at h
    · rename_i fs ps hx hps
      split at h
      · rename_i y hy
        cases hc : (fitsAt 0 ps fs && (fieldsOf P T).isSome) with
        | false => simp [hc] at h
        | true =>
          simp only [hc, cond_true] at h
          simp only [Bool.and_eq_true] at hc
          obtain ⟨t, ht, hn⟩ := field_run hsim hx hps hy hc.1 hc.2 h
          exact gives_value ht hn
      · exact h.elim
    · exact h.elim
  case indexAddr T x i =>
    split at h
    · rename_i e hu
      split at h
      · rename_i s n hx hi
        cases hi' : (P.info? e).isSome with
        | false => simp [hi'] at h
        | true =>
          simp only [hi', cond_true] at h
          obtain ⟨k, hk⟩ := hsim.numIs hi
          obtain ⟨t, ht, hn⟩ := idx_run (k := k) (cap := s.cap) hu hi' h
          exact gives_value (fun w => by rw [hsim.is hx rfl, hk]; exact ht w) hn
      · exact h.elim
    · rename_i len e hu
      split at h
      · rename_i q n hx hi
        cases hi' : (P.info? e).isSome with
        | false => simp [hi'] at h
        | true =>
          simp only [hi', cond_true] at h
          obtain ⟨k, hk⟩ := hsim.numIs hi
          obtain ⟨t, ht, hn⟩ := idxA_run (k := k) hu hi' h
          exact gives_value (fun w => by rw [hsim.is hx rfl, hk]; exact ht w) hn
      · exact h.elim
    · exact h.elim
  case index T x i =>
    split at h
    · rename_i hu
      split at h
      · rename_i l n hx hi
        obtain ⟨h0, c, hc, hn⟩ := h
        obtain ⟨k, hk⟩ := hsim.numIs hi
        refine gives_value (t := .u8 c) (fun w => ?_) hn
        rw [hsim.is hx rfl, hk]
        have hlt : n.toNat < l.length := (List.getElem?_eq_some_iff.1 hc).1
        have e1 : (ByteArray.mk l.toArray)[n.toNat]? = some c := by
          have hs : n.toNat < (ByteArray.mk l.toArray).size := by simpa [ByteArray.size] using hlt
          rw [getElem?_pos (ByteArray.mk l.toArray) n.toNat hs, ← (List.getElem?_eq_some_iff.1 hc).2]
          rfl
        simp [Instr.index, asIntOf, run_underlying hu, TV.enc, h0, e1]
      · exact h.elim
    · rename_i len e hu
      split at h
      · rename_i fs n hx hi
        cases hkf : kdFit P e with
        | false => simp [hkf] at h
        | true =>
          simp only [hkf, cond_true] at h
          obtain ⟨hr, hall, h⟩ := h
          obtain ⟨y, y1, y2, y3, hy, hn⟩ := exK_out _ _ h
          obtain ⟨k, hk⟩ := hsim.numIs hi
          exact gives_value (fun w => by rw [hk]; exact index_run hsim hu hx hkf hr hall hy y1 y2 y3 w) hn
      · exact h.elim
    · exact h.elim
  case extract t i =>
    split at h
    · rename_i fs hx
      split at h
      · rename_i y hy
        refine gives_value (t := y) (fun w => ?_) h
        rw [hsim.is hx rfl]
        have : ∀ (fs : List TV) (i : Nat), fs[i]? = some y → (encL fs)[i]? = some y.enc := by
          intro fs
          induction fs with
          | nil => intro i h; simp at h
          | cons z zs ih => intro i h; cases i <;> simp_all [encL]
        simp [TV.enc, Instr.extract, this fs i hy]
      · exact h.elim
    · rename_i x hx
      obtain ⟨vs, rfl, h⟩ := h
      obtain ⟨y, _, _, _, hy, hn⟩ := exK_out _ _ h
      refine gives_value (t := y) (fun w => ?_) hn
      rw [hsim.is hx rfl]
      simp [TV.enc, Instr.extract, hy]
    · exact h.elim
  case build T parts =>
    obtain ⟨t, ht, hn⟩ := buildK_run hsim h
    exact gives_value ht hn
  case call c =>
    obtain ⟨callee, args, argTypes⟩ := c
    cases callee <;> (try simp only at h) <;> try (exact h.elim)
    rename_i b
    cases b <;> (try simp only at h) <;> try (exact h.elim)
    case len =>
      split at h
      · rename_i x T hx hT
        obtain ⟨hb, t, ht, hn⟩ := lenK_run (ty := type) h
        have e1 : args.map a.eval = #[(ev env x).enc] := by
          apply Array.ext'
          simp [hx, hsim.eval x hb]
        have e2 : argTypes = #[T] := by apply Array.ext'; simpa using hT
        refine .of (t := t) (fun w => ?_) hn
        simp only [resolve, e1, e2, invoke, builtin, Sem.run_bind, Sem.run_pure, Result.andThen_ok, ht w]
      · exact h.elim
    case cap =>
      split at h
      · rename_i x T hx hT
        obtain ⟨hb, t, ht, hn⟩ := capK_run (ty := type) h
        have e1 : args.map a.eval = #[(ev env x).enc] := by
          apply Array.ext'
          simp [hx, hsim.eval x hb]
        have e2 : argTypes = #[T] := by apply Array.ext'; simpa using hT
        refine .of (t := t) (fun w => ?_) hn
        simp only [resolve, e1, e2, invoke, builtin, Sem.run_bind, Sem.run_pure, Result.andThen_ok, ht w]
      · exact h.elim
    case max =>
      split at h
      · rename_i y hy
        obtain ⟨hb, ht⟩ := max2_run (P := P) (ty := argTypes) (t := type) hy
        have e1 : args.map a.eval = (encL (args.toList.map (ev env))).toArray := by
          apply Array.ext'
          simp only [Array.toList_map]
          exact eval_list hsim _ hb
        refine .of (t := y) (fun w => ?_) h
        simp only [resolve, e1, invoke, builtin, Sem.run_bind, Sem.run_pure, Result.andThen_ok, ht w]
      · exact h.elim
    case min =>
      split at h
      · rename_i y hy
        obtain ⟨hb, ht⟩ := min2_run (P := P) (ty := argTypes) (t := type) hy
        have e1 : args.map a.eval = (encL (args.toList.map (ev env))).toArray := by
          apply Array.ext'
          simp only [Array.toList_map]
          exact eval_list hsim _ hb
        refine .of (t := y) (fun w => ?_) h
        simp only [resolve, e1, invoke, builtin, Sem.run_bind, Sem.run_pure, Result.andThen_ok, ht w]
      · exact h.elim
end
end Go.Sh
