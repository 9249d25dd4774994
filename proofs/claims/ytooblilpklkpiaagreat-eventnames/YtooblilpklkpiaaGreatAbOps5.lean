/- Each operation's rule is sound: part five: make, slices, conversions. -/
import Derived.Test.YtooblilpklkpiaaGreatAbOps4
import Derived.IntWalk
import Derived.Laws.Slices
set_option linter.unusedSimpArgs false
set_option linter.unusedVariables false
namespace Go.Ab
variable {P : Program} {w0 : World} {G : HM → St → Prop} {k : Value → HM} {ρ : Env} {s : St} {w : World} {A : Tree Value} {e : Operand → Value} {o : Oper}
theorem s_makeSlice {t : TypeId} {x y : Operand} (R : Runner G) (hr : Rel P w0 ρ s w) (he : EvR P ρ s.next A e) (hx : okOpd P x = true) (hy : okOpd P y = true) (ho : o.op = .makeSlice t x y) (hg : G (oMakeSlice P t x y A k) s) :
    Goes P w0 G k ρ s ((execOp e o).run P w) := by
  unfold oMakeSlice at hg
  simp only [execOp, ho]
  refine GoesV.goes ?_
  split at hg
  · rename_i elem l c hu hl hc
    have hu' := under_some hu (by simp)
    obtain ⟨kl, hl'⟩ := asNat_ev he hx hl
    obtain ⟨kc, hc'⟩ := asNat_ev he hy hc
    split at hg
    · rename_i hb
      obtain ⟨b1, b2, b3⟩ := hb
      split at hg
      · rename_i z hz
        split at hg
        · rename_i hpz
          obtain ⟨z1, z2⟩ := zeros_den hpz (c * cellsOf P elem) s.next ρ
          obtain ⟨s', ρ', h1, h2, h3, h4, h5⟩ := newRow_some R hr z1 hg
          refine ⟨_, s', ρ', _, h1, h4, h3, by omega, ?_, ?_⟩
          · rw [okV]; intro x hx; simp at hx; subst hx; exact ⟨by simp; omega, rfl⟩
          · rw [slice_den (by omega), hl', hc', z2]
            have hi : ∃ i, P.info? elem = some i := by
              unfold zeroOf at hz
              cases hh : P.info? elem with
              | none => rw [hh] at hz; simp at hz
              | some i => exact ⟨i, rfl⟩
            obtain ⟨i, hi⟩ := hi
            have hti : (typeInfo elem).run P w = .ok i w := by simp [typeInfo, hi]
            have hby : bytesOf P elem = i.bytes := by simp [bytesOf, hi]
            have hsz : cellsOf P elem = i.size := by simp [cellsOf, hi]
            have hso : (sizeOf elem).run P w = .ok i.size w := by simp [sizeOf, typeInfo, hi]
            rw [hby] at b3
            have wl : IntKind.i64.wrap (l : Int) = l := IntWalk.i64_in _ (by omega)
            have wc : IntKind.i64.wrap (c : Int) = c := IntWalk.i64_in _ (by omega)
            have hmul : i.bytes * c ≤ 2 ^ 10 * 2 ^ 20 := Nat.mul_le_mul b3 b2
            have hmul' : (i.bytes : Int) * (c : Int) ≤ 2 ^ 30 := by
              have : ((i.bytes * c : Nat) : Int) ≤ ((2 ^ 10 * 2 ^ 20 : Nat) : Int) := Int.ofNat_le.2 hmul
              simpa using this
            have hcond : ((decide ((c : Int) < 0) || decide ((i.bytes : Int) * (c : Int) > 2 ^ 48)) || decide ((l : Int) < 0) || decide ((l : Int) > (c : Int))) = false := by
              simp only [Bool.or_eq_false_iff, decide_eq_false_iff_not]
              refine ⟨⟨⟨by omega, by omega⟩, by omega⟩, by omega⟩
            simp only [Instr.makeSlice, Sem.run_bind, run_underlying hu', Result.andThen_ok, asInt, asIntOf, Sem.run_pure, hti, wl, wc, hcond, Bool.false_eq_true, if_false, run_askRoom, hso, Int.toNat_natCast]
            rw [← hsz]
            by_cases h0 : c * cellsOf P elem = 0
            · have e0 : ∀ g : Nat → Value, (Array.range (c * cellsOf P elem)).map g = #[] := fun g => by rw [h0]; simp
              simp only [if_pos h0, Sem.run_bind, Sem.run_pure, Result.andThen_ok]
              rw [e0, e0]
              simp [Go.newRow, addrD, h5, sCap]
            · simp only [if_neg h0, Sem.run_bind, zeroOf_some hz, Result.andThen_ok, Sem.run_pure]
              simp [Go.newRow, addrD, h5, sCap]
        · exact absurd hg R.fail
      · exact absurd hg R.fail
    · exact absurd hg R.fail
  · exact absurd hg R.fail

/-! slicing -/
theorem bound_run {x : Value} {n y : Nat} {code : BoundsCode} (h : asNat? x = some n) (hn : n ≤ y) : (Instr.sliceBound (den ρ x) y code).run P w = .ok n w := by
  obtain ⟨kx, rfl⟩ := asNat_some h
  rw [den]
  have := run_sliceBound (P := P) w kx (n : Int) y code (by omega) (by omega)
  simpa using this
theorem bounds_run {isS : Bool} {len cap : Nat} {capOk : Nat → Bool} {c0 mo : Option Nat} {low high max : Option Value} {l h : Nat} (hlc : len ≤ cap) (hcap : ∀ h, capOk h = true → h ≤ cap)
    (hs : sliceBoundsA len capOk c0 low high max = some (l, h, mo)) :
    ∃ mm, (Instr.sliceBounds isS len cap (low.map (den ρ)) (high.map (den ρ)) (max.map (den ρ))).run P w = .ok (l, h, mm) w ∧ l ≤ h ∧ (h ≤ len ∨ capOk h = true ∨ max.isSome = true) ∧ h ≤ mm ∧ (max = none → mo = c0 ∧ mm = cap) ∧ (max.isSome = true → mo = some mm ∧ mm ≤ cap) := by
  unfold sliceBoundsA at hs
  split at hs
  · rename_i l' h' hl hh
    split at hs
    · rename_i hc
      simp only [Bool.and_eq_true, Bool.or_eq_true, Nat.ble_eq] at hc
      simp only [Option.some.injEq, Prod.mk.injEq] at hs
      obtain ⟨rfl, rfl, rfl⟩ := hs
      have hhc : h' ≤ cap := by rcases hc.2 with h | h; exact Nat.le_trans h hlc; exact hcap _ h
      refine ⟨cap, ?_, hc.1, by rcases hc.2 with h | h; exact .inl h; exact .inr (.inl h), hhc, fun _ => ⟨rfl, rfl⟩, fun h => by simp at h⟩
      cases high with
      | none =>
        simp at hh; subst hh
        cases low with
        | none => simp at hl; subst hl; simp [Instr.sliceBounds]
        | some lo => simp at hl; simp [Instr.sliceBounds, bound_run hl hc.1]
      | some hi =>
        simp at hh
        cases low with
        | none => simp at hl; subst hl; simp [Instr.sliceBounds, bound_run hh hhc]
        | some lo => simp at hl; simp [Instr.sliceBounds, bound_run hh hhc, bound_run hl hc.1]
    · simp at hs
  · rename_i l' h' m hl hh
    split at hs
    · simp at hs
    · rename_i hhi
      split at hs
      · rename_i m' hm
        split at hs
        · rename_i hc
          simp only [Bool.and_eq_true, Bool.or_eq_true, Nat.ble_eq] at hc
          simp only [Option.some.injEq, Prod.mk.injEq] at hs
          obtain ⟨rfl, rfl, rfl⟩ := hs
          have hmc : m' ≤ cap := by rcases hc.2 with h | h; exact Nat.le_trans h hlc; exact hcap _ h
          refine ⟨m', ?_, hc.1.1, .inr (.inr rfl), hc.1.2, fun h => by simp at h, fun _ => ⟨rfl, hmc⟩⟩
          cases high with
          | none => simp at hhi
          | some hi =>
            simp at hh
            cases low with
            | none => simp at hl; subst hl; simp [Instr.sliceBounds, bound_run hm hmc, bound_run hh hc.1.2]
            | some lo => simp at hl; simp [Instr.sliceBounds, bound_run hm hmc, bound_run hh hc.1.2, bound_run hl hc.1.1]
        · simp at hs
      · simp at hs
  · simp at hs
theorem opts_ev {x : Option Operand} (he : EvR P ρ s.next A e) (hx : ∀ y, x = some y → okOpd P y = true) : x.map e = (x.map (ev A)).map (den ρ) := by
  cases x with
  | none => rfl
  | some y => simp [he.eq y (hx y rfl)]
theorem lit_code (c : Nat) : 3 * c % 3 = 0 ∧ 3 * c / 3 = c := by omega
theorem slcLit_some (R : Runner G) (hr : Rel P w0 ρ s w) {size len c : Nat} {a : Option Addr} (ha : ∀ x, a = some x → okAd s.next x) {low high max : Option Value} {isS : Bool}
    (hg : G (slcLit size a len c low high max k) s) :
    ∃ l h m, (Instr.sliceBounds isS len c (low.map (den ρ)) (high.map (den ρ)) (max.map (den ρ))).run P w = .ok (l, h, m) w ∧
      GoesV P w0 G k ρ s (.ok (.slice (if m = l then a.map (addrD ρ) else a.map fun x => (addrD ρ x).add (l * size)) (h - l) (m - l)) w) := by
  unfold slcLit at hg
  split at hg
  · rename_i l h m hb
    split at hg
    · rename_i hlc'
      obtain ⟨hlc, hnz⟩ := hlc'
      obtain ⟨mm, h1, h2, h3, h4, h5, h6⟩ := bounds_run (P := P) (w := w) (ρ := ρ) (isS := isS) hlc (fun h hh => Nat.le_of_ble_eq_true hh) hb
      have hmm : mm = m := by
        cases max with
        | none => have := h5 rfl; simp at this; omega
        | some x => have := h6 rfl; simp at this; omega
      subst hmm
      refine ⟨l, h, mm, h1, ?_⟩
      obtain ⟨l1, l2⟩ := lit_code (mm - l)
      have hd : den ρ (.slice (if mm = l then a else a.map (·.add (l * size))) (h - l) (3 * (mm - l))) = .slice (if mm = l then a.map (addrD ρ) else a.map fun x => (addrD ρ x).add (l * size)) (h - l) (mm - l) := by
        cases a with
        | none => 
          by_cases hml : mm = l
          · subst hml; simp [den]
          · have hc0 : c = 0 := by simpa using hnz
            have hm0 : mm ≤ c := by
              cases max with
              | none => have := (h5 rfl).2; omega
              | some x => exact (h6 rfl).2
            omega
        | some a =>
          by_cases hml : mm = l
          · rw [if_pos hml, if_pos hml, slice_den (by omega)]
            simp [sCap, l1, l2]
          · rw [if_neg hml, if_neg hml, Option.map_some, slice_den (by omega)]
            simp [sCap, l1, l2, addrD_add (ha a rfl).2]
      rw [← hd]
      refine GoesV.val hr ?_ hg
      rw [okV]
      intro x hx
      split at hx
      · exact ha x hx
      · cases a with
        | none => simp at hx
        | some a => simp at hx; subst hx; exact add_ok (ha a rfl) _
    · exact absurd hg R.fail
  · exact absurd hg R.fail

theorem slcOpen_some (R : Runner G) (hr : Rel P w0 ρ s w) {elem size len : Nat} {a : Addr} (ha : okAd s.next a) {low high max : Option Value} {isS : Bool} (hsz : cellsOf P elem = size)
    (hg : G (slcOpen elem size a len low high max k) s) :
    ∃ l h m, (Instr.sliceBounds isS len (roomD ρ a) (low.map (den ρ)) (high.map (den ρ)) (max.map (den ρ))).run P w = .ok (l, h, m) w ∧
      GoesV P w0 G k ρ s (.ok (.slice (if m = l then some (addrD ρ a) else some ((addrD ρ a).add (l * size))) (h - l) (m - l)) w) := by
  unfold slcOpen at hg
  obtain ⟨el, n, c, hb, hg'⟩ := cellsB_some R hg
  clear hg
  have hg := hg'
  clear hg'
  split at hg
  · rename_i hc
    obtain ⟨c1, c2, c3, c4⟩ := hc
    subst c1
    obtain ⟨b1, b2, cs, b3, b4, b5⟩ := hr.blk _ _ hb
    rw [hsz] at b1
    obtain ⟨q, hq⟩ : ∃ q, a.off = q * size := ⟨a.off / size, by rw [Nat.div_mul_cancel (Nat.dvd_of_mod_eq_zero c3)]⟩
    have hpos : 0 < size := Nat.pos_of_ne_zero c2
    have hroom : roomD ρ a = (ρ a.block).cap - q := by unfold roomD; rw [b1, hq, Nat.mul_div_cancel _ hpos]
    have hle : ∀ h, a.off + h * size ≤ n → q + h ≤ (ρ a.block).cap := fun h hh => by
      have : (q + h) * size ≤ (ρ a.block).cap * size := by rw [Nat.add_mul, ← hq]; rw [b1] at b2; omega
      exact Nat.le_of_mul_le_mul_right this hpos
    have hlt : ∀ h, a.off + h * size < n → q + h < (ρ a.block).cap := fun h hh => by
      have : (q + h) * size < (ρ a.block).cap * size := by rw [Nat.add_mul, ← hq]; rw [b1] at b2; omega
      exact Nat.lt_of_mul_lt_mul_right this
    have hlen : len ≤ roomD ρ a := by have := hle len c4; omega
    split at hg
    · rename_i l h m hb
      obtain ⟨mm, h1, h2, h3, h4, h5, h6⟩ := bounds_run (P := P) (w := w) (ρ := ρ) (isS := isS) hlen (fun h hh => by have := hle h (Nat.le_of_ble_eq_true hh); omega) hb
      have hmm : mm = m := by
        cases max with
        | none => have := (h5 rfl).1; simp at this
        | some x => have := h6 rfl; simp at this; omega
      subst hmm
      refine ⟨l, h, mm, h1, ?_⟩
      obtain ⟨l1, l2⟩ := lit_code (mm - l)
      have hd : den ρ (.slice (some (if mm = l then a else a.add (l * size))) (h - l) (3 * (mm - l))) = .slice (if mm = l then some (addrD ρ a) else some ((addrD ρ a).add (l * size))) (h - l) (mm - l) := by
        by_cases hml : mm = l
        · rw [if_pos hml, if_pos hml, slice_den (by omega)]
          simp [sCap, l1, l2]
        · rw [if_neg hml, if_neg hml, slice_den (by omega)]
          simp [sCap, l1, l2, addrD_add ha.2]
      rw [← hd]
      refine GoesV.val hr ?_ hg
      rw [okV]
      intro x hx
      simp at hx; subst hx
      split
      · exact ha
      · exact add_ok ha _
    · rename_i l h hb
      obtain ⟨mm, h1, h2, h3, h4, h5, h6⟩ := bounds_run (P := P) (w := w) (ρ := ρ) (isS := isS) hlen (fun h hh => by have := hle h (Nat.le_of_ble_eq_true hh); omega) hb
      have hmax : max = none := by
        cases max with
        | none => rfl
        | some x => have := (h6 rfl).1; simp at this
      have hmm := (h5 hmax).2
      subst hmm
      refine ⟨l, h, roomD ρ a, h1, ?_⟩
      split at hg
      · rename_i hl0
        subst hl0
        have hd : den ρ (.slice (some a) h 1) = .slice (if roomD ρ a = 0 then some (addrD ρ a) else some ((addrD ρ a).add (0 * size))) (h - 0) (roomD ρ a - 0) := by
          rw [slice_den (by omega)]
          simp [sCap, add_zero]
        rw [← hd]
        exact GoesV.val hr (by rw [okV]; intro x hx; simp at hx; subst hx; exact ha) hg
      · rename_i hl0
        split at hg
        · rename_i hlt'
          have h7 := hlt l hlt'
          have hd : den ρ (.slice (some (a.add (l * size))) (h - l) 1) = .slice (if roomD ρ a = l then some (addrD ρ a) else some ((addrD ρ a).add (l * size))) (h - l) (roomD ρ a - l) := by
            rw [slice_den (by omega), if_neg (by omega)]
            have e1 : (a.add (l * size)).block = a.block := by unfold Addr.add; split <;> rfl
            have e2 : (a.add (l * size)).off = (q + l) * size := by
              unfold Addr.add
              split
              · rename_i e; rw [hq, Nat.add_mul, e]; simp
              · rw [hq, Nat.add_mul]
            have e3 : roomD ρ (a.add (l * size)) = roomD ρ a - l := by
              unfold roomD
              rw [e1, b1, e2, hq, Nat.mul_div_cancel _ hpos, Nat.mul_div_cancel _ hpos]
              omega
            simp [sCap, e3, addrD_add ha.2]
          rw [← hd]
          exact GoesV.val hr (by rw [okV]; intro x hx; simp at hx; subst hx; exact add_ok ha _) hg
        · split at hg
          · rename_i hlh
            subst hlh
            have l1 : (3 * l + 2) % 3 = 2 := by omega
            have l2 : (3 * l + 2) / 3 = l := by omega
            have hd : den ρ (.slice (some a) 0 (3 * l + 2)) = .slice (if roomD ρ a = l then some (addrD ρ a) else some ((addrD ρ a).add (l * size))) (l - l) (roomD ρ a - l) := by
              rw [den, sAddr, sCap, l1, l2]
              by_cases hml : roomD ρ a = l
              · simp [hml]
              · simp [hml, b1]
            rw [← hd]
            exact GoesV.val hr (by rw [okV]; intro x hx; simp at hx; subst hx; exact ha) hg
          · exact absurd hg R.fail
    · exact absurd hg R.fail
  · exact absurd hg R.fail
theorem s_slice {t : TypeId} {x : Operand} {lo hi mx : Option Operand} (R : Runner G) (hr : Rel P w0 ρ s w) (he : EvR P ρ s.next A e) (hx : okOpd P x = true)
    (h1 : ∀ y, lo = some y → okOpd P y = true) (h2 : ∀ y, hi = some y → okOpd P y = true) (h3 : ∀ y, mx = some y → okOpd P y = true)
    (ho : o.op = .slice t x lo hi mx) (hg : G (oSlice P t x lo hi mx A k) s) :
    Goes P w0 G k ρ s ((execOp e o).run P w) := by
  unfold oSlice slcA at hg
  simp only [execOp, ho]
  refine GoesV.goes ?_
  rw [opts_ev he h1, opts_ev he h2, opts_ev he h3]
  have h0 := he.ok x hx
  rw [he.eq x hx]
  generalize lo.map (ev A) = lo' at *
  generalize hi.map (ev A) = hi' at *
  generalize mx.map (ev A) = mx' at *
  split at hg
  · rename_i str hu hs
    have hu' := under_some hu (by simp)
    rw [hs, den]
    split at hg
    · rename_i l h hb
      obtain ⟨mm, b1, b2, b3, b4, b5, b6⟩ := bounds_run (P := P) (w := w) (ρ := ρ) (isS := false) (Nat.le_refl _) (fun h hh => by simp at hh) hb
      have hmax : mx' = none := by
        cases hm : mx' with
        | none => rfl
        | some x => have := (b6 (by rw [hm]; rfl)).1; simp at this
      rw [hmax] at b1 ⊢
      have : (Instr.sliceAt t (.string str) (lo'.map (den ρ)) (hi'.map (den ρ)) (Option.map (den ρ) none)).run P w = .ok (den ρ (.string (str.extract l h))) w := by
        simp only [Instr.sliceAt, Instr.slice, Sem.run_bind, run_underlying hu', Result.andThen_ok, Option.map_none, Option.isSome_none, Bool.false_eq_true, if_false, Sem.run_pure]
        simp only [Option.map_none] at b1
        simp [b1, den]
      rw [this]
      exact GoesV.val hr (by rw [okV]; trivial) hg
    · exact absurd hg R.fail
  · rename_i elem a len cap hu hs
    have hu' := under_some hu (by simp)
    rw [hs] at h0 ⊢
    rw [okV] at h0
    split at hg
    · rename_i size hsz
      obtain ⟨z1, z2⟩ := szO_some (w := w) hsz
      split at hg
      · rename_i hc
        obtain ⟨l, h, m, g1, g2⟩ := slcLit_some (isS := true) R hr h0 hg
        have hd : den ρ (.slice a len cap) = .slice (a.map (addrD ρ)) len (cap / 3) ∨ (a = none ∧ den ρ (.slice a len cap) = .slice none len cap) := by
          cases a with
          | none => exact .inr ⟨rfl, by rw [den]⟩
          | some a => exact .inl (by rw [slice_den (by omega)]; simp [sCap, hc])
        rcases hd with hd | ⟨ha, hd⟩
        · rw [hd]
          have : (Instr.sliceAt t (.slice (a.map (addrD ρ)) len (cap / 3)) (lo'.map (den ρ)) (hi'.map (den ρ)) (mx'.map (den ρ))).run P w
              = .ok (.slice (if m = l then a.map (addrD ρ) else a.map fun x => (addrD ρ x).add (l * size)) (h - l) (m - l)) w := by
            simp only [Instr.sliceAt, Instr.slice, Sem.run_bind, run_underlying hu', Result.andThen_ok, g1, z1, Sem.run_pure]
            cases a <;> simp
          rw [this]; exact g2
        · subst ha
          unfold slcLit at hg
          split at hg
          · split at hg
            · rename_i hcc
              have hc0 : cap / 3 = 0 := by simpa using hcc.2
              have hcap : cap = 0 := by omega
              rw [hd]
              have : (Instr.sliceAt t (.slice none len cap) (lo'.map (den ρ)) (hi'.map (den ρ)) (mx'.map (den ρ))).run P w
                  = .ok (.slice (if m = l then (none : Option Addr).map (addrD ρ) else (none : Option Addr).map fun x => (addrD ρ x).add (l * size)) (h - l) (m - l)) w := by
                rw [hc0] at g1
                simp only [Instr.sliceAt, Instr.slice, Sem.run_bind, run_underlying hu', Result.andThen_ok, hcap, g1, z1, Sem.run_pure]
                simp
              rw [this]; exact g2
            · exact absurd hg R.fail
          · exact absurd hg R.fail
      · split at hg
        · rename_i hc1
          split at hg
          · rename_i a
            obtain ⟨l, h, m, g1, g2⟩ := slcOpen_some (isS := true) R hr (h0 a rfl) z2 hg
            rw [slice_den (by omega)]
            have hsc : sCap ρ a cap = roomD ρ a := by simp [sCap, hc1]
            rw [hsc]
            have : (Instr.sliceAt t (.slice (some (addrD ρ a)) len (roomD ρ a)) (lo'.map (den ρ)) (hi'.map (den ρ)) (mx'.map (den ρ))).run P w
                = .ok (.slice (if m = l then some (addrD ρ a) else some ((addrD ρ a).add (l * size))) (h - l) (m - l)) w := by
              simp only [Instr.sliceAt, Instr.slice, Sem.run_bind, run_underlying hu', Result.andThen_ok, g1, z1, Sem.run_pure]
              simp
            rw [this]; exact g2
          · exact absurd hg R.fail
        · exact absurd hg R.fail
    · exact absurd hg R.fail
  · rename_i n elem a hu hs
    have hu' := under_some hu (by simp)
    rw [hs] at h0 ⊢
    rw [okV] at h0
    split at hg
    · rename_i size hsz
      obtain ⟨z1, z2⟩ := szO_some (w := w) hsz
      obtain ⟨l, h, m, g1, g2⟩ := slcLit_some (isS := false) R hr h0 hg
      rw [den]
      have : (Instr.sliceAt t (.pointer ((some a).map (addrD ρ))) (lo'.map (den ρ)) (hi'.map (den ρ)) (mx'.map (den ρ))).run P w
          = .ok (.slice (if m = l then (some a).map (addrD ρ) else (some a).map fun x => (addrD ρ x).add (l * size)) (h - l) (m - l)) w := by
        simp only [Instr.sliceAt, Instr.sureAddr, Option.map_some, Sem.run_bind, run_underlying hu', Result.andThen_ok, g1, z1, Sem.run_pure]
        by_cases hml : m = l <;> simp [hml]
      rw [this]; exact g2
    · exact absurd hg R.fail
  · exact absurd hg R.fail

/-! cells of a slice or a string -/
theorem firstCells_some (R : Runner G) (hr : Rel P w0 ρ s w) {size n : Nat} {x : Value} (hx : okV s.next x) {f : List Value → HM} (hg : G (firstCellsA size n x f) s) :
    ∃ l, G (f l) s ∧ okL s.next l ∧ (Builtin.firstCells size n (den ρ x)).run P w = .ok ⟨l.map (den ρ)⟩ w := by
  unfold firstCellsA at hg
  split at hg
  · rename_i a len c
    rw [okV] at hx
    split at hg
    · rename_i h0
      refine ⟨[], hg, by rw [okL]; trivial, ?_⟩
      rw [den]
      simp [Builtin.firstCells, h0, loadCells, loadCellsFrom]
    · split at hg
      · exact absurd hg R.fail
      · rename_i hc
        obtain ⟨l, h1, h2, h3, h4⟩ := loadN_some R hr (hx a rfl).2 hg
        exact ⟨l, h1, h3, by rw [slice_den hc]; exact h4⟩
  · exact ⟨[], hg, by rw [okL]; trivial, by rw [den]; rfl⟩
  · rename_i str
    refine ⟨_, hg, (okL_iff _ _).2 fun v hv => ?_, ?_⟩
    · obtain ⟨b, _, rfl⟩ := List.mem_map.1 hv; rw [okV]; trivial
    · rw [den]
      simp only [Builtin.firstCells, Sem.run_pure]
      congr 1
      apply Array.ext'
      rw [List.map_map]
      simp [den, ByteArray.data_extract]
      congr 1
  · exact absurd hg R.fail
end Go.Ab
