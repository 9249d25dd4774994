/- What an abstract state says of a world. -/
import Derived.Test.YtooblilpklkpiaaGreatAbRun
namespace Go.Ab
structure Loc where
  b : Nat
  base : Nat
  cap : Nat
  sz : Nat
abbrev Env := Nat → Loc
def addrD (ρ : Env) (a : Addr) : Addr := ⟨(ρ a.block).b, (ρ a.block).base + a.off, a.spot⟩
def roomD (ρ : Env) (a : Addr) : Nat := (ρ a.block).cap - a.off / (ρ a.block).sz
def sAddr (ρ : Env) (a : Addr) (c : Nat) : Addr := if c % 3 = 2 ∧ roomD ρ a ≠ c / 3 then (addrD ρ a).add (c / 3 * (ρ a.block).sz) else addrD ρ a
def sCap (ρ : Env) (a : Addr) (c : Nat) : Nat := if c % 3 = 0 then c / 3 else if c % 3 = 1 then roomD ρ a else roomD ρ a - c / 3
def fnD (ρ : Env) : Fn → Fn
  | .yield l => .yield (ρ l).b
  | .func f => .func f
  | .method n => .method n
  | .methodOf t n => .methodOf t n
  | .via t p f q => .via t p f q
def okFn (n : Nat) : Fn → Prop
  | .yield l => l < n
  | _ => True
theorem okFn_mono {n m : Nat} (h : n ≤ m) {f : Fn} (o : okFn n f) : okFn m f := by
  cases f <;> first | trivial | exact Nat.lt_of_lt_of_le o h
theorem plainFn_den {n : Nat} {ρ : Env} {f : Fn} (h : plainFn f = true) : fnD ρ f = f ∧ okFn n f := by
  cases f <;> first | exact ⟨rfl, trivial⟩ | simp [plainFn] at h
mutual
def den (ρ : Env) : Value → Value
  | .pointer a => .pointer (a.map (addrD ρ))
  | .slice none l c => .slice none l c
  | .slice (some a) l c => .slice (some (sAddr ρ a c)) l (sCap ρ a c)
  | .map r => .map (r.map fun b => (ρ b).b)
  | .func fn fs cs => .func (fnD ρ fn) (denA ρ fs) (denA ρ cs)
  | .iface t v => .iface t (den ρ v)
  | .agg vs => .agg (denA ρ vs)
  | .tuple vs => .tuple (denA ρ vs)
  | .bool b => .bool b
  | .int k n => .int k n
  | .float k n => .float k n
  | .complex k a b => .complex k a b
  | .string s => .string s
  | .chan r => .chan r
  | .nilFunc => .nilFunc
  | .nilIface => .nilIface
def denA (ρ : Env) : Array Value → Array Value
  | ⟨l⟩ => ⟨denL ρ l⟩
def denL (ρ : Env) : List Value → List Value
  | [] => []
  | v :: l => den ρ v :: denL ρ l
end
def okAd (n : Nat) (a : Addr) : Prop := a.block < n ∧ a.spot = none
mutual
def okV (n : Nat) : Value → Prop
  | .pointer a => ∀ x, a = some x → okAd n x
  | .slice a _ _ => ∀ x, a = some x → okAd n x
  | .map r => ∀ x, r = some x → x < n
  | .func fn fs cs => okFn n fn ∧ okA n fs ∧ okA n cs
  | .iface _ v => okV n v
  | .agg vs => okA n vs
  | .tuple vs => okA n vs
  | .bool _ => True
  | .int _ _ => True
  | .float _ _ => True
  | .complex _ _ _ => True
  | .string _ => True
  | .chan r => r = none
  | .nilFunc => True
  | .nilIface => True
def okA (n : Nat) : Array Value → Prop
  | ⟨l⟩ => okL n l
def okL (n : Nat) : List Value → Prop
  | [] => True
  | v :: l => okV n v ∧ okL n l
end
theorem denL_eq (ρ : Env) : ∀ l, denL ρ l = l.map (den ρ)
  | [] => rfl
  | v :: l => by rw [denL, List.map_cons, denL_eq ρ l]
theorem denA_eq (ρ : Env) (vs : Array Value) : denA ρ vs = ⟨vs.toList.map (den ρ)⟩ := by cases vs; rw [denA, denL_eq]
theorem okL_iff (n : Nat) : ∀ l, okL n l ↔ ∀ v ∈ l, okV n v
  | [] => by simp [okL]
  | v :: l => by simp [okL, okL_iff n l]
theorem okA_iff (n : Nat) (vs : Array Value) : okA n vs ↔ ∀ v ∈ vs.toList, okV n v := by cases vs; rw [okA, okL_iff]
def Ext (n : Nat) (ρ ρ' : Env) : Prop := ∀ b, b < n → ρ' b = ρ b
theorem Ext.refl (n : Nat) (ρ : Env) : Ext n ρ ρ := fun _ _ => rfl
theorem Ext.trans {n m : Nat} {ρ ρ' ρ'' : Env} (h : Ext n ρ ρ') (h' : Ext m ρ' ρ'') (hm : n ≤ m) : Ext n ρ ρ'' :=
  fun b hb => (h' b (Nat.lt_of_lt_of_le hb hm)).trans (h b hb)
theorem okAd_mono {n m : Nat} (h : n ≤ m) {a : Addr} (ha : okAd n a) : okAd m a := ⟨Nat.lt_of_lt_of_le ha.1 h, ha.2⟩
mutual
theorem okV_mono {n m : Nat} (h : n ≤ m) : ∀ {v}, okV n v → okV m v
  | .pointer _, o => by rw [okV] at o ⊢; exact fun x hx => okAd_mono h (o x hx)
  | .slice _ _ _, o => by rw [okV] at o ⊢; exact fun x hx => okAd_mono h (o x hx)
  | .map _, o => by rw [okV] at o ⊢; exact fun x hx => Nat.lt_of_lt_of_le (o x hx) h
  | .func fn _ _, o => by
    rw [okV] at o ⊢
    exact ⟨okFn_mono h o.1, okA_mono h o.2.1, okA_mono h o.2.2⟩
  | .iface _ _, o => by rw [okV] at o ⊢; exact okV_mono h o
  | .agg _, o => by rw [okV] at o ⊢; exact okA_mono h o
  | .tuple _, o => by rw [okV] at o ⊢; exact okA_mono h o
  | .bool _, _ => by rw [okV]; trivial
  | .int _ _, _ => by rw [okV]; trivial
  | .float _ _, _ => by rw [okV]; trivial
  | .complex _ _ _, _ => by rw [okV]; trivial
  | .string _, _ => by rw [okV]; trivial
  | .chan _, o => by rw [okV] at o ⊢; exact o
  | .nilFunc, _ => by rw [okV]; trivial
  | .nilIface, _ => by rw [okV]; trivial
theorem okA_mono {n m : Nat} (h : n ≤ m) : ∀ {vs}, okA n vs → okA m vs
  | ⟨_⟩, o => by rw [okA] at o ⊢; exact okL_mono h o
theorem okL_mono {n m : Nat} (h : n ≤ m) : ∀ {l}, okL n l → okL m l
  | [], _ => by rw [okL]; trivial
  | _ :: _, o => by rw [okL] at o ⊢; exact ⟨okV_mono h o.1, okL_mono h o.2⟩
end
theorem addrD_ext {n : Nat} {ρ ρ' : Env} (h : Ext n ρ ρ') {a : Addr} (ha : okAd n a) : addrD ρ' a = addrD ρ a := by unfold addrD; rw [h _ ha.1]
theorem roomD_ext {n : Nat} {ρ ρ' : Env} (h : Ext n ρ ρ') {a : Addr} (ha : okAd n a) : roomD ρ' a = roomD ρ a := by unfold roomD; rw [h _ ha.1]
theorem sAddr_ext {n : Nat} {ρ ρ' : Env} (h : Ext n ρ ρ') {a : Addr} (ha : okAd n a) (c : Nat) : sAddr ρ' a c = sAddr ρ a c := by
  unfold sAddr; rw [roomD_ext h ha, addrD_ext h ha, h _ ha.1]
theorem sCap_ext {n : Nat} {ρ ρ' : Env} (h : Ext n ρ ρ') {a : Addr} (ha : okAd n a) (c : Nat) : sCap ρ' a c = sCap ρ a c := by
  unfold sCap; rw [roomD_ext h ha]
theorem fnD_ext {n : Nat} {ρ ρ' : Env} (h : Ext n ρ ρ') {f : Fn} (o : okFn n f) : fnD ρ' f = fnD ρ f := by
  cases f <;> first | rfl | (rw [fnD, fnD, h _ o])
mutual
theorem den_ext {n : Nat} {ρ ρ' : Env} (h : Ext n ρ ρ') : ∀ {v}, okV n v → den ρ' v = den ρ v
  | .pointer none, _ => by rw [den, den]; rfl
  | .pointer (some a), o => by rw [okV] at o; rw [den, den, Option.map_some, Option.map_some, addrD_ext h (o a rfl)]
  | .slice none _ _, _ => by rw [den, den]
  | .slice (some a) _ _, o => by rw [okV] at o; rw [den, den, sAddr_ext h (o a rfl), sCap_ext h (o a rfl)]
  | .map none, _ => by rw [den, den]; rfl
  | .map (some r), o => by rw [okV] at o; rw [den, den, Option.map_some, Option.map_some, h r (o r rfl)]
  | .func fn _ _, o => by
    rw [okV] at o
    rw [den, den, denA_ext h o.2.1, denA_ext h o.2.2, fnD_ext h o.1]
  | .iface _ _, o => by rw [okV] at o; rw [den, den, den_ext h o]
  | .agg _, o => by rw [okV] at o; rw [den, den, denA_ext h o]
  | .tuple _, o => by rw [okV] at o; rw [den, den, denA_ext h o]
  | .bool _, _ => by rw [den, den]
  | .int _ _, _ => by rw [den, den]
  | .float _ _, _ => by rw [den, den]
  | .complex _ _ _, _ => by rw [den, den]
  | .string _, _ => by rw [den, den]
  | .chan _, _ => by rw [den, den]
  | .nilFunc, _ => by rw [den, den]
  | .nilIface, _ => by rw [den, den]
theorem denA_ext {n : Nat} {ρ ρ' : Env} (h : Ext n ρ ρ') : ∀ {vs}, okA n vs → denA ρ' vs = denA ρ vs
  | ⟨_⟩, o => by rw [okA] at o; rw [denA, denA, denL_ext h o]
theorem denL_ext {n : Nat} {ρ ρ' : Env} (h : Ext n ρ ρ') : ∀ {l}, okL n l → denL ρ' l = denL ρ l
  | [], _ => by rw [denL, denL]
  | _ :: _, o => by rw [okL] at o; rw [denL, denL, den_ext h o.1, denL_ext h o.2]
end
mutual
theorem plain_den (n : Nat) (ρ : Env) : ∀ {v}, plain v = true → den ρ v = v ∧ okV n v
  | .pointer none, _ => by rw [den, okV]; exact ⟨rfl, fun _ h => by simp at h⟩
  | .pointer (some a), o => by rw [plain] at o; simp at o
  | .slice none _ _, _ => by rw [den, okV]; exact ⟨rfl, fun _ h => by simp at h⟩
  | .slice (some a) _ _, o => by rw [plain] at o; simp at o
  | .map none, _ => by rw [den, okV]; exact ⟨rfl, fun _ h => by simp at h⟩
  | .map (some r), o => by rw [plain] at o; simp at o
  | .func fn _ _, o => by
    rw [plain] at o
    simp only [Bool.and_eq_true] at o
    rw [den, okV, (plain_denA n ρ o.1.2).1, (plain_denA n ρ o.2).1, (plainFn_den (n := n) (ρ := ρ) o.1.1).1]
    exact ⟨rfl, (plainFn_den (ρ := ρ) o.1.1).2, (plain_denA n ρ o.1.2).2, (plain_denA n ρ o.2).2⟩
  | .iface _ _, o => by rw [plain] at o; rw [den, okV, (plain_den n ρ o).1]; exact ⟨rfl, (plain_den n ρ o).2⟩
  | .agg _, o => by rw [plain] at o; rw [den, okV, (plain_denA n ρ o).1]; exact ⟨rfl, (plain_denA n ρ o).2⟩
  | .tuple _, o => by rw [plain] at o; rw [den, okV, (plain_denA n ρ o).1]; exact ⟨rfl, (plain_denA n ρ o).2⟩
  | .bool _, _ => by rw [den, okV]; exact ⟨rfl, trivial⟩
  | .int _ _, _ => by rw [den, okV]; exact ⟨rfl, trivial⟩
  | .float _ _, _ => by rw [den, okV]; exact ⟨rfl, trivial⟩
  | .complex _ _ _, _ => by rw [den, okV]; exact ⟨rfl, trivial⟩
  | .string _, _ => by rw [den, okV]; exact ⟨rfl, trivial⟩
  | .chan none, _ => by rw [den, okV]; exact ⟨rfl, rfl⟩
  | .chan (some _), o => by rw [plain] at o; simp at o
  | .nilFunc, _ => by rw [den, okV]; exact ⟨rfl, trivial⟩
  | .nilIface, _ => by rw [den, okV]; exact ⟨rfl, trivial⟩
theorem plain_denA (n : Nat) (ρ : Env) : ∀ {vs}, plainA vs = true → denA ρ vs = vs ∧ okA n vs
  | ⟨_⟩, o => by rw [plainA] at o; rw [denA, okA, (plain_denL n ρ o).1]; exact ⟨rfl, (plain_denL n ρ o).2⟩
theorem plain_denL (n : Nat) (ρ : Env) : ∀ {l}, plainL l = true → denL ρ l = l ∧ okL n l
  | [], _ => by rw [denL, okL]; exact ⟨rfl, trivial⟩
  | _ :: _, o => by
    rw [plainL] at o
    simp only [Bool.and_eq_true] at o
    rw [denL, okL, (plain_den n ρ o.1).1, (plain_denL n ρ o.2).1]
    exact ⟨rfl, (plain_den n ρ o.1).2, (plain_denL n ρ o.2).2⟩
end
theorem den_undef (ρ : Env) : den ρ undef = undef := by unfold undef; rw [den, denA_eq]; rfl
theorem ok_undef (n : Nat) : okV n undef := by unfold undef; rw [okV, okA_iff]; intro v hv; simp at hv

/-! ### Temporaries -/
noncomputable def at? (A : Tree Value) (i : Nat) : Value := (A.get i).getD undef
structure TR (ρ : Env) (nx n : Nat) (A : Tree Value) (tm : Array Value) : Prop where
  size : tm.size = n
  at_ : ∀ i, i < n → tm[i]? = some (den ρ (at? A i))
  ok : ∀ i, okV nx (at? A i)
  out : ∀ i, n ≤ i → A.get i = none
theorem TR.getD {ρ : Env} {nx n : Nat} {A : Tree Value} {tm : Array Value} (h : TR ρ nx n A tm) (i : Nat) : tm.getD i undef = den ρ (at? A i) := by
  by_cases hi : i < n
  · have := h.at_ i hi
    rw [Array.getD_eq_getD_getElem?, this]; rfl
  · have h1 : tm[i]? = none := by rw [Array.getElem?_eq_none]; rw [h.size]; omega
    rw [Array.getD_eq_getD_getElem?, h1, at?, h.out i (by omega)]
    simp [den_undef]
theorem TR.mono {ρ ρ' : Env} {nx nx' n : Nat} {A : Tree Value} {tm : Array Value} (h : TR ρ nx n A tm) (he : Ext nx ρ ρ') (hn : nx ≤ nx') : TR ρ' nx' n A tm :=
  ⟨h.size, fun i hi => by rw [h.at_ i hi, den_ext he (h.ok i)], fun i => okV_mono hn (h.ok i), h.out⟩
theorem putA_some (n : Nat) (A : Tree Value) (d : Nat) (v : Value) : putA n A (some d) v = if d < n then A.upd (some v) d else A := by
  show (Bool.rec A (A.upd (some v) d) (Nat.blt d n) : Tree Value) = _
  by_cases h : d < n
  · rw [if_pos h, show Nat.blt d n = true from by rw [Nat.blt_eq]; exact h]
  · rw [if_neg h, show Nat.blt d n = false from by rw [← Bool.not_eq_true, Nat.blt_eq]; exact h]
theorem at_upd (A : Tree Value) (d i : Nat) (v : Value) : at? (A.upd (some v) d) i = if d = i then v else at? A i := by
  unfold at?; rw [Tree.get_upd_if]; split <;> rfl
theorem TR.put' {ρ : Env} {nx n : Nat} {A : Tree Value} {tm : Array Value} (h : TR ρ nx n A tm) (d : Nat) {v : Value} (hv : okV nx v) :
    TR ρ nx n (putA n A (some d) v) (tm.setIfInBounds d (den ρ v)) := by
  rw [putA_some]
  by_cases hd : d < n
  · rw [if_pos hd]
    refine ⟨by simp [h.size], fun i hi => ?_, fun i => ?_, fun i hi => ?_⟩
    · rw [at_upd]
      simp only [Array.getElem?_setIfInBounds, h.size]
      by_cases e : d = i
      · subst e; simp [hd]
      · simp [e, h.at_ i hi]
    · rw [at_upd]; split
      · exact hv
      · exact h.ok i
    · rw [Tree.get_upd_ne _ _ _ _ (by omega)]; exact h.out i hi
  · rw [if_neg hd]
    have : tm.setIfInBounds d (den ρ v) = tm := by
      apply Array.ext_getElem?
      intro i
      rw [Array.getElem?_setIfInBounds]
      by_cases e : d = i
      · subst e
        rw [if_pos rfl, Array.getElem?_eq_none (by rw [h.size]; omega)]
        simp [h.size, hd]
      · rw [if_neg e]
    rw [this]; exact h
def putT (tm : Array Value) (d : Option Tmp) (v : Value) : Array Value := match d with | some d => tm.setIfInBounds d v | none => tm
theorem TR.put {ρ : Env} {nx n : Nat} {A : Tree Value} {tm : Array Value} (h : TR ρ nx n A tm) (d : Option Tmp) {v : Value} (hv : okV nx v) :
    TR ρ nx n (putA n A d v) (putT tm d (den ρ v)) := by
  cases d with
  | none => exact h
  | some d => exact h.put' d hv

/-! ### Worlds -/
variable (P : Program)
def denE (ρ : Env) (e : MapEntry) : MapEntry := { key := den ρ e.key, val := den ρ e.val, born := e.born }
def BR (ρ : Env) (nx : Nat) (L : Loc) (w : World) : Blk → Prop
  | .cells e n c => L.sz = cellsOf P e ∧ n ≤ L.cap * L.sz ∧ ∃ cs, w.heap[L.b]? = some (.cells cs e (0, 0)) ∧ L.base + L.cap * L.sz ≤ cs.size ∧
      ∀ i v, c.get i = some v → i < n ∧ okV nx v ∧ cs[L.base + i]? = some (den ρ v)
  | .map es clock => w.heap[L.b]? = some (.map ⟨es.map (denE ρ)⟩ clock) ∧ ∀ e ∈ es, okV nx e.key ∧ okV nx e.val
  | .siter s pos => L.base = 0 ∧ w.heap[L.b]? = some (.stringIter s pos)
  | .miter m since seen st => L.base = 0 ∧ w.heap[L.b]? = some (.mapIter (some (ρ m).b) since ⟨seen⟩ st) ∧ m < nx
  | .loop l => l.defers < nx ∧ ∃ tm, TR ρ nx l.n l.tmps tm ∧
      w.heap[L.b]? = some (.loop { state := l.state, pending := l.pending, fn := l.fn, tmps := tm, params := ⟨l.params⟩, assign := l.assign, body := l.body, defers := (ρ l.defers).b })
  | .defd live => w.heap[L.b]? = some (.deferred (if live then some [] else none))
structure Rel (w0 : World) (ρ : Env) (s : St) (w : World) : Prop where
  tape : w.tape = w0.tape
  os : w.os = w0.os
  output : w.output = w0.output
  size : w0.heap.size ≤ w.heap.size
  old : ∀ b, b < w0.heap.size → w.heap[b]? = w0.heap[b]?
  glob : P.globals.size ≤ s.next
  globs : ∀ g, g < P.globals.size → (ρ g).b = g ∧ (ρ g).base = 0
  lt : ∀ b x, s.h.get b = some x → b < s.next
  inj : ∀ b c x y, s.h.get b = some x → s.h.get c = some y → (ρ b).b = (ρ c).b → b = c
  hi : ∀ b x, s.h.get b = some x → P.globals.size ≤ b → w0.heap.size ≤ (ρ b).b
  low : ∀ b x, s.h.get b = some x → b < P.globals.size → ∃ e n c, x = .cells e n c
  blk : ∀ b x, s.h.get b = some x → BR P ρ s.next (ρ b) w x
variable {P}
theorem denE_ext {n : Nat} {ρ ρ' : Env} (h : Ext n ρ ρ') {e : MapEntry} (hk : okV n e.key) (hv : okV n e.val) : denE ρ' e = denE ρ e := by
  unfold denE; rw [den_ext h hk, den_ext h hv]
theorem BR.heap_some {ρ : Env} {nx : Nat} {L : Loc} {w : World} {x : Blk} (h : BR P ρ nx L w x) : ∃ o, w.heap[L.b]? = some o := by
  cases x with
  | cells e n c => obtain ⟨_, _, cs, h, _⟩ := h; exact ⟨_, h⟩
  | map es c => exact ⟨_, h.1⟩
  | siter s p => exact ⟨_, h.2⟩
  | miter m a b c => exact ⟨_, h.2.1⟩
  | loop l => obtain ⟨_, tm, _, h⟩ := h; exact ⟨_, h⟩
  | defd l => exact ⟨_, h⟩
theorem BR.mono {ρ ρ' : Env} {nx nx' : Nat} {L : Loc} {w w' : World} {x : Blk} (h : BR P ρ nx L w x) (he : Ext nx ρ ρ') (hn : nx ≤ nx') (hw : w'.heap[L.b]? = w.heap[L.b]?) : BR P ρ' nx' L w' x := by
  cases x with
  | cells e n c =>
    obtain ⟨h1, h2, cs, h3, h4, h5⟩ := h
    exact ⟨h1, h2, cs, hw.trans h3, h4, fun i v hv => ⟨(h5 i v hv).1, okV_mono hn (h5 i v hv).2.1, by rw [(h5 i v hv).2.2, den_ext he (h5 i v hv).2.1]⟩⟩
  | map es c =>
    refine ⟨?_, fun e h' => ⟨okV_mono hn (h.2 e h').1, okV_mono hn (h.2 e h').2⟩⟩
    rw [hw, h.1, List.map_congr_left fun e h' => denE_ext he (h.2 e h').1 (h.2 e h').2]
  | siter s p => exact ⟨h.1, hw.trans h.2⟩
  | miter m a b c => exact ⟨h.1, by rw [hw, h.2.1, he m h.2.2], Nat.lt_of_lt_of_le h.2.2 hn⟩
  | loop l =>
    obtain ⟨h1, tm, h2, h3⟩ := h
    exact ⟨Nat.lt_of_lt_of_le h1 hn, tm, h2.mono he hn, by rw [hw, h3, he _ h1]⟩
  | defd l => exact hw.trans h
theorem Rel.b_lt {w0 : World} {ρ : Env} {s : St} {w : World} (h : Rel P w0 ρ s w) {b : Nat} {x : Blk} (hb : s.h.get b = some x) : (ρ b).b < w.heap.size := by
  obtain ⟨o, ho⟩ := (h.blk b x hb).heap_some
  exact (Array.getElem?_eq_some_iff.1 ho).1
/-- A draw changes nothing that is told. -/
theorem Rel.drawn {w0 : World} {ρ : Env} {s : St} {w w' : World} (h : Rel P w0 ρ s w) (h1 : w'.heap = w.heap) (h2 : w'.tape = w.tape) (h3 : w'.os = w.os) (h4 : w'.output = w.output) : Rel P w0 ρ s w' :=
  ⟨h2.trans h.tape, h3.trans h.os, h4.trans h.output, h1 ▸ h.size, fun b hb => h1 ▸ h.old b hb, h.glob, h.globs, h.lt, h.inj, h.hi, h.low,
    fun b x hb => (h.blk b x hb).mono (Ext.refl _ _) (Nat.le_refl _) (by rw [h1])⟩
/-- The state after a new block. -/
noncomputable def St.put (s : St) (x : Blk) : St := ⟨s.h.upd (some x) s.next, s.next + 1⟩
def envN (ρ : Env) (n : Nat) (L : Loc) : Env := fun b => if b = n then L else ρ b
theorem ext_envN (ρ : Env) (n : Nat) (L : Loc) : Ext n ρ (envN ρ n L) := fun b hb => by unfold envN; rw [if_neg (by omega)]
theorem envN_self (ρ : Env) (n : Nat) (L : Loc) : envN ρ n L n = L := by unfold envN; rw [if_pos rfl]
theorem Rel.new {w0 : World} {ρ : Env} {s : St} {w : World} (h : Rel P w0 ρ s w) {o : Obj} {x : Blk} {L : Loc} (hL : L.b = w.heap.size)
    (hx : ∀ w', w'.heap[L.b]? = some o → BR P (envN ρ s.next L) (s.next + 1) L w' x) :
    Rel P w0 (envN ρ s.next L) (s.put x) { w with heap := w.heap.push o } ∧ Ext s.next ρ (envN ρ s.next L) := by
  refine ⟨⟨h.tape, h.os, h.output, ?_, fun b hb => ?_, ?_, fun g hg => ?_, fun b y hb => ?_, fun b c y z hb hc hbc => ?_, fun b y hb hg => ?_, fun b y hb hg => ?_, fun b y hb => ?_⟩, ext_envN _ _ _⟩
  · simp; have := h.size; omega
  · have := h.size
    simp only
    rw [Array.getElem?_push, if_neg (by omega)]; exact h.old b hb
  · have := h.glob; simp [St.put]; omega
  · have := h.glob; rw [ext_envN _ _ _ g (by omega)]; exact h.globs g hg
  · simp only [St.put, Tree.get_upd_if] at hb ⊢
    split at hb
    · omega
    · have := h.lt b y hb; omega
  · simp only [St.put, Tree.get_upd_if] at hb hc
    by_cases e1 : s.next = b
    · by_cases e2 : s.next = c
      · exact e1.symm.trans e2
      · rw [if_neg e2] at hc
        have h1 := h.b_lt hc
        have h2 := h.lt c z hc
        rw [← e1, envN_self, ext_envN _ _ _ c h2, hL] at hbc
        omega
    · rw [if_neg e1] at hb
      have h1 := h.b_lt hb
      have h2 := h.lt b y hb
      by_cases e2 : s.next = c
      · rw [← e2, envN_self, ext_envN _ _ _ b h2, hL] at hbc
        omega
      · rw [if_neg e2] at hc
        rw [ext_envN _ _ _ b h2, ext_envN _ _ _ c (h.lt c z hc)] at hbc
        exact h.inj b c y z hb hc hbc
  · simp only [St.put, Tree.get_upd_if] at hb
    split at hb
    · rename_i e; rw [← e, envN_self, hL]; exact h.size
    · rw [ext_envN _ _ _ b (h.lt b y hb)]; exact h.hi b y hb hg
  · simp only [St.put, Tree.get_upd_if] at hb
    split at hb
    · rename_i e; have := h.glob; omega
    · exact h.low b y hb hg
  · simp only [St.put, Tree.get_upd_if] at hb ⊢
    split at hb
    · rename_i e
      simp only [Option.some.injEq] at hb
      subst hb; subst e
      rw [envN_self]
      exact hx _ (by simp [hL])
    · have h1 := h.b_lt hb
      rw [ext_envN _ _ _ b (h.lt b y hb)]
      exact (h.blk b y hb).mono (ext_envN _ _ _) (by omega) (by simp only; rw [Array.getElem?_push, if_neg (by omega)])
/-- A block written. -/
theorem Rel.write {w0 : World} {ρ : Env} {s : St} {w w' : World} (h : Rel P w0 ρ s w) {b : Nat} {x x' : Blk} (hb : s.h.get b = some x) (hg : P.globals.size ≤ b)
    (hx : BR P ρ s.next (ρ b) w' x') (h1 : ∀ c, c ≠ (ρ b).b → w'.heap[c]? = w.heap[c]?) (h0 : w'.heap.size = w.heap.size) (h2 : w'.tape = w.tape) (h3 : w'.os = w.os) (h4 : w'.output = w.output) :
    Rel P w0 ρ ⟨s.h.upd (some x') b, s.next⟩ w' := by
  have hhi := h.hi b x hb hg
  have old : ∀ c y, (s.h.upd (some x') b).get c = some y → ∃ z, s.h.get c = some z := fun c y hc => by
    rw [Tree.get_upd_if] at hc
    split at hc
    · rename_i e; subst e; exact ⟨_, hb⟩
    · exact ⟨_, hc⟩
  refine ⟨h2.trans h.tape, h3.trans h.os, h4.trans h.output, h0 ▸ h.size, fun c hc => (h1 c (by omega)).trans (h.old c hc), h.glob, h.globs, fun c y hc => ?_, fun c d y z hc hd e => ?_, fun c y hc => ?_, fun c y hc hlt => ?_, fun c y hc => ?_⟩
  · obtain ⟨z, hz⟩ := old c y hc; exact h.lt c z hz
  · obtain ⟨y', hy⟩ := old c y hc
    obtain ⟨z', hz⟩ := old d z hd
    exact h.inj c d y' z' hy hz e
  · obtain ⟨z, hz⟩ := old c y hc; exact h.hi c z hz
  · simp only [Tree.get_upd_if] at hc
    split at hc
    · omega
    · exact h.low c y hc hlt
  · simp only [Tree.get_upd_if] at hc
    split at hc
    · rename_i e; subst e; simp only [Option.some.injEq] at hc; subst hc; exact hx
    · rename_i e
      exact (h.blk c y hc).mono (Ext.refl _ _) (Nat.le_refl _) (h1 _ fun e' => e (h.inj c b y x hc hb e').symm)
/-- A block given up. -/
theorem Rel.kill {w0 : World} {ρ : Env} {s : St} {w : World} (h : Rel P w0 ρ s w) (b : Nat) : Rel P w0 ρ ⟨s.h.upd none b, s.next⟩ w := by
  have old : ∀ c y, (s.h.upd none b).get c = some y → s.h.get c = some y := fun c y hc => by
    rw [Tree.get_upd_if] at hc
    split at hc
    · simp at hc
    · exact hc
  exact ⟨h.tape, h.os, h.output, h.size, h.old, h.glob, h.globs, fun c y hc => h.lt c y (old c y hc), fun c d y z hc hd e => h.inj c d y z (old c y hc) (old d z hd) e,
    fun c y hc => h.hi c y (old c y hc), fun c y hc => h.low c y (old c y hc), fun c y hc => h.blk c y (old c y hc)⟩
/-- A block given up for a new one over the same concrete block, which is written. -/
theorem Rel.move {w0 : World} {ρ : Env} {s : St} {w w' : World} (h : Rel P w0 ρ s w) {b0 : Nat} {x0 x : Blk} {L : Loc} (hb0 : s.h.get b0 = some x0) (hg0 : P.globals.size ≤ b0) (hL : L.b = (ρ b0).b)
    (hx : BR P (envN ρ s.next L) (s.next + 1) L w' x) (h1 : ∀ c, c ≠ (ρ b0).b → w'.heap[c]? = w.heap[c]?) (h0 : w'.heap.size = w.heap.size) (h2 : w'.tape = w.tape) (h3 : w'.os = w.os) (h4 : w'.output = w.output) :
    Rel P w0 (envN ρ s.next L) (St.put ⟨s.h.upd none b0, s.next⟩ x) w' := by
  have hhi := h.hi b0 x0 hb0 hg0
  have old : ∀ c y, c ≠ s.next → (St.put ⟨s.h.upd none b0, s.next⟩ x).h.get c = some y → s.h.get c = some y ∧ c ≠ b0 := fun c y hc hh => by
    simp only [St.put, Tree.get_upd_if] at hh
    rw [if_neg (Ne.symm hc)] at hh
    split at hh
    · simp at hh
    · rename_i hne; exact ⟨hh, fun e => hne e.symm⟩
  have new : ∀ y, (St.put ⟨s.h.upd none b0, s.next⟩ x).h.get s.next = some y → y = x := fun y hh => by
    simp only [St.put, Tree.get_upd] at hh
    exact (Option.some.inj hh).symm
  have envold : ∀ c y, s.h.get c = some y → envN ρ s.next L c = ρ c := fun c y hc => ext_envN _ _ _ c (h.lt c y hc)
  refine ⟨h2.trans h.tape, h3.trans h.os, h4.trans h.output, h0 ▸ h.size, fun c hc => (h1 c (by omega)).trans (h.old c hc), ?_, fun g hg => ?_, fun c y hc => ?_, fun c d y z hc hd e => ?_, fun c y hc hg => ?_, fun c y hc hlt => ?_, fun c y hc => ?_⟩
  · have := h.glob; simp [St.put]; omega
  · have := h.glob; rw [ext_envN _ _ _ g (by omega)]; exact h.globs g hg
  · by_cases e : c = s.next
    · subst e; simp [St.put]
    · have := h.lt c y (old c y e hc).1; simp [St.put]; omega
  · by_cases e1 : c = s.next
    · by_cases e2 : d = s.next
      · exact e1.trans e2.symm
      · obtain ⟨o1, o2⟩ := old d z e2 hd
        rw [e1, envN_self, envold d z o1, hL] at e
        exact absurd (h.inj b0 d x0 z hb0 o1 e) (Ne.symm o2)
    · obtain ⟨o1, o2⟩ := old c y e1 hc
      by_cases e2 : d = s.next
      · rw [e2, envN_self, envold c y o1, hL] at e
        exact absurd (h.inj c b0 y x0 o1 hb0 e) o2
      · obtain ⟨o3, o4⟩ := old d z e2 hd
        rw [envold c y o1, envold d z o3] at e
        exact h.inj c d y z o1 o3 e
  · by_cases e : c = s.next
    · subst e; rw [envN_self, hL]; exact hhi
    · obtain ⟨o1, o2⟩ := old c y e hc
      rw [envold c y o1]; exact h.hi c y o1 hg
  · by_cases e : c = s.next
    · have := h.glob; omega
    · exact h.low c y (old c y e hc).1 hlt
  · by_cases e : c = s.next
    · subst e
      have := new y hc
      subst this
      rw [envN_self]; exact hx
    · obtain ⟨o1, o2⟩ := old c y e hc
      rw [envold c y o1]
      exact (h.blk c y o1).mono (ext_envN _ _ _) (by simp [St.put]) (h1 _ fun e' => o2 (h.inj c b0 y x0 o1 hb0 e'))
end Go.Ab
