/-
  AH: how its values, blocks and heaps stand to the model's; steps, their frames and their composition.
-/
import Derived.Test.YtemibbcfbhafeaaDoorAhDef
namespace Go.AH
open Go

/-- Where a block of AH lies: the model's block, from which cell on, how many cells that block has in all, its elements' type. -/
structure Tgt where
  b : Nat
  d : Nat
  n : Nat
  t : TypeId

abbrev Mp := Nat → Option Tgt

/-- The cells of an element. -/
def szD (P : Program) (t : TypeId) : Nat := ((P.info? t).map (·.size)).getD 0

inductive VR (P : Program) (M : Mp) : Value → Value → Prop
  | junk (v : Value) : VR P M junk v
  | base {v : Value} (h : isBase v = true) : VR P M v v
  | ptr {b o : Nat} {τ : Tgt} (h : M b = some τ) : VR P M (.pointer (some ⟨b, o, none⟩)) (.pointer (some ⟨τ.b, τ.d + o, none⟩))
  | sl {b o n c : Nat} {τ : Tgt} (h : M b = some τ) (hc : c ≠ capU) : VR P M (.slice (some ⟨b, o, none⟩) n c) (.slice (some ⟨τ.b, τ.d + o, none⟩) n c)
  | slU {b o n c : Nat} {τ : Tgt} (h : M b = some τ) (hn : n ≤ c) (hc : c ≤ maxLen) (hs : τ.d + o + c * szD P τ.t ≤ τ.n) : VR P M (.slice (some ⟨b, o, none⟩) n capU) (.slice (some ⟨τ.b, τ.d + o, none⟩) n c)
  | slE {b o o' : Nat} {τ : Tgt} (h : M b = some τ) : VR P M (.slice (some ⟨b, o, none⟩) 0 capU) (.slice (some ⟨τ.b, o', none⟩) 0 0)
  | sl0 {b o o' : Nat} {τ : Tgt} (h : M b = some τ) : VR P M (.slice (some ⟨b, o, none⟩) 0 0) (.slice (some ⟨τ.b, o', none⟩) 0 0)
  | map {b : Nat} {τ : Tgt} (h : M b = some τ) : VR P M (.map (some b)) (.map (some τ.b))
  | func {fn : Fn} {x y x' y' : Array Value} (hx : x.size = x'.size) (hy : y.size = y'.size)
      (h1 : ∀ i (h : i < x.size) (h' : i < x'.size), VR P M x[i] x'[i]) (h2 : ∀ i (h : i < y.size) (h' : i < y'.size), VR P M y[i] y'[i]) : VR P M (.func fn x y) (.func fn x' y')
  | iface {t : TypeId} {v v' : Value} (h : VR P M v v') : VR P M (.iface t v) (.iface t v')
  | agg {x x' : Array Value} (hx : x.size = x'.size) (h : ∀ i (h : i < x.size) (h' : i < x'.size), VR P M x[i] x'[i]) : VR P M (.agg x) (.agg x')
  | tuple {x x' : Array Value} (hx : x.size = x'.size) (h : ∀ i (h : i < x.size) (h' : i < x'.size), VR P M x[i] x'[i]) : VR P M (.tuple x) (.tuple x')

variable {P : Program} {M M' M1 M2 : Mp}

def MLe (M M' : Mp) : Prop := ∀ b τ, M b = some τ → M' b = some τ
theorem MLe.refl (M : Mp) : MLe M M := fun _ _ h => h
theorem MLe.trans (h : MLe M M1) (k : MLe M1 M2) : MLe M M2 := fun _ _ e => k _ _ (h _ _ e)

theorem VR.mono (hM : MLe M M') {v v' : Value} (h : VR P M v v') : VR P M' v v' := by
  induction h with
  | junk v => exact .junk v
  | base h => exact .base h
  | ptr h => exact .ptr (hM _ _ h)
  | sl h hc => exact .sl (hM _ _ h) hc
  | slU h hn hc hs => exact .slU (hM _ _ h) hn hc hs
  | slE h => exact .slE (hM _ _ h)
  | sl0 h => exact .sl0 (hM _ _ h)
  | map h => exact .map (hM _ _ h)
  | func hx hy _ _ i1 i2 => exact .func hx hy i1 i2
  | iface _ i => exact .iface i
  | agg hx _ i => exact .agg hx i
  | tuple hx _ i => exact .tuple hx i

/-- Arrays, cell by cell. -/
def AR (P : Program) (M : Mp) (x x' : Array Value) : Prop := x.size = x'.size ∧ ∀ i (h : i < x.size) (h' : i < x'.size), VR P M x[i] x'[i]
/-- Lists. -/
inductive LR (P : Program) (M : Mp) : List Value → List Value → Prop
  | nil : LR P M [] []
  | cons {v v' : Value} {l l' : List Value} (h : VR P M v v') (r : LR P M l l') : LR P M (v :: l) (v' :: l')

theorem LR.length {l l' : List Value} (h : LR P M l l') : l.length = l'.length := by
  induction h with
  | nil => rfl
  | cons _ _ ih => simp [ih]
theorem LR.get {l l' : List Value} (h : LR P M l l') : ∀ i (h1 : i < l.length) (h2 : i < l'.length), VR P M l[i] l'[i] := by
  induction h with
  | nil => intro i h1; simp at h1
  | cons h _ ih =>
    intro i h1 h2
    cases i with
    | zero => exact h
    | succ i => simpa using ih i (by simpa using h1) (by simpa using h2)
theorem LR.of_get : ∀ {l l' : List Value}, l.length = l'.length → (∀ i (h1 : i < l.length) (h2 : i < l'.length), VR P M l[i] l'[i]) → LR P M l l'
  | [], [], _, _ => .nil
  | [], _ :: _, h, _ => by simp at h
  | _ :: _, [], h, _ => by simp at h
  | v :: l, v' :: l', h, g => .cons (g 0 (by simp) (by simp)) (LR.of_get (by simpa using h) (fun i h1 h2 => g (i + 1) (by simpa using h1) (by simpa using h2)))
theorem AR.list {x x' : Array Value} (h : AR P M x x') : LR P M x.toList x'.toList := LR.of_get (by simpa using h.1) (fun i h1 h2 => h.2 i (by simpa using h1) (by simpa using h2))
theorem LR.array {x x' : Array Value} (h : LR P M x.toList x'.toList) : AR P M x x' := ⟨by simpa using h.length, fun i h1 h2 => h.get i (by simpa using h1) (by simpa using h2)⟩
theorem LR.mono (hM : MLe M M') {l l' : List Value} (h : LR P M l l') : LR P M' l l' := by
  induction h with
  | nil => exact .nil
  | cons h _ ih => exact .cons (h.mono hM) ih
theorem AR.mono (hM : MLe M M') {x x' : Array Value} (h : AR P M x x') : AR P M' x x' := ⟨h.1, fun i h1 h2 => (h.2 i h1 h2).mono hM⟩
theorem LR.append {l l' k k' : List Value} (h : LR P M l l') (g : LR P M k k') : LR P M (l ++ k) (l' ++ k') := by
  induction h with
  | nil => exact g
  | cons h _ ih => exact .cons h ih
theorem LR.refl_base : ∀ {l : List Value}, l.all isBase = true → LR P M l l
  | [], _ => .nil
  | v :: l, h => by
    simp only [List.all_cons, Bool.and_eq_true] at h
    exact .cons (.base h.1) (LR.refl_base h.2)
theorem AR.get? {x x' : Array Value} (h : AR P M x x') {i : Nat} {v : Value} (hv : x[i]? = some v) : ∃ v', x'[i]? = some v' ∧ VR P M v v' := by
  obtain ⟨hi, rfl⟩ := Array.getElem?_eq_some_iff.1 hv
  have hi' : i < x'.size := h.1 ▸ hi
  exact ⟨x'[i], Array.getElem?_eq_getElem hi', h.2 i hi hi'⟩
theorem AR.getD {x x' : Array Value} (h : AR P M x x') (i : Nat) : VR P M (x.getD i undef) (x'.getD i undef) := by
  by_cases hi : i < x.size
  · have hi' : i < x'.size := h.1 ▸ hi
    simp only [Array.getD, hi, hi', dif_pos]
    exact h.2 i hi hi'
  · have hi' : ¬ i < x'.size := h.1 ▸ hi
    simp only [Array.getD, hi, hi', dif_neg, not_false_eq_true]
    exact .tuple rfl (fun i h => by simp at h)
theorem VR.undef : VR P M undef undef := .tuple rfl (fun i h => by simp at h)

/-! ### What a related value is, by the canonical one's form -/
theorem VR.int_inv {k : IntKind} {n : Int} {v : Value} (h : VR P M (.int k n) v) : v = .int k n := by
  cases h with
  | base _ => rfl
theorem VR.bool_inv {b : Bool} {v : Value} (h : VR P M (.bool b) v) : v = .bool b := by cases h with | base _ => rfl
theorem VR.string_inv {s : ByteArray} {v : Value} (h : VR P M (.string s) v) : v = .string s := by cases h with | base _ => rfl
theorem VR.ptr_inv {b o : Nat} {v : Value} (h : VR P M (.pointer (some ⟨b, o, none⟩)) v) : ∃ τ, M b = some τ ∧ v = .pointer (some ⟨τ.b, τ.d + o, none⟩) := by
  cases h with
  | base h => simp [isBase] at h
  | ptr h => exact ⟨_, h, rfl⟩
theorem VR.ptr_nil_inv {v : Value} (h : VR P M (.pointer none) v) : v = .pointer none := by cases h with | base _ => rfl
theorem VR.map_inv {b : Nat} {v : Value} (h : VR P M (.map (some b)) v) : ∃ τ, M b = some τ ∧ v = .map (some τ.b) := by
  cases h with
  | base h => simp [isBase] at h
  | map h => exact ⟨_, h, rfl⟩
theorem VR.map_nil_inv {v : Value} (h : VR P M (.map none) v) : v = .map none := by cases h with | base _ => rfl
theorem VR.sl_nil_inv {n c : Nat} {v : Value} (h : VR P M (.slice none n c) v) : v = .slice none n c := by cases h with | base _ => rfl
theorem VR.agg_inv {x : Array Value} {v : Value} (h : VR P M (.agg x) v) : ∃ x', v = .agg x' ∧ AR P M x x' := by
  cases h with
  | base h => simp [isBase] at h
  | agg hx h => exact ⟨_, rfl, hx, h⟩
theorem VR.sl_inv {b o n c : Nat} {v : Value} (hc : c ≠ capU) (h : VR P M (.slice (some ⟨b, o, none⟩) n c) v) : ∃ τ o', M b = some τ ∧ v = .slice (some ⟨τ.b, o', none⟩) n c ∧ (o' = τ.d + o ∨ (n = 0 ∧ c = 0)) := by
  cases h with
  | base h => simp [isBase] at h
  | sl h _ => exact ⟨_, _, h, rfl, .inl rfl⟩
  | slU => exact absurd rfl hc
  | slE => exact absurd rfl hc
  | sl0 h => exact ⟨_, _, h, rfl, .inr ⟨rfl, rfl⟩⟩
theorem VR.slU_inv {b o n : Nat} {v : Value} (h : VR P M (.slice (some ⟨b, o, none⟩) n capU) v) :
    ∃ τ, M b = some τ ∧ ((∃ c, v = .slice (some ⟨τ.b, τ.d + o, none⟩) n c ∧ n ≤ c ∧ c ≤ maxLen ∧ τ.d + o + c * szD P τ.t ≤ τ.n) ∨ (∃ o', n = 0 ∧ v = .slice (some ⟨τ.b, o', none⟩) 0 0)) := by
  cases h with
  | base h => simp [isBase] at h
  | sl h hc => exact absurd rfl hc
  | slU h hn hc hs => exact ⟨_, h, .inl ⟨_, rfl, hn, hc, hs⟩⟩
  | slE h => exact ⟨_, h, .inr ⟨_, rfl, rfl⟩⟩
/-- A slice with an address. -/
theorem VR.slice_inv {b o n c : Nat} {v : Value} (h : VR P M (.slice (some ⟨b, o, none⟩) n c) v) :
    ∃ τ o' c', M b = some τ ∧ v = .slice (some ⟨τ.b, o', none⟩) n c' ∧ (o' = τ.d + o ∨ n = 0) := by
  cases h with
  | base h => simp [isBase] at h
  | sl h _ => exact ⟨_, _, _, h, rfl, .inl rfl⟩
  | slU h _ _ _ => exact ⟨_, _, _, h, rfl, .inl rfl⟩
  | slE h => exact ⟨_, _, _, h, rfl, .inr rfl⟩
  | sl0 h => exact ⟨_, _, _, h, rfl, .inr rfl⟩
theorem VR.tuple_inv {x : Array Value} {v : Value} (hj : Value.tuple x ≠ AH.junk) (h : VR P M (.tuple x) v) : ∃ x', v = .tuple x' ∧ AR P M x x' := by
  cases h with
  | junk => exact absurd rfl hj
  | base h => simp [isBase] at h
  | tuple hx h => exact ⟨_, rfl, hx, h⟩
theorem VR.func_inv {fn : Fn} {x y : Array Value} {v : Value} (h : VR P M (.func fn x y) v) : ∃ x' y', v = .func fn x' y' ∧ AR P M x x' ∧ AR P M y y' := by
  cases h with
  | base h => simp [isBase] at h
  | func hx hy h1 h2 => exact ⟨_, _, rfl, ⟨hx, h1⟩, ⟨hy, h2⟩⟩
theorem VR.scalar {v v' : Value} (hv : isScalar v = true) (h : VR P M v v') : v' = v := by
  cases v <;> simp [isScalar] at hv
  · exact h.bool_inv
  · exact h.int_inv
  · exact h.string_inv
theorem VR.oneCell {v v' : Value} (hv : v.oneCell' = true) (h : VR P M v v') : v'.oneCell' = true := by
  cases h <;> simp_all [Value.oneCell', AH.junk]
theorem VR.cells {v v' : Value} (hj : v ≠ AH.junk) (h : VR P M v v') : AR P M v.cells v'.cells := by
  have one : ∀ {a a' : Value}, VR P M a a' → AR P M #[a] #[a'] := fun {a a'} h => ⟨rfl, fun i h1 h2 => by
    have : i = 0 := by simp at h1; omega
    subst this; exact h⟩
  cases h with
  | junk => exact absurd rfl hj
  | agg hx h => exact ⟨hx, h⟩
  | base h => cases v <;> first | exact one (.base h) | (simp [isBase] at h)
  | ptr h => exact one (.ptr h)
  | sl h hc => exact one (.sl h hc)
  | slU h a b c => exact one (.slU h a b c)
  | slE h => exact one (.slE h)
  | sl0 h => exact one (.sl0 h)
  | map h => exact one (.map h)
  | func a b c d => exact one (.func a b c d)
  | iface h => exact one (.iface h)
  | tuple hx h => exact one (.tuple hx h)

/-! ### Heaps -/
def roB : Blk → Bool
  | .cells _ _ false => true
  | _ => false
def Ro (H : Heap) (b : Nat) : Prop := ∃ c t, H[b]? = some (.cells c t false)
def Dead (H : Heap) (b : Nat) : Prop := H[b]? = some .dead

/-- A row of cells and the model's. -/
def CR (P : Program) (M : Mp) (d : Nat) (c c' : Array Value) : Prop := d + c.size ≤ c'.size ∧ ∀ i v, c[i]? = some v → ∃ v', c'[d + i]? = some v' ∧ VR P M v v'

def ER (P : Program) (M : Mp) (es : List (Value × Value)) (es' : Array MapEntry) : Prop :=
  es'.size = es.length ∧ ∀ i k v, es[i]? = some (k, v) → ∃ e : MapEntry, es'[i]? = some e ∧ e.key = k ∧ VR P M v e.val ∧ e.born = i

def BR (P : Program) (M : Mp) (W : World) (τ : Tgt) : Blk → Prop
  | .cells c t rw => ∃ c' fz, W.heap[τ.b]? = some (.cells c' t fz) ∧ τ.t = t ∧ c'.size = τ.n ∧ CR P M τ.d c c' ∧ (rw = true → ∀ i, i < τ.n → (decide (fz.1 ≤ i) && decide (i < fz.2)) = false)
  | .map kt es => ∃ es', W.heap[τ.b]? = some (.map es' es.length) ∧ ER P M es es' ∧ ∀ e ∈ es, fits P kt e.1 = true
  | .dead => True

structure Rel (P : Program) (M : Mp) (H : Heap) (W : World) : Prop where
  blk : ∀ b τ, M b = some τ → ∃ blk, H[b]? = some blk ∧ BR P M W τ blk
  lt : ∀ b τ, M b = some τ → τ.b < W.heap.size
  inj : ∀ b b' τ τ', M b = some τ → M b' = some τ' → τ.b = τ'.b → b ≠ b' → Dead H b ∨ Dead H b' ∨ (Ro H b ∧ Ro H b')

/-- One step, or many: from H, W to H', W'. -/
structure Step (P : Program) (M : Mp) (H : Heap) (W : World) (M' : Mp) (H' : Heap) (W' : World) : Prop where
  rel : Rel P M' H' W'
  ext : MLe M M'
  size : H.size ≤ H'.size
  new : ∀ b τ, M' b = some τ → M b = none → H.size ≤ b ∧ b < H'.size ∧ (W.heap.size ≤ τ.b ∨ ∃ b0 τ0, M b0 = some τ0 ∧ τ0.b = τ.b ∧ ¬ Ro H b0 ∧ ¬ Dead H b0)
  ro : ∀ b, b < H.size → Ro H b → H'[b]? = H[b]?
  rw : ∀ b, b < H.size → ¬ Ro H b → ¬ Ro H' b
  dead : ∀ b, b < H.size → Dead H b → Dead H' b
  cframe : ∀ b, b < H.size → M b = none → H'[b]? = H[b]?
  aframe : ∀ k, k < W.heap.size → (∀ b τ, M b = some τ → τ.b = k → Ro H b ∨ Dead H b) → W'.heap[k]? = W.heap[k]?
  wsize : W.heap.size ≤ W'.heap.size
  os : W'.os = W.os
  tape : W'.tape = W.tape
  output : W'.output = W.output
  drawn : W.drawn ≤ W'.drawn

theorem Rel.lt' {H : Heap} {W : World} (R : Rel P M H W) {b : Nat} {τ : Tgt} (h : M b = some τ) : b < H.size := by
  obtain ⟨blk, hb, _⟩ := R.blk b τ h
  exact (Array.getElem?_eq_some_iff.1 hb).1

theorem Step.refl {H : Heap} {W : World} (R : Rel P M H W) : Step P M H W M H W :=
  ⟨R, MLe.refl _, Nat.le_refl _, (fun b τ h h' => by rw [h] at h'; cases h'), fun _ _ _ => rfl, fun _ _ h => h, fun _ _ h => h, fun _ _ _ => rfl, fun _ _ _ => rfl, Nat.le_refl _, rfl, rfl, rfl, Nat.le_refl _⟩

theorem Step.trans {H H1 H2 : Heap} {W W1 W2 : World} (R : Rel P M H W) (s : Step P M H W M1 H1 W1) (t : Step P M1 H1 W1 M2 H2 W2) : Step P M H W M2 H2 W2 where
  rel := t.rel
  ext := s.ext.trans t.ext
  size := Nat.le_trans s.size t.size
  new := fun b τ h h0 => by
    cases h1 : M1 b with
    | none =>
      obtain ⟨a1, a2, a3⟩ := t.new b τ h h1
      refine ⟨Nat.le_trans s.size a1, a2, ?_⟩
      rcases a3 with a3 | ⟨b0, τ0, e0, e1, e2, e3⟩
      · exact .inl (Nat.le_trans s.wsize a3)
      · cases hm : M b0 with
        | none =>
          obtain ⟨c1, c2, c3⟩ := s.new b0 τ0 e0 hm
          rcases c3 with c3 | ⟨b9, τ9, f0, f1, f2⟩
          · exact .inl (e1 ▸ c3)
          · exact .inr ⟨b9, τ9, f0, f1.trans e1, f2⟩
        | some τ9 =>
          have e9 := s.ext _ _ hm
          rw [e0] at e9
          cases e9
          refine .inr ⟨b0, τ0, hm, e1, fun hr => e2 ?_, fun hd => e3 (s.dead b0 (R.lt' hm) hd)⟩
          obtain ⟨c, t', hc⟩ := hr
          exact ⟨c, t', (s.ro b0 (R.lt' hm) ⟨c, t', hc⟩).trans hc⟩
    | some τ1 =>
      have e1 := t.ext _ _ h1
      rw [h] at e1
      cases e1
      obtain ⟨a1, a2, a3⟩ := s.new b _ h1 h0
      exact ⟨a1, Nat.lt_of_lt_of_le a2 t.size, a3⟩
  ro := fun b hb h => by
    have h1 := s.ro b hb h
    obtain ⟨c, t', hc⟩ := h
    exact (t.ro b (Nat.lt_of_lt_of_le hb s.size) ⟨c, t', h1.trans hc⟩).trans h1
  rw := fun b hb h => t.rw b (Nat.lt_of_lt_of_le hb s.size) (s.rw b hb h)
  dead := fun b hb h => t.dead b (Nat.lt_of_lt_of_le hb s.size) (s.dead b hb h)
  cframe := fun b hb h => by
    have h1 : M1 b = none := by
      cases hm : M1 b with
      | none => rfl
      | some τ => have := (s.new b τ hm h).1; omega
    exact (t.cframe b (Nat.lt_of_lt_of_le hb s.size) h1).trans (s.cframe b hb h)
  aframe := fun k hk h => by
    refine (t.aframe k (Nat.lt_of_lt_of_le hk s.wsize) fun b τ hb e => ?_).trans (s.aframe k hk h)
    cases hm : M b with
    | none =>
      obtain ⟨a1, a2, a3⟩ := s.new b τ hb hm
      rcases a3 with a3 | ⟨b0, τ0, e0, e1, e2, e3⟩
      · omega
      · rcases h b0 τ0 e0 (e1.trans e) with h | h
        · exact absurd h e2
        · exact absurd h e3
    | some τ0 =>
      have e0 := s.ext _ _ hm
      rw [hb] at e0
      cases e0
      rcases h b τ hm e with hr | hd
      · obtain ⟨c, t', hc⟩ := hr
        exact .inl ⟨c, t', (s.ro b (R.lt' hm) ⟨c, t', hc⟩).trans hc⟩
      · exact .inr (s.dead b (R.lt' hm) hd)
  wsize := Nat.le_trans s.wsize t.wsize
  os := t.os.trans s.os
  tape := t.tape.trans s.tape
  output := t.output.trans s.output
  drawn := Nat.le_trans s.drawn t.drawn

end Go.AH
