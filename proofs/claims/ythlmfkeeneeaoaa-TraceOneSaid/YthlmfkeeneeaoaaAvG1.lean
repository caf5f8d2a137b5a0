/- Generic: a calculus of what calls do to memory that is given by its values. It states nothing of the program. -/
import Derived.CallsIn
import Derived.RangeFuncIn
import Derived.WalkKit
import Derived.OrdersIn
import Derived.Laws.CopyRow
import Derived.Maps.AppendAt
import Derived.Laws.Tables
set_option linter.all false
set_option linter.unnecessarySimpa false
set_option linter.unusedVariables false
set_option linter.unusedSimpArgs false
namespace Go.Av

/-! ### Abstract values -/
inductive AVal where
  | any
  | v (c : Value)
  | agg (xs : List AVal)
  | tup (xs : List AVal)
  | sl (xs : List AVal)
  | own (id n : Nat)
  | ptr (id off : Nat)
  | rp (id i j : Nat)
  | ref (cs : List AVal)
  | map (id : Nat)
  | fn (f : Fn) (caps : List AVal)
  deriving Inhabited

def AVal.cells : AVal → List AVal
  | .agg xs => xs
  | x => [x]

inductive Pl where
  | dead
  | blk (g : Nat)
  | row (g cap s : Nat)
  | nil
  | map (g : Nat)
  | raw (g : Nat)

def Pl.isRaw : Pl → Bool
  | .raw _ => true
  | _ => false

def Pl.block : Pl → Option Nat
  | .blk g => some g
  | .row g _ _ => some g
  | .map g => some g
  | .raw g => some g
  | _ => none

structure Cx where
  ι : Nat → Option Pl
  S : Nat → Prop
  w : World

mutual
def Rel (c : Cx) : AVal → Value → Prop
  | .any, _ => True
  | .v x, y => y = x ∧ x.oneCell' = true
  | .agg xs, y => ∃ cs, y = .agg ⟨cs⟩ ∧ RelL c xs cs
  | .tup xs, y => ∃ cs, y = .tuple ⟨cs⟩ ∧ RelL c xs cs
  | .sl xs, y => ∃ A k, y = .slice A xs.length k ∧ xs.length ≤ k ∧ k ≤ maxLen ∧ (0 < xs.length → ∃ ad s, A = some ad ∧ c.S ad.block ∧ RelE c s xs ad)
  | .own id n, y => match c.ι id with
    | some .dead => y.oneCell' = true
    | some (.row g cap _) => y = .slice (some ⟨g, 0, none⟩) n cap
    | some .nil => y = .slice none 0 0 ∧ n = 0
    | _ => False
  | .ptr id off, y => match c.ι id with
    | some .dead => y.oneCell' = true
    | some (.blk g) => y = .pointer (some ⟨g, off, none⟩)
    | _ => False
  | .rp id i j, y => match c.ι id with
    | some .dead => y.oneCell' = true
    | some (.row g _ s) => y = .pointer (some ⟨g, i * s + j, none⟩)
    | _ => False
  | .ref cs, y => ∃ ad, y = .pointer (some ad) ∧ c.S ad.block ∧ RelC c cs ad
  | .map id, y => match c.ι id with
    | some .dead => y.oneCell' = true
    | some (.map g) => y = .map (some g)
    | _ => False
  | .fn f caps, y => ∃ cs, y = .func f #[] ⟨cs⟩ ∧ RelL c caps cs
def RelL (c : Cx) : List AVal → List Value → Prop
  | [], ys => ys = []
  | x :: xs, ys => ∃ y ys', ys = y :: ys' ∧ Rel c x y ∧ RelL c xs ys'
def RelC (c : Cx) : List AVal → Addr → Prop
  | [], _ => True
  | x :: xs, ad => ∃ y, c.w.cell? ad = some y ∧ Rel c x y ∧ RelC c xs (ad.add 1)
def RelE (c : Cx) (s : Nat) : List AVal → Addr → Prop
  | [], _ => True
  | .agg ys :: xs, ad => ys.length = s ∧ RelC c ys ad ∧ RelE c s xs (ad.add s)
  | x :: xs, ad => 1 = s ∧ (∃ y, c.w.cell? ad = some y ∧ Rel c x y) ∧ RelE c s xs (ad.add s)
end

structure Cx.le (c c' : Cx) : Prop where
  ι : ∀ id p, c.ι id = some p → c'.ι id = some p ∨ (p.isRaw = false ∧ c'.ι id = some .dead)
  S : ∀ b, c.S b → c'.S b
  blk : ∀ b, c.S b → c'.w.heap[b]? = c.w.heap[b]?
  os : c'.w.os = c.w.os
  tape : c'.w.tape = c.w.tape
  output : c'.w.output = c.w.output
  size : c.w.heap.size ≤ c'.w.heap.size

theorem Cx.le.refl (c : Cx) : c.le c := ⟨fun _ _ h => .inl h, fun _ h => h, fun _ _ => rfl, rfl, rfl, rfl, Nat.le_refl _⟩
theorem Cx.le.trans {a b c : Cx} (h : a.le b) (k : b.le c) : a.le c where
  ι := fun id p hp => by
    rcases h.ι id p hp with h1 | h1
    · exact k.ι id p h1
    · exact .inr ⟨h1.1, by rcases k.ι id .dead h1.2 with h2 | h2; exact h2; exact h2.2⟩
  S := fun b hb => k.S b (h.S b hb)
  blk := fun b hb => (k.blk b (h.S b hb)).trans (h.blk b hb)
  os := k.os.trans h.os
  tape := k.tape.trans h.tape
  output := k.output.trans h.output
  size := Nat.le_trans h.size k.size

theorem cell_of_blk {w w' : World} {ad : Addr} (h : w'.heap[ad.block]? = w.heap[ad.block]?) : w'.cell? ad = w.cell? ad := by
  unfold World.cell?; rw [h]

theorem add_block (a : Addr) (n : Nat) : (a.add n).block = a.block := by unfold Addr.add; split <;> rfl

theorem one_slice (a : Option Addr) (n k : Nat) : (Value.slice a n k).oneCell' = true := rfl
theorem one_pointer (a : Option Addr) : (Value.pointer a).oneCell' = true := rfl
theorem one_map (a : Option Nat) : (Value.map a).oneCell' = true := rfl
mutual
theorem Rel.mono {c c' : Cx} (h : c.le c') : ∀ (x : AVal) (y : Value), Rel c x y → Rel c' x y
  | .any, _, _ => trivial
  | .v _, _, hr => hr
  | .agg xs, y, hr => by
    obtain ⟨cs, rfl, h1⟩ := hr; exact ⟨cs, rfl, RelL.mono h xs cs h1⟩
  | .tup xs, y, hr => by
    obtain ⟨cs, rfl, h1⟩ := hr; exact ⟨cs, rfl, RelL.mono h xs cs h1⟩
  | .sl xs, y, hr => by
    obtain ⟨A, k, h1, h2, h3, h4⟩ := hr
    refine ⟨A, k, h1, h2, h3, fun h0 => ?_⟩
    obtain ⟨ad, s, hA, hS, hE⟩ := h4 h0
    exact ⟨ad, s, hA, h.S _ hS, RelE.mono h hS s xs ad rfl hE⟩
  | .own id n, y, hr => by
    simp only [Rel] at hr ⊢
    cases hi : c.ι id with
    | none => rw [hi] at hr; exact hr.elim
    | some p =>
      rw [hi] at hr
      rcases h.ι id p hi with h1 | ⟨_, h1⟩ <;> rw [h1]
      · exact hr
      · cases p <;> simp at hr ⊢ <;> simp_all [Value.oneCell']
  | .ptr id off, y, hr => by
    simp only [Rel] at hr ⊢
    cases hi : c.ι id with
    | none => rw [hi] at hr; exact hr.elim
    | some p =>
      rw [hi] at hr
      rcases h.ι id p hi with h1 | ⟨_, h1⟩ <;> rw [h1]
      · exact hr
      · cases p <;> simp at hr ⊢ <;> simp_all [Value.oneCell']
  | .rp id i j, y, hr => by
    simp only [Rel] at hr ⊢
    cases hi : c.ι id with
    | none => rw [hi] at hr; exact hr.elim
    | some p =>
      rw [hi] at hr
      rcases h.ι id p hi with h1 | ⟨_, h1⟩ <;> rw [h1]
      · exact hr
      · cases p <;> simp at hr ⊢ <;> simp_all [Value.oneCell']
  | .ref cs, y, hr => by
    obtain ⟨ad, h1, h2, h3⟩ := hr
    exact ⟨ad, h1, h.S _ h2, RelC.mono h h2 cs ad rfl h3⟩
  | .map id, y, hr => by
    simp only [Rel] at hr ⊢
    cases hi : c.ι id with
    | none => rw [hi] at hr; exact hr.elim
    | some p =>
      rw [hi] at hr
      rcases h.ι id p hi with h1 | ⟨_, h1⟩ <;> rw [h1]
      · exact hr
      · cases p <;> simp at hr ⊢ <;> simp_all [Value.oneCell']
  | .fn f caps, y, hr => by
    obtain ⟨cs, rfl, h1⟩ := hr; exact ⟨cs, rfl, RelL.mono h caps cs h1⟩
theorem RelL.mono {c c' : Cx} (h : c.le c') : ∀ (xs : List AVal) (ys : List Value), RelL c xs ys → RelL c' xs ys
  | [], _, hr => hr
  | x :: xs, ys, hr => by
    obtain ⟨y, ys', rfl, h1, h2⟩ := hr
    exact ⟨y, ys', rfl, Rel.mono h x y h1, RelL.mono h xs ys' h2⟩
theorem RelC.mono {c c' : Cx} (h : c.le c') {b : Nat} (hb : c.S b) : ∀ (xs : List AVal) (ad : Addr), ad.block = b → RelC c xs ad → RelC c' xs ad
  | [], _, _, _ => trivial
  | x :: xs, ad, ha, hr => by
    obtain ⟨y, h1, h2, h3⟩ := hr
    exact ⟨y, (cell_of_blk (h.blk _ (ha ▸ hb))).trans h1, Rel.mono h x y h2, RelC.mono h hb xs _ ((add_block _ _).trans ha) h3⟩
theorem RelE.mono {c c' : Cx} (h : c.le c') {b : Nat} (hb : c.S b) (s : Nat) : ∀ (xs : List AVal) (ad : Addr), ad.block = b → RelE c s xs ad → RelE c' s xs ad
  | [], _, _, _ => trivial
  | .agg ys :: xs, ad, ha, hr => by
    obtain ⟨h1, h2, h3⟩ := hr
    exact ⟨h1, RelC.mono h hb ys ad ha h2, RelE.mono h hb s xs _ ((add_block _ _).trans ha) h3⟩
  | .any :: xs, ad, ha, hr => by
    obtain ⟨h1, ⟨y, h2, h2'⟩, h3⟩ := hr
    exact ⟨h1, ⟨y, (cell_of_blk (h.blk _ (ha ▸ hb))).trans h2, Rel.mono h _ y h2'⟩, RelE.mono h hb s xs _ ((add_block _ _).trans ha) h3⟩
  | .v _ :: xs, ad, ha, hr => by
    obtain ⟨h1, ⟨y, h2, h2'⟩, h3⟩ := hr
    exact ⟨h1, ⟨y, (cell_of_blk (h.blk _ (ha ▸ hb))).trans h2, Rel.mono h _ y h2'⟩, RelE.mono h hb s xs _ ((add_block _ _).trans ha) h3⟩
  | .tup _ :: xs, ad, ha, hr => by
    obtain ⟨h1, ⟨y, h2, h2'⟩, h3⟩ := hr
    exact ⟨h1, ⟨y, (cell_of_blk (h.blk _ (ha ▸ hb))).trans h2, Rel.mono h _ y h2'⟩, RelE.mono h hb s xs _ ((add_block _ _).trans ha) h3⟩
  | .sl _ :: xs, ad, ha, hr => by
    obtain ⟨h1, ⟨y, h2, h2'⟩, h3⟩ := hr
    exact ⟨h1, ⟨y, (cell_of_blk (h.blk _ (ha ▸ hb))).trans h2, Rel.mono h _ y h2'⟩, RelE.mono h hb s xs _ ((add_block _ _).trans ha) h3⟩
  | .own _ _ :: xs, ad, ha, hr => by
    obtain ⟨h1, ⟨y, h2, h2'⟩, h3⟩ := hr
    exact ⟨h1, ⟨y, (cell_of_blk (h.blk _ (ha ▸ hb))).trans h2, Rel.mono h _ y h2'⟩, RelE.mono h hb s xs _ ((add_block _ _).trans ha) h3⟩
  | .ptr _ _ :: xs, ad, ha, hr => by
    obtain ⟨h1, ⟨y, h2, h2'⟩, h3⟩ := hr
    exact ⟨h1, ⟨y, (cell_of_blk (h.blk _ (ha ▸ hb))).trans h2, Rel.mono h _ y h2'⟩, RelE.mono h hb s xs _ ((add_block _ _).trans ha) h3⟩
  | .rp _ _ _ :: xs, ad, ha, hr => by
    obtain ⟨h1, ⟨y, h2, h2'⟩, h3⟩ := hr
    exact ⟨h1, ⟨y, (cell_of_blk (h.blk _ (ha ▸ hb))).trans h2, Rel.mono h _ y h2'⟩, RelE.mono h hb s xs _ ((add_block _ _).trans ha) h3⟩
  | .ref _ :: xs, ad, ha, hr => by
    obtain ⟨h1, ⟨y, h2, h2'⟩, h3⟩ := hr
    exact ⟨h1, ⟨y, (cell_of_blk (h.blk _ (ha ▸ hb))).trans h2, Rel.mono h _ y h2'⟩, RelE.mono h hb s xs _ ((add_block _ _).trans ha) h3⟩
  | .map _ :: xs, ad, ha, hr => by
    obtain ⟨h1, ⟨y, h2, h2'⟩, h3⟩ := hr
    exact ⟨h1, ⟨y, (cell_of_blk (h.blk _ (ha ▸ hb))).trans h2, Rel.mono h _ y h2'⟩, RelE.mono h hb s xs _ ((add_block _ _).trans ha) h3⟩
  | .fn _ _ :: xs, ad, ha, hr => by
    obtain ⟨h1, ⟨y, h2, h2'⟩, h3⟩ := hr
    exact ⟨h1, ⟨y, (cell_of_blk (h.blk _ (ha ▸ hb))).trans h2, Rel.mono h _ y h2'⟩, RelE.mono h hb s xs _ ((add_block _ _).trans ha) h3⟩
end
end Go.Av

namespace Go.Av

/-! ### Types, as told to the evaluator -/
inductive K where
  | int (k : IntKind) | bool | struct | array (n e : Nat) | slice (e : Nat) | map (k e : Nat) | pointer (e : Nat) | func | other
  deriving DecidableEq

structure TD where
  size : Nat
  bytes : Nat
  agg : Bool
  zero : List Value
  zagg : Bool
  fok : Bool
  fl : List (Nat × Nat × Bool)
  kind : K

def isAggV : Value → Bool
  | .agg _ => true
  | _ => false

def aggD : TypeDesc → Bool
  | .struct _ => true
  | .array _ _ => true
  | _ => false

def tdOf (P : Program) (t : TypeId) : Option TD :=
  match P.info? t, P.underlying t with
  | some i, some d => match i.zero with
    | some z => some {
        size := i.size, bytes := i.bytes, zero := z.cells.toList, zagg := isAggV z, fok := (match d with | .struct fs => fs.toList.all fun f => (P.info? f.type).isSome && (P.underlying f.type).isSome | _ => false), agg := aggD d,
        fl := match d with
          | .struct fs => fs.toList.map fun f => (f.offset, (if (P.underlying f.type).isSome then ((P.info? f.type).map (·.size)).getD 0 else 0), ((P.underlying f.type).map aggD).getD false)
          | _ => [],
        kind := match d with
          | .int k => .int k | .bool => .bool | .struct _ => .struct | .array n e => .array n e | .slice e => .slice e | .map k e => .map k e
          | .pointer e => .pointer e | .func _ _ _ => .func | _ => .other }
    | none => none
  | _, _ => none

/-- The table of types that an evaluator goes by is the program's. -/
def Tab (P : Program) (T : Nat → Option TD) : Prop := ∀ t td, T t = some td → tdOf P t = some td

theorem tdOf_inv {P : Program} {t : TypeId} {td : TD} (h : tdOf P t = some td) : ∃ i d z, P.info? t = some i ∧ P.underlying t = some d ∧ i.zero = some z ∧
    td.size = i.size ∧ td.bytes = i.bytes ∧ td.zero = z.cells.toList ∧ td.agg = aggD d ∧
    (td.fl = match d with
          | .struct fs => fs.toList.map fun f => (f.offset, (if (P.underlying f.type).isSome then ((P.info? f.type).map (·.size)).getD 0 else 0), ((P.underlying f.type).map aggD).getD false)
          | _ => []) ∧
    (td.kind = match d with
          | .int k => .int k | .bool => .bool | .struct _ => .struct | .array n e => .array n e | .slice e => .slice e | .map k e => .map k e
          | .pointer e => .pointer e | .func _ _ _ => .func | _ => .other) ∧ td.zagg = isAggV z ∧ (td.fok = match d with | .struct fs => fs.toList.all fun f => (P.info? f.type).isSome && (P.underlying f.type).isSome | _ => false) := by
  unfold tdOf at h
  cases hi : P.info? t with
  | none => simp [hi] at h
  | some i =>
    cases hd : P.underlying t with
    | none => simp [hi, hd] at h
    | some d =>
      cases hz : i.zero with
      | none => simp [hi, hd, hz] at h
      | some z =>
        simp only [hi, hd, hz, Option.some.injEq] at h
        subst h
        exact ⟨i, d, z, rfl, rfl, hz, rfl, rfl, rfl, rfl, rfl, rfl, rfl, rfl⟩

section
variable {P : Program} {t : TypeId} {td : TD}
theorem td_slice {e : Nat} (h : tdOf P t = some td) (hk : td.kind = .slice e) : P.underlying t = some (.slice e) := by
  obtain ⟨i, d, z, _, h2, _, _, _, _, _, _, h3, _⟩ := tdOf_inv h
  rw [h3] at hk
  cases d <;> simp at hk
  subst hk; exact h2
theorem td_array {n e : Nat} (h : tdOf P t = some td) (hk : td.kind = .array n e) : P.underlying t = some (.array n e) := by
  obtain ⟨i, d, z, _, h2, _, _, _, _, _, _, h3, _⟩ := tdOf_inv h
  rw [h3] at hk
  cases d <;> simp at hk
  obtain ⟨rfl, rfl⟩ := hk; exact h2
theorem td_map {k e : Nat} (h : tdOf P t = some td) (hk : td.kind = .map k e) : P.underlying t = some (.map k e) := by
  obtain ⟨i, d, z, _, h2, _, _, _, _, _, _, h3, _⟩ := tdOf_inv h
  rw [h3] at hk
  cases d <;> simp at hk
  obtain ⟨rfl, rfl⟩ := hk; exact h2
theorem td_pointer {e : Nat} (h : tdOf P t = some td) (hk : td.kind = .pointer e) : P.underlying t = some (.pointer e) := by
  obtain ⟨i, d, z, _, h2, _, _, _, _, _, _, h3, _⟩ := tdOf_inv h
  rw [h3] at hk
  cases d <;> simp at hk
  subst hk; exact h2
theorem td_int {k : IntKind} (h : tdOf P t = some td) (hk : td.kind = .int k) : P.underlying t = some (.int k) := by
  obtain ⟨i, d, z, _, h2, _, _, _, _, _, _, h3, _⟩ := tdOf_inv h
  rw [h3] at hk
  cases d <;> simp at hk
  subst hk; exact h2
theorem td_bool (h : tdOf P t = some td) (hk : td.kind = .bool) : P.underlying t = some .bool := by
  obtain ⟨i, d, z, _, h2, _, _, _, _, _, _, h3, _⟩ := tdOf_inv h
  rw [h3] at hk
  cases d <;> simp at hk
  exact h2
theorem td_struct {j off sz : Nat} {ag : Bool} (h : tdOf P t = some td) (hk : td.fl[j]? = some (off, sz, ag)) : ∃ fs f, P.underlying t = some (.struct fs) ∧ fs[j]? = some f ∧ f.offset = off ∧
    (if (P.underlying f.type).isSome then ((P.info? f.type).map (·.size)).getD 0 else 0) = sz ∧ ((P.underlying f.type).map aggD).getD false = ag := by
  obtain ⟨i, d, z, _, h2, _, _, _, _, _, h3, _⟩ := tdOf_inv h
  rw [h3] at hk
  cases d with
  | struct fs =>
    simp at hk
    obtain ⟨f, hf, h3, h4, h5⟩ := hk
    exact ⟨fs, f, h2, by simpa using hf, h3, h4, h5⟩
  | _ => simp at hk
end

/-! ### The abstract heap -/
inductive AObj where
  | dead
  | blk (t : Nat) (cs : List AVal)
  | row (t s : Nat) (xs : List AVal)
  | map (k : IntKind) (es : List (Int × AVal))
  | raw (o : Obj)
  | lp (g : Nat) (r : Loop) (tmf : Nat → AVal)

/-- Elements laid one behind the other. -/
def RelX (c : Cx) (s : Nat) : List AVal → List Value → Prop
  | [], _ => True
  | x :: xs, C => x.cells.length = s ∧ RelL c x.cells (C.take s) ∧ RelX c s xs (C.drop s)

def RelM (c : Cx) (q : IntKind) : List (Int × AVal) → List MapEntry → Prop
  | [], es => es = []
  | (k, x) :: r, es => ∃ e es', es = e :: es' ∧ e.key = .int q k ∧ Rel c x e.val ∧ RelM c q r es'

def ObjOK (c : Cx) (id : Nat) : AObj → Prop
  | .dead => c.ι id = some .dead
  | .blk t cs => ∃ g C, c.ι id = some (.blk g) ∧ c.w.heap[g]? = some (.cells ⟨C⟩ t (0, 0)) ∧ RelL c cs C
  | .row t s xs => (∃ g cap C, c.ι id = some (.row g cap s) ∧ c.w.heap[g]? = some (.cells ⟨C⟩ t (0, 0)) ∧ C.length = cap * s ∧ xs.length ≤ cap ∧ cap ≤ maxLen ∧ RelX c s xs C) ∨
      (c.ι id = some .nil ∧ xs = [])
  | .map q es => ∃ g E clock, c.ι id = some (.map g) ∧ c.w.heap[g]? = some (.map ⟨E⟩ clock) ∧ RelM c q es E
  | .raw o => ∃ g, c.ι id = some (.raw g) ∧ c.w.heap[g]? = some o
  | .lp g r tmf => c.ι id = some (.raw g) ∧ c.w.heap[g]? = some (.loop r) ∧ ∀ t, Rel c (tmf t) (r.tmps.getD t undef)

abbrev Hp := Nat → Option AObj
def hupd (h : Hp) (id : Nat) (o : AObj) : Hp := fun k => if k = id then some o else h k
def hw (h : Hp) (ws : List (Nat × AObj)) : Hp := ws.foldl (fun h p => hupd h p.1 p.2) h

structure HeapOK (c : Cx) (h : Hp) : Prop where
  obj : ∀ id o, h id = some o → ObjOK c id o
  off : ∀ id, h id = none → c.ι id = none
  inj : ∀ id id' p p' g, c.ι id = some p → c.ι id' = some p' → p.block = some g → p'.block = some g → id = id'
  own : ∀ id p g, c.ι id = some p → p.block = some g → g < c.w.heap.size ∧ ¬ c.S g
  stab : ∀ b, c.S b → b < c.w.heap.size

theorem RelX.mono {c c' : Cx} (h : c.le c') (s : Nat) : ∀ (xs : List AVal) (C : List Value), RelX c s xs C → RelX c' s xs C
  | [], _, _ => trivial
  | _ :: xs, _, ⟨h1, h2, h3⟩ => ⟨h1, RelL.mono h _ _ h2, RelX.mono h s xs _ h3⟩
theorem RelM.mono {c c' : Cx} (h : c.le c') (q : IntKind) : ∀ (xs : List (Int × AVal)) (C : List MapEntry), RelM c q xs C → RelM c' q xs C
  | [], _, hr => hr
  | (k, x) :: xs, C, hr => by
    obtain ⟨e, es', h1, h2, h3, h4⟩ := hr
    exact ⟨e, es', h1, h2, Rel.mono h _ _ h3, RelM.mono h q xs _ h4⟩

theorem RelL.length {c : Cx} : ∀ {xs : List AVal} {ys : List Value}, RelL c xs ys → ys.length = xs.length
  | [], _, h => by cases h; rfl
  | x :: xs, _, h => by
    obtain ⟨y, ys', rfl, _, h2⟩ := h
    simp [RelL.length h2]
theorem RelL.get {c : Cx} : ∀ {xs : List AVal} {ys : List Value} {i : Nat} {x : AVal}, RelL c xs ys → xs[i]? = some x → ∃ y, ys[i]? = some y ∧ Rel c x y
  | [], _, _, _, _, h => by simp at h
  | x :: xs, _, 0, _, h, hi => by
    obtain ⟨y, ys', rfl, h1, _⟩ := h
    simp at hi; subst hi; exact ⟨y, rfl, h1⟩
  | x :: xs, _, i + 1, _, h, hi => by
    obtain ⟨y, ys', rfl, _, h2⟩ := h
    simpa using RelL.get h2 (by simpa using hi)
theorem RelL.take {c : Cx} : ∀ {xs : List AVal} {ys : List Value} (n : Nat), RelL c xs ys → RelL c (xs.take n) (ys.take n)
  | _, _, 0, _ => by simp [RelL]
  | [], _, n + 1, h => by cases h; simp [RelL]
  | x :: xs, _, n + 1, h => by
    obtain ⟨y, ys', rfl, h1, h2⟩ := h
    exact ⟨y, ys'.take n, by simp, h1, RelL.take n h2⟩
theorem RelL.drop {c : Cx} : ∀ {xs : List AVal} {ys : List Value} (n : Nat), RelL c xs ys → RelL c (xs.drop n) (ys.drop n)
  | _, _, 0, h => by simpa using h
  | [], _, n + 1, h => by cases h; simp [RelL]
  | x :: xs, _, n + 1, h => by
    obtain ⟨y, ys', rfl, _, h2⟩ := h
    simpa using RelL.drop n h2
theorem RelL.append {c : Cx} : ∀ {xs : List AVal} {ys : List Value} {xs' : List AVal} {ys' : List Value}, RelL c xs ys → RelL c xs' ys' → RelL c (xs ++ xs') (ys ++ ys')
  | [], _, _, _, h, h' => by cases h; simpa using h'
  | x :: xs, _, _, _, h, h' => by
    obtain ⟨y, ys', rfl, h1, h2⟩ := h
    exact ⟨y, _, rfl, h1, RelL.append h2 h'⟩
theorem RelL.set {c : Cx} : ∀ {xs : List AVal} {ys : List Value} (i : Nat) {x : AVal} {y : Value}, RelL c xs ys → Rel c x y → RelL c (xs.set i x) (ys.set i y)
  | [], _, i, _, _, h, _ => by cases h; simp [RelL]
  | x :: xs, _, 0, _, _, h, hx => by
    obtain ⟨y, ys', rfl, _, h2⟩ := h
    exact ⟨_, _, rfl, hx, h2⟩
  | x :: xs, _, i + 1, _, _, h, hx => by
    obtain ⟨y, ys', rfl, h1, h2⟩ := h
    exact ⟨_, _, rfl, h1, RelL.set i h2 hx⟩

theorem RelL.vals (c : Cx) : ∀ l : List Value, l.all Value.oneCell' = true → RelL c (l.map .v) l
  | [], _ => rfl
  | x :: xs, h => by
    simp at h
    exact ⟨x, xs, rfl, ⟨rfl, h.1⟩, RelL.vals c xs (by simpa using h.2)⟩

/-- Neither unknown nor a tuple: its cells can be told. -/
def AVal.solid : AVal → Bool
  | .any => false
  | .tup _ => false
  | _ => true

theorem cells_one {y : Value} (h : y.oneCell' = true) : y.cells.toList = [y] := by
  cases y <;> first | rfl | simp [Value.oneCell'] at h

/-- A value's cells, related, if the value is. -/
theorem Rel.cells {c : Cx} {x : AVal} {y : Value} (h : Rel c x y) (hs : x.solid = true) : RelL c x.cells y.cells.toList := by
  have one : ∀ (_ : x.cells = [x]) (_ : y.oneCell' = true), RelL c x.cells y.cells.toList := fun h1 h2 => by
    rw [h1, cells_one h2]; exact ⟨y, [], rfl, h, rfl⟩
  cases x with
  | any => simp [AVal.solid] at hs
  | tup xs => simp [AVal.solid] at hs
  | agg xs => obtain ⟨cs, rfl, h1⟩ := h; exact h1
  | v x => exact one rfl (by obtain ⟨rfl, h1⟩ := h; exact h1)
  | sl xs => exact one rfl (by obtain ⟨A, k, rfl, _⟩ := h; rfl)
  | ref cs => exact one rfl (by obtain ⟨ad, rfl, _⟩ := h; rfl)
  | fn f cs => exact one rfl (by obtain ⟨ad, rfl, _⟩ := h; rfl)
  | own id n =>
    refine one rfl ?_
    simp only [Rel] at h
    split at h
    · exact h
    · rw [h]; rfl
    · rw [h.1]; rfl
    · exact h.elim
  | ptr id n =>
    refine one rfl ?_
    simp only [Rel] at h
    split at h
    · exact h
    · rw [h]; rfl
    · exact h.elim
  | rp id i n =>
    refine one rfl ?_
    simp only [Rel] at h
    split at h
    · exact h
    · rw [h]; rfl
    · exact h.elim
  | map id =>
    refine one rfl ?_
    simp only [Rel] at h
    split at h
    · exact h
    · rw [h]; rfl
    · exact h.elim

theorem RelL.one {c : Cx} : ∀ {xs : List AVal} {ys : List Value}, RelL c xs ys → True := fun _ => trivial
end Go.Av

namespace Go.Av
open Go.RowKit

/-! ### Moves on the heap -/
theorem ObjOK.mono {c c' : Cx} (h : c.le c') {id : Nat} {o : AObj} (ho : ObjOK c id o) (hι : c'.ι id = c.ι id)
    (hb : ∀ p g, c.ι id = some p → p.block = some g → c'.w.heap[g]? = c.w.heap[g]?) : ObjOK c' id o := by
  cases o with
  | dead => exact hι.trans ho
  | blk t cs =>
    obtain ⟨g, C, h1, h2, h3⟩ := ho
    exact ⟨g, C, hι.trans h1, (hb _ _ h1 rfl).trans h2, RelL.mono h _ _ h3⟩
  | row t s xs =>
    rcases ho with ⟨g, cap, C, h1, h2, h3, h4, h5, h6⟩ | ⟨h1, h2⟩
    · exact .inl ⟨g, cap, C, hι.trans h1, (hb _ _ h1 rfl).trans h2, h3, h4, h5, RelX.mono h _ _ _ h6⟩
    · exact .inr ⟨hι.trans h1, h2⟩
  | map t es =>
    obtain ⟨g, E, k, h1, h2, h3⟩ := ho
    exact ⟨g, E, k, hι.trans h1, (hb _ _ h1 rfl).trans h2, RelM.mono h _ _ _ h3⟩
  | raw ob =>
    obtain ⟨g, h1, h2⟩ := ho
    exact ⟨g, hι.trans h1, (hb _ _ h1 rfl).trans h2⟩
  | lp g r tmf => exact ⟨hι.trans ho.1, (hb _ _ ho.1 rfl).trans ho.2.1, fun t => Rel.mono h _ _ (ho.2.2 t)⟩

def iupd (ι : Nat → Option Pl) (id : Nat) (p : Pl) : Nat → Option Pl := fun k => if k = id then some p else ι k
theorem iupd_same (ι : Nat → Option Pl) (id : Nat) (p : Pl) : iupd ι id p id = some p := by simp [iupd]
theorem iupd_ne (ι : Nat → Option Pl) {id k : Nat} (p : Pl) (h : k ≠ id) : iupd ι id p k = ι k := by simp [iupd, h]

/-- A new block for a new id. -/
theorem HeapOK.new {c : Cx} {h : Hp} (H : HeapOK c h) {id : Nat} (hn : h id = none) (o : Obj) (p : Pl) (hp : p.block = some c.w.heap.size) (ao : AObj)
    (hob : c.le { ι := iupd c.ι id p, S := c.S, w := c.w.alloc o } → ObjOK { ι := iupd c.ι id p, S := c.S, w := c.w.alloc o } id ao) :
    HeapOK { ι := iupd c.ι id p, S := c.S, w := c.w.alloc o } (hupd h id ao) ∧ c.le { ι := iupd c.ι id p, S := c.S, w := c.w.alloc o } := by
  have hid : c.ι id = none := H.off id hn
  have hold : ∀ g, g < c.w.heap.size → (c.w.alloc o).heap[g]? = c.w.heap[g]? := fun g hg => heap_alloc_old c.w o hg
  have hle : c.le { ι := iupd c.ι id p, S := c.S, w := c.w.alloc o } := by
    refine ⟨fun k q hk => .inl ?_, fun _ hb => hb, fun b hb => hold b (H.stab b hb), rfl, rfl, rfl, ?_⟩
    · show iupd c.ι id p k = some q
      rw [iupd_ne _ _ (fun e => by rw [e, hid] at hk; cases hk)]; exact hk
    · show c.w.heap.size ≤ (c.w.alloc o).heap.size
      rw [World.size_alloc]; omega
  refine ⟨⟨?_, ?_, ?_, ?_, ?_⟩, hle⟩
  · intro k ob hk
    by_cases hkid : k = id
    · subst hkid
      simp [hupd] at hk
      subst hk
      exact hob hle
    · simp only [hupd, hkid, if_false] at hk
      refine (H.obj k ob hk).mono hle (iupd_ne _ _ hkid) (fun q g hq hg => hold g (H.own k q g hq hg).1)
  · intro k hk
    by_cases hkid : k = id
    · subst hkid; simp [hupd] at hk
    · simp only [hupd, hkid, if_false] at hk
      show iupd c.ι id p k = none
      rw [iupd_ne _ _ hkid]; exact H.off k hk
  · intro k k' q q' g hq hq' hg hg'
    by_cases hk : k = id
    · by_cases hk' : k' = id
      · rw [hk, hk']
      · subst hk
        simp only [iupd_same] at hq
        injection hq with hq; subst hq
        have h1 : c.ι k' = some q' := by rw [← iupd_ne c.ι p hk']; exact hq'
        rw [hp] at hg; injection hg with hg; subst hg
        have := (H.own k' q' _ h1 hg').1
        omega
    · have h1 : c.ι k = some q := by rw [← iupd_ne c.ι p hk]; exact hq
      by_cases hk' : k' = id
      · subst hk'
        simp only [iupd_same] at hq'
        injection hq' with hq'; subst hq'
        rw [hp] at hg'; injection hg' with hg'; subst hg'
        have := (H.own k q _ h1 hg).1
        omega
      · have h2 : c.ι k' = some q' := by rw [← iupd_ne c.ι p hk']; exact hq'
        exact H.inj k k' q q' g h1 h2 hg hg'
  · intro k q g hq hg
    have hsz : (c.w.alloc o).heap.size = c.w.heap.size + 1 := World.size_alloc _ _
    by_cases hk : k = id
    · subst hk
      simp only [iupd_same] at hq
      injection hq with hq; subst hq
      rw [hp] at hg; injection hg with hg; subst hg
      exact ⟨by show _ < (c.w.alloc o).heap.size; omega, fun hs => by have := H.stab _ hs; omega⟩
    · have h1 : c.ι k = some q := by rw [← iupd_ne c.ι p hk]; exact hq
      have := H.own k q g h1 hg
      exact ⟨by show g < (c.w.alloc o).heap.size; omega, this.2⟩
  · intro b hb
    have := H.stab b hb
    show b < (c.w.alloc o).heap.size
    rw [World.size_alloc]; omega

/-- A new id for nothing in memory (a nil row). -/
theorem HeapOK.newNil {c : Cx} {h : Hp} (H : HeapOK c h) {id : Nat} (hn : h id = none) (t s : Nat) :
    HeapOK { c with ι := iupd c.ι id .nil } (hupd h id (.row t s [])) ∧ c.le { c with ι := iupd c.ι id .nil } := by
  have hid : c.ι id = none := H.off id hn
  have hle : c.le { c with ι := iupd c.ι id .nil } := by
    refine ⟨fun k q hk => .inl ?_, fun _ hb => hb, fun b hb => rfl, rfl, rfl, rfl, Nat.le_refl _⟩
    show iupd c.ι id .nil k = some q
    rw [iupd_ne _ _ (fun e => by rw [e, hid] at hk; cases hk)]; exact hk
  have hback : ∀ k q g, iupd c.ι id .nil k = some q → q.block = some g → c.ι k = some q := by
    intro k q g hk hg
    by_cases hkid : k = id
    · subst hkid; rw [iupd_same] at hk; injection hk with hk; subst hk; cases hg
    · rwa [iupd_ne _ _ hkid] at hk
  refine ⟨⟨?_, ?_, ?_, ?_, H.stab⟩, hle⟩
  · intro k ob hk
    by_cases hkid : k = id
    · subst hkid
      simp [hupd] at hk
      subst hk
      exact .inr ⟨iupd_same _ _ _, rfl⟩
    · simp only [hupd, hkid, if_false] at hk
      exact (H.obj k ob hk).mono hle (iupd_ne _ _ hkid) (fun q g hq hg => rfl)
  · intro k hk
    by_cases hkid : k = id
    · subst hkid; simp [hupd] at hk
    · simp only [hupd, hkid, if_false] at hk
      show iupd c.ι id .nil k = none
      rw [iupd_ne _ _ hkid]; exact H.off k hk
  · intro k k' q q' g hq hq' hg hg'
    exact H.inj k k' q q' g (hback _ _ _ hq hg) (hback _ _ _ hq' hg') hg hg'
  · intro k q g hq hg
    exact H.own k q g (hback _ _ _ hq hg) hg

/-- What lies in an id's block is turned; the id may be placed anew with the same block. -/
theorem HeapOK.turn {c : Cx} {h : Hp} (H : HeapOK c h) {id : Nat} {p : Pl} {g : Nat} (hp : c.ι id = some p) (hg : p.block = some g) (w' : World)
    (hb : ∀ b, b ≠ g → w'.heap[b]? = c.w.heap[b]?) (hs : c.w.heap.size ≤ w'.heap.size) (ho : w'.os = c.w.os) (ht : w'.tape = c.w.tape) (hou : w'.output = c.w.output) (ao : AObj)
    (hob : c.le { c with w := w' } → ObjOK { c with w := w' } id ao) :
    HeapOK { c with w := w' } (hupd h id ao) ∧ c.le { c with w := w' } := by
  have hle : c.le { c with w := w' } := by
    refine ⟨fun k q hk => .inl hk, fun _ hb => hb, fun b hb' => hb b (fun e => (H.own id p g hp hg).2 (e ▸ hb')), ho, ht, hou, hs⟩
  refine ⟨⟨?_, ?_, H.inj, ?_, ?_⟩, hle⟩
  · intro k ob hk
    by_cases hkid : k = id
    · subst hkid
      simp [hupd] at hk
      subst hk
      exact hob hle
    · simp only [hupd, hkid, if_false] at hk
      exact (H.obj k ob hk).mono hle rfl (fun q g' hq hg' => hb g' (fun e => hkid (H.inj k id q p g hq hp (e ▸ hg') hg)))
  · intro k hk
    by_cases hkid : k = id
    · subst hkid; simp [hupd] at hk
    · simp only [hupd, hkid, if_false] at hk
      exact H.off k hk
  · intro k q g' hq hg'
    have := H.own k q g' hq hg'
    exact ⟨Nat.lt_of_lt_of_le this.1 hs, this.2⟩
  · intro b hb'
    exact Nat.lt_of_lt_of_le (H.stab b hb') hs

/-- An id is given up. -/
theorem HeapOK.kill {c : Cx} {h : Hp} (H : HeapOK c h) {id : Nat} {p : Pl} (hp : c.ι id = some p) (hraw : p.isRaw = false := by rfl) :
    HeapOK { c with ι := iupd c.ι id .dead } (hupd h id .dead) ∧ c.le { c with ι := iupd c.ι id .dead } := by
  have hle : c.le { c with ι := iupd c.ι id .dead } := by
    refine ⟨fun k q hk => ?_, fun _ hb => hb, fun b hb => rfl, rfl, rfl, rfl, Nat.le_refl _⟩
    by_cases hkid : k = id
    · subst hkid; rw [hp] at hk; injection hk with hk; subst hk; exact .inr ⟨hraw, iupd_same _ _ _⟩
    · exact .inl ((iupd_ne _ _ hkid).trans hk)
  have hback : ∀ k q g, iupd c.ι id .dead k = some q → q.block = some g → c.ι k = some q := by
    intro k q g hk hg
    by_cases hkid : k = id
    · subst hkid; rw [iupd_same] at hk; injection hk with hk; subst hk; cases hg
    · rwa [iupd_ne _ _ hkid] at hk
  refine ⟨⟨?_, ?_, ?_, ?_, H.stab⟩, hle⟩
  · intro k ob hk
    by_cases hkid : k = id
    · subst hkid
      simp [hupd] at hk
      subst hk
      exact iupd_same _ _ _
    · simp only [hupd, hkid, if_false] at hk
      exact (H.obj k ob hk).mono hle (iupd_ne _ _ hkid) (fun q g hq hg => rfl)
  · intro k hk
    by_cases hkid : k = id
    · subst hkid; simp [hupd] at hk
    · simp only [hupd, hkid, if_false] at hk
      show iupd c.ι id .dead k = none
      rw [iupd_ne _ _ hkid]; exact H.off k hk
  · intro k k' q q' g hq hq' hg hg'
    exact H.inj k k' q q' g (hback _ _ _ hq hg) (hback _ _ _ hq' hg') hg hg'
  · intro k q g hq hg
    exact H.own k q g (hback _ _ _ hq hg) hg

/-- The world moves on by draws. -/
theorem HeapOK.drawn {c : Cx} {h : Hp} (H : HeapOK c h) (n : Nat) :
    HeapOK { c with w := { c.w with drawn := n } } h ∧ c.le { c with w := { c.w with drawn := n } } := by
  have hle : c.le { c with w := { c.w with drawn := n } } := ⟨fun k q hk => .inl hk, fun _ hb => hb, fun b hb => rfl, rfl, rfl, rfl, Nat.le_refl _⟩
  exact ⟨⟨fun k ob hk => (H.obj k ob hk).mono hle rfl (fun _ _ _ _ => rfl), H.off, H.inj, H.own, H.stab⟩, hle⟩

/-- An id's block may be read from now on, and is never turned again: the id is given up. -/
theorem HeapOK.freeze {c : Cx} {h : Hp} (H : HeapOK c h) {id : Nat} {p : Pl} {g : Nat} (hp : c.ι id = some p) (hg : p.block = some g) (hraw : p.isRaw = false := by rfl) :
    HeapOK { ι := iupd c.ι id .dead, S := fun b => c.S b ∨ b = g, w := c.w } (hupd h id .dead) ∧ c.le { ι := iupd c.ι id .dead, S := fun b => c.S b ∨ b = g, w := c.w } := by
  obtain ⟨H1, h1⟩ := H.kill hp hraw
  have hle : c.le { ι := iupd c.ι id .dead, S := fun b => c.S b ∨ b = g, w := c.w } := ⟨h1.ι, fun _ hb => .inl hb, fun b _ => rfl, rfl, rfl, rfl, Nat.le_refl _⟩
  have hle2 : Cx.le { c with ι := iupd c.ι id .dead } { ι := iupd c.ι id .dead, S := fun b => c.S b ∨ b = g, w := c.w } := ⟨fun _ _ hk => .inl hk, fun _ hb => .inl hb, fun b _ => rfl, rfl, rfl, rfl, Nat.le_refl _⟩
  refine ⟨⟨fun k ob hk => (H1.obj k ob hk).mono hle2 rfl (fun _ _ _ _ => rfl), H1.off, H1.inj, ?_, ?_⟩, hle⟩
  · intro k q g' hq hg'
    refine ⟨(H1.own k q g' hq hg').1, ?_⟩
    rintro (hs | rfl)
    · exact (H1.own k q g' hq hg').2 hs
    · by_cases hk : k = id
      · subst hk; replace hq : iupd c.ι k .dead k = some q := hq; rw [iupd_same] at hq; injection hq with hq; subst hq; cases hg'
      · have : c.ι k = some q := by rw [← iupd_ne c.ι .dead hk]; exact hq
        exact hk (H.inj k id q p g' this hp hg' hg)
  · rintro b (hs | rfl)
    · exact H.stab b hs
    · exact (H.own id p b hp hg).1
end Go.Av

namespace Go.Av
open Go.RowKit

abbrev Tb := Nat → Option TD

theorem add_add' (a : Addr) (i j : Nat) : (a.add i).add j = a.add (i + j) := by
  unfold Addr.add
  by_cases hi : i = 0 <;> by_cases hj : j = 0 <;> simp [hi, hj, Nat.add_assoc]
theorem add_plain' (g o j : Nat) : (⟨g, o, none⟩ : Addr).add j = ⟨g, o + j, none⟩ := by unfold Addr.add; split <;> simp_all
theorem add_zero' (a : Addr) : a.add 0 = a := by unfold Addr.add; simp

/-- The cells from an address on. -/
def At (w : World) (ad : Addr) (C : List Value) : Prop := ∀ j v, C[j]? = some v → w.cell? (ad.add j) = some v
theorem At.drop {w : World} {ad : Addr} {C : List Value} (h : At w ad C) (n : Nat) : At w (ad.add n) (C.drop n) := by
  intro j v hv
  rw [add_add']
  exact h _ v (by simpa using hv)
theorem At.take {w : World} {ad : Addr} {C : List Value} (h : At w ad C) (n : Nat) : At w ad (C.take n) := by
  intro j v hv
  refine h j v ?_
  rw [List.getElem?_take] at hv
  split at hv
  · exact hv
  · cases hv
theorem At.of_block {w : World} {g : Nat} {C : List Value} {t : TypeId} {fr : Nat × Nat} (h : w.heap[g]? = some (.cells ⟨C⟩ t fr)) (o : Nat) : At w ⟨g, o, none⟩ (C.drop o) := by
  intro j v hv
  rw [add_plain']
  simp only [World.cell?, h]
  simpa using hv
theorem RelC.at_ {c : Cx} : ∀ {cs : List AVal} {ad : Addr}, RelC c cs ad → ∃ C, RelL c cs C ∧ At c.w ad C
  | [], _, _ => ⟨[], rfl, fun j v h => by simp at h⟩
  | x :: xs, ad, h => by
    obtain ⟨y, h1, h2, h3⟩ := h
    obtain ⟨C, h4, h5⟩ := RelC.at_ h3
    refine ⟨y :: C, ⟨y, C, rfl, h2, h4⟩, ?_⟩
    intro j v hv
    cases j with
    | zero => simp at hv; subst hv; rw [add_zero']; exact h1
    | succ j =>
      have := h5 j v (by simpa using hv)
      rwa [add_add', Nat.add_comm] at this
theorem RelC.of_at {c : Cx} : ∀ {cs : List AVal} {C : List Value} {ad : Addr}, RelL c cs C → At c.w ad C → RelC c cs ad
  | [], _, _, _, _ => trivial
  | x :: xs, _, ad, h, hat => by
    obtain ⟨y, C, rfl, h1, h2⟩ := h
    refine ⟨y, by have := hat 0 y rfl; rwa [add_zero'] at this, h1, RelC.of_at h2 ?_⟩
    have := hat.drop 1
    simpa using this

/-- Element number i of what lies in a row of elements. -/
theorem RelE.cons {c : Cx} {s : Nat} {x : AVal} {xs : List AVal} {ad : Addr} (h : RelE c s (x :: xs) ad) : x.cells.length = s ∧ RelC c x.cells ad ∧ RelE c s xs (ad.add s) := by
  cases x <;> simp only [RelE] at h <;> first
    | (obtain ⟨rfl, h2, h3⟩ := h; exact ⟨rfl, h2, h3⟩)
    | (obtain ⟨rfl, ⟨y, h2, h2'⟩, h3⟩ := h; exact ⟨rfl, ⟨y, h2, h2', trivial⟩, h3⟩)
theorem RelE.of_cons {c : Cx} {s : Nat} {x : AVal} {xs : List AVal} {ad : Addr} (h1 : x.cells.length = s) (h2 : RelC c x.cells ad) (h3 : RelE c s xs (ad.add s)) : RelE c s (x :: xs) ad := by
  cases x <;> simp only [RelE] <;> first
    | exact ⟨h1, h2, h3⟩
    | (obtain ⟨y, h4, h5, _⟩ := h2; exact ⟨h1, ⟨y, h4, h5⟩, h3⟩)
theorem RelE.get {c : Cx} {s : Nat} : ∀ {xs : List AVal} {ad : Addr} {i : Nat} {x : AVal}, RelE c s xs ad → xs[i]? = some x → x.cells.length = s ∧ RelC c x.cells (ad.add (i * s))
  | [], _, _, _, _, h => by simp at h
  | x :: xs, ad, 0, _, h, hi => by
    simp at hi; subst hi
    have := h.cons
    rw [Nat.zero_mul, add_zero']
    exact ⟨this.1, this.2.1⟩
  | x :: xs, ad, i + 1, _, h, hi => by
    have := RelE.get h.cons.2.2 (by simpa using hi)
    rw [add_add'] at this
    rw [Nat.succ_mul, Nat.add_comm]
    exact this
theorem RelX.get {c : Cx} {s : Nat} : ∀ {xs : List AVal} {C : List Value} {i : Nat} {x : AVal}, RelX c s xs C → xs[i]? = some x → x.cells.length = s ∧ RelL c x.cells ((C.drop (i * s)).take s)
  | [], _, _, _, _, h => by simp at h
  | x :: xs, C, 0, _, h, hi => by
    simp at hi; subst hi
    rw [Nat.zero_mul, List.drop_zero]
    exact ⟨h.1, h.2.1⟩
  | x :: xs, C, i + 1, _, h, hi => by
    have := RelX.get h.2.2 (by simpa using hi)
    rw [List.drop_drop] at this
    rw [Nat.succ_mul, Nat.add_comm]
    exact this

section runs
variable {P : Program} {T : Tb} {t : TypeId} {td : TD}
theorem run_isAgg_td (h : tdOf P t = some td) (w : World) : (isAgg t).run P w = .ok td.agg w := by
  obtain ⟨i, d, z, _, h2, _, _, _, _, h3, _, _⟩ := tdOf_inv h
  rw [h3]
  unfold isAgg
  simp only [Sem.run_bind, run_underlying h2, Result.andThen_ok]
  cases d <;> rfl
theorem run_sizeOf_td (h : tdOf P t = some td) (w : World) : (sizeOf t).run P w = .ok td.size w := by
  obtain ⟨i, d, z, h1, h2, _, h3, _⟩ := tdOf_inv h
  rw [h3]
  simp [sizeOf, typeInfo, Sem.run_bind, h1]
theorem run_zero_td (h : tdOf P t = some td) (w : World) : ∃ z, (zeroValue t).run P w = .ok z w ∧ z.cells.toList = td.zero := by
  obtain ⟨i, d, z, h1, h2, h3, _, _, h4, _⟩ := tdOf_inv h
  exact ⟨z, by simp [zeroValue, typeInfo, Sem.run_bind, h1, h3], h4.symm⟩

def rdc (td : TD) (cs : List AVal) (off : Nat) : Option AVal :=
  if td.agg then (if off + td.size ≤ cs.length then some (.agg ((cs.drop off).take td.size)) else none) else cs[off]?

theorem run_loadVar_at {c : Cx} {ad : Addr} {C : List Value} {cs : List AVal} {v : AVal} (h : tdOf P t = some td) (hat : At c.w ad C) (hr : RelL c cs C) (off : Nat) (hv : rdc td cs off = some v) :
    ∃ y, (loadVar t (ad.add off)).run P c.w = .ok y c.w ∧ Rel c v y := by
  unfold rdc at hv
  cases hag : td.agg with
  | true =>
    rw [hag] at hv
    simp only [if_true] at hv
    split at hv
    · rename_i hl
      injection hv with hv; subst hv
      have hlen : ((C.drop off).take td.size).length = td.size := by
        have := hr.length
        simp; omega
      refine ⟨.agg ⟨(C.drop off).take td.size⟩, ?_, _, rfl, (hr.drop off).take _⟩
      unfold loadVar
      have h1 := run_loadCells_list (P := P) c.w (ad.add off) ((C.drop off).take td.size) ((hat.drop off).take _)
      rw [hlen] at h1
      simp [Sem.run_bind, run_isAgg_td h, run_sizeOf_td h, hag, h1]
    · cases hv
  | false =>
    rw [hag] at hv
    simp only [Bool.false_eq_true, if_false] at hv
    obtain ⟨y, h1, h2⟩ := hr.get hv
    refine ⟨y, ?_, h2⟩
    unfold loadVar
    simp [Sem.run_bind, run_isAgg_td h, hag, run_load, hat off y h1]

def loadA (T : Tb) (t : Nat) (a : AVal) (h : Hp) : Option AVal :=
  match T t with
  | none => none
  | some td => match a with
    | .ptr id off => match h id with
      | some (.blk _ cs) => rdc td cs off
      | _ => none
    | .rp id i j => match h id with
      | some (.row _ _ xs) => match xs[i]? with
        | some x => rdc td x.cells j
        | none => none
      | _ => none
    | .ref cs => rdc td cs 0
    | _ => none

theorem load_sim (hT : Tab P T) {c : Cx} {h : Hp} (H : HeapOK c h) {a : AVal} {y : Value} (hr : Rel c a y) {v : AVal} (he : loadA T t a h = some v) :
    ∃ z, (Instr.loadAt t y).run P c.w = .ok z c.w ∧ Rel c v z := by
  unfold loadA at he
  cases ht : T t with
  | none => simp [ht] at he
  | some td =>
    have htd := hT t td ht
    simp only [ht] at he
    cases a with
    | ptr id off =>
      simp only at he
      split at he
      · rename_i tt cs hid
        obtain ⟨g, C, h1, h2, h3⟩ := H.obj id _ hid
        simp only [Rel, h1] at hr
        subst hr
        obtain ⟨z, hz, hv⟩ := run_loadVar_at (c := c) (ad := ⟨g, 0, none⟩) htd (by simpa using At.of_block h2 0) h3 off he
        rw [add_plain', Nat.zero_add] at hz
        exact ⟨z, by simpa [Instr.loadAt, Instr.sureAddr, Sem.run_bind] using hz, hv⟩
      · cases he
    | rp id i j =>
      simp only at he
      split at he
      · rename_i tt s xs hid
        split at he
        · rename_i x hx
          rcases H.obj id _ hid with ⟨g, cap, C, h1, h2, h3, h4, h5, h6⟩ | ⟨h1, rfl⟩
          · simp only [Rel, h1] at hr
            subst hr
            obtain ⟨hl, hrl⟩ := h6.get hx
            have hat : At c.w ⟨g, i * s, none⟩ ((C.drop (i * s)).take s) := (At.of_block h2 (i * s)).take s
            obtain ⟨z, hz, hv⟩ := run_loadVar_at (c := c) htd hat hrl j he
            rw [add_plain'] at hz
            exact ⟨z, by simpa [Instr.loadAt, Instr.sureAddr, Sem.run_bind] using hz, hv⟩
          · simp at hx
        · cases he
      · cases he
    | ref cs =>
      simp only at he
      obtain ⟨ad, rfl, hS, hC⟩ := hr
      obtain ⟨C, hrl, hat⟩ := hC.at_
      obtain ⟨z, hz, hv⟩ := run_loadVar_at (c := c) htd hat hrl 0 he
      rw [add_zero'] at hz
      exact ⟨z, by simpa [Instr.loadAt, Instr.sureAddr, Sem.run_bind] using hz, hv⟩
    | _ => simp at he
end runs
end Go.Av

namespace Go.Av
open Go.RowKit

theorem setRow_other (w : World) (g b : Nat) (cs : Array Value) (h : b ≠ g) : (w.setRow g cs).heap[b]? = w.heap[b]? := by
  unfold World.setRow
  simp [Array.getElem?_modify, Ne.symm h]
theorem setRow_size (w : World) (g : Nat) (cs : Array Value) : (w.setRow g cs).heap.size = w.heap.size := by
  unfold World.setRow
  simp

/-- Cells put in the place of others. -/
def splice {α : Type} (cs : List α) (off : Nat) (new : List α) : List α := cs.take off ++ new ++ cs.drop (off + new.length)
theorem splice_length {α : Type} {cs : List α} {off : Nat} {new : List α} (h : off + new.length ≤ cs.length) : (splice cs off new).length = cs.length := by
  unfold splice; simp; omega

theorem RelL.splice {c : Cx} {cs new : List AVal} {C D : List Value} (off : Nat) (h : RelL c cs C) (h' : RelL c new D) : RelL c (splice cs off new) (splice C off D) := by
  unfold Av.splice
  rw [h'.length]
  exact ((h.take off).append h').append (h.drop _)

theorem RelX.length {c : Cx} {s : Nat} : ∀ {xs : List AVal} {C : List Value}, RelX c s xs C → xs.length * s ≤ C.length
  | [], _, _ => by simp
  | x :: xs, C, h => by
    have h1 := RelX.length h.2.2
    have h2 := h.2.1.length
    rw [h.1] at h2
    simp at h1 h2
    rw [List.length_cons, Nat.succ_mul]
    omega
theorem RelX.set {c : Cx} {s : Nat} : ∀ {xs : List AVal} {C : List Value} {i : Nat} {x : AVal} {D : List Value}, RelX c s xs C → i < xs.length → x.cells.length = s → RelL c x.cells D →
    RelX c s (xs.set i x) (Av.splice C (i * s) D)
  | [], _, _, _, _, _, hi, _, _ => by simp at hi
  | y :: ys, C, 0, x, D, h, _, hl, hd => by
    have hD : D.length = s := by rw [hd.length, hl]
    refine ⟨hl, ?_, ?_⟩
    · unfold Av.splice
      simp only [Nat.zero_mul, List.take_zero, List.nil_append]
      rw [List.take_append_of_le_length (by omega), List.take_of_length_le (by omega)]
      exact hd
    · unfold Av.splice
      simp only [Nat.zero_mul, List.take_zero, List.nil_append, Nat.zero_add]
      rw [List.drop_append_of_le_length (by omega), List.drop_of_length_le (by omega), List.nil_append, hD]
      exact h.2.2
  | y :: ys, C, i + 1, x, D, h, hi, hl, hd => by
    have hD : D.length = s := by rw [hd.length, hl]
    have hs : s ≤ C.length := by
      have := h.2.1.length; rw [h.1] at this; simp at this; omega
    have ih := RelX.set h.2.2 (i := i) (by simpa using hi) hl hd
    have e1 : (Av.splice C ((i + 1) * s) D).take s = C.take s := by
      unfold Av.splice
      rw [List.append_assoc, List.take_append_of_le_length (by simp; rw [Nat.succ_mul]; omega), List.take_take]
      rw [Nat.min_eq_left (by rw [Nat.succ_mul]; omega)]
    have e2 : (Av.splice C ((i + 1) * s) D).drop s = Av.splice (C.drop s) (i * s) D := by
      unfold Av.splice
      rw [List.append_assoc, List.drop_append, List.append_assoc]
      have : s - (C.take ((i + 1) * s)).length = 0 := by simp; rw [Nat.succ_mul]; omega
      rw [this, List.drop_zero, List.drop_take, List.drop_drop]
      rw [show (i + 1) * s - s = i * s from by rw [Nat.succ_mul]; omega, show s + (i * s + D.length) = (i + 1) * s + D.length from by rw [Nat.succ_mul]; omega]
    exact ⟨h.1, by rw [e1]; exact h.2.1, by rw [e2]; exact ih⟩

def AVal.isAgg : AVal → Bool
  | .agg _ => true
  | _ => false

/-- An element of the form of x, of other cells. -/
def ofCells (x : AVal) (cs : List AVal) : Option AVal :=
  match x with
  | .agg _ => some (.agg cs)
  | _ => match cs with
    | [y] => if y.isAgg then none else some y
    | _ => none
theorem ofCells_cells {x y : AVal} {cs : List AVal} (h : ofCells x cs = some y) : y.cells = cs := by
  unfold ofCells at h
  split at h
  · injection h with h; subst h; rfl
  · split at h
    · split at h
      · cases h
      · rename_i z hz
        injection h with h; subst h
        cases z <;> first | rfl | simp [AVal.isAgg] at hz
    · cases h

section
variable {P : Program} {T : Tb} {t : TypeId} {td : TD}

def storeA (T : Tb) (t : Nat) (a x : AVal) (h : Hp) : Option (List (Nat × AObj)) :=
  match T t with
  | none => none
  | some td =>
    if x.solid && x.cells.length == td.size then
      match a with
      | .ptr id off => match h id with
        | some (.blk tt cs) => if off + td.size ≤ cs.length then some [(id, .blk tt (splice cs off x.cells))] else none
        | _ => none
      | .rp id i j => match h id with
        | some (.row tt s xs) => match xs[i]? with
          | some y => if j + td.size ≤ y.cells.length then
              match ofCells y (splice y.cells j x.cells) with
              | some z => some [(id, .row tt s (xs.set i z))]
              | none => none
            else none
          | none => none
        | _ => none
      | _ => none
    else none

theorem run_storeVar_at (h : tdOf P t = some td) {w : World} {g o : Nat} {C : List Value} {tt : TypeId} (hb : w.heap[g]? = some (.cells ⟨C⟩ tt (0, 0))) {y : Value} (hl : y.cells.toList.length = td.size)
    (h1 : ∀ u ∈ y.cells.toList, u.oneCell' = true) (hle : o + td.size ≤ C.length) :
    (storeVar t ⟨g, o, none⟩ y).run P w = .ok () (w.setRow g ⟨splice C o y.cells.toList⟩) := by
  have e := run_storeCells_at (P := P) g o tt y.cells.toList 0 ⟨C⟩ w hb (by simp only [Nat.add_zero, hl]; exact hle) h1
  simp only [Nat.add_zero] at e
  have hsz : y.cells.size = td.size := by simpa using hl
  unfold storeVar
  simp only [Sem.run_bind, run_sizeOf_td h, Result.andThen_ok]
  rw [hsz]
  simp only [ne_eq, not_true_eq_false, if_false]
  exact e

/-- What is told of a cell is one cell. -/
theorem Rel.oneCell {c : Cx} {x : AVal} {y : Value} (h : Rel c x y) (hs : x.solid = true) (ha : x.isAgg = false) : y.oneCell' = true := by
  cases x with
  | any => simp [AVal.solid] at hs
  | tup xs => simp [AVal.solid] at hs
  | agg xs => simp [AVal.isAgg] at ha
  | v x => obtain ⟨rfl, h1⟩ := h; exact h1
  | sl xs => obtain ⟨A, k, rfl, _⟩ := h; rfl
  | ref cs => obtain ⟨ad, rfl, _⟩ := h; rfl
  | fn f cs => obtain ⟨ad, rfl, _⟩ := h; rfl
  | own id n =>
    simp only [Rel] at h
    split at h
    · exact h
    · rw [h]; rfl
    · rw [h.1]; rfl
    · exact h.elim
  | ptr id n =>
    simp only [Rel] at h
    split at h
    · exact h
    · rw [h]; rfl
    · exact h.elim
  | rp id i n =>
    simp only [Rel] at h
    split at h
    · exact h
    · rw [h]; rfl
    · exact h.elim
  | map id =>
    simp only [Rel] at h
    split at h
    · exact h
    · rw [h]; rfl
    · exact h.elim

/-- Each of these tells one cell. -/
def flat (cs : List AVal) : Bool := cs.all fun x => x.solid && !x.isAgg
theorem flat_one {c : Cx} : ∀ {cs : List AVal} {C : List Value}, flat cs = true → RelL c cs C → ∀ u ∈ C, u.oneCell' = true
  | [], _, _, h, u, hu => by cases h; simp at hu
  | x :: xs, _, hf, h, u, hu => by
    obtain ⟨y, C, rfl, h1, h2⟩ := h
    simp [flat] at hf
    rcases List.mem_cons.1 hu with rfl | hu
    · exact h1.oneCell hf.1.1 hf.1.2
    · exact flat_one (by simpa [flat] using hf.2) h2 u hu

theorem store_sim (hT : Tab P T) {c : Cx} {h : Hp} (H : HeapOK c h) {a x : AVal} {y u : Value} (hr : Rel c a y) (hx : Rel c x u) (hf : flat x.cells = true) {ws : List (Nat × AObj)} (he : storeA T t a x h = some ws) :
    ∃ w', (Instr.storeAt t y u).run P c.w = .ok () w' ∧ HeapOK { c with w := w' } (hw h ws) ∧ c.le { c with w := w' } := by
  unfold storeA at he
  cases ht : T t with
  | none => simp [ht] at he
  | some td =>
    have htd := hT t td ht
    simp only [ht] at he
    split at he
    · rename_i hs
      simp at hs
      have hcells := hx.cells hs.1
      have hlu : u.cells.toList.length = td.size := by rw [hcells.length]; exact hs.2
      have h1u := flat_one hf hcells
      cases a with
      | ptr id off =>
        simp only at he
        split at he
        · rename_i tt cs hid
          split at he
          · rename_i hle
            injection he with he; subst he
            obtain ⟨g, C, h1, h2, h3⟩ := H.obj id _ hid
            simp only [Rel, h1] at hr
            subst hr
            have hrun := run_storeVar_at (P := P) htd h2 hlu h1u (by rw [h3.length]; exact hle)
            have ht := H.turn h1 (g := g) rfl (c.w.setRow g ⟨splice C off u.cells.toList⟩) (fun b hb => setRow_other _ _ _ _ hb) (by rw [setRow_size]; exact Nat.le_refl _) rfl rfl rfl
              (.blk tt (splice cs off x.cells)) (fun hle' => ⟨g, splice C off u.cells.toList, h1, setRow_heap _ _ _ _ _ _ h2, RelL.splice off (RelL.mono hle' _ _ h3) (RelL.mono hle' _ _ hcells)⟩)
            exact ⟨_, by simpa [Instr.storeAt, Instr.sureAddr, Sem.run_bind] using hrun, ht.1, ht.2⟩
          · cases he
        · cases he
      | rp id i j =>
        simp only at he
        split at he
        · rename_i tt s xs hid
          split at he
          · rename_i e hxe
            split at he
            · rename_i hle
              split at he
              · rename_i z hz
                injection he with he; subst he
                have hzc := ofCells_cells hz
                rcases H.obj id _ hid with ⟨g, cap, C, h1, h2, h3, h4, h5, h6⟩ | ⟨h1, rfl⟩
                · simp only [Rel, h1] at hr
                  subst hr
                  obtain ⟨hel, her⟩ := h6.get hxe
                  have hil : i < xs.length := (List.getElem?_eq_some_iff.1 hxe).1
                  have hX := h6.length
                  have hCl : i * s + s ≤ C.length := by
                    have : (i + 1) * s ≤ xs.length * s := Nat.mul_le_mul_right s hil
                    rw [Nat.succ_mul] at this
                    omega
                  have hrun := run_storeVar_at (P := P) (o := i * s + j) htd h2 hlu h1u (by rw [hel] at hle; omega)
                  have hzl : z.cells.length = s := by
                    rw [hzc, splice_length (by rw [hs.2]; exact hle)]; exact hel
                  have hcomb : splice C (i * s + j) u.cells.toList = splice C (i * s) (splice ((C.drop (i * s)).take s) j u.cells.toList) := by
                    have hj : j + u.cells.toList.length ≤ s := by rw [hlu]; rw [hel] at hle; exact hle
                    have e0 : (splice ((C.drop (i * s)).take s) j u.cells.toList).length = s := by
                      rw [splice_length (by simp at hj ⊢; omega)]; simp; omega
                    unfold splice at e0 ⊢
                    rw [e0]
                    rw [List.take_take, Nat.min_eq_left (by omega), List.take_add, List.drop_take, List.drop_drop]
                    simp only [List.append_assoc]
                    congr 3
                    rw [← Nat.add_assoc]
                    have e1 : C.drop (i * s + j + u.cells.toList.length) = (C.drop (i * s + (j + u.cells.toList.length))).take (s - (j + u.cells.toList.length)) ++ C.drop (i * s + s) := by
                      have := (List.take_append_drop (s - (j + u.cells.toList.length)) (C.drop (i * s + (j + u.cells.toList.length)))).symm
                      rw [List.drop_drop] at this
                      rw [show i * s + (j + u.cells.toList.length) + (s - (j + u.cells.toList.length)) = i * s + s from by omega] at this
                      rw [← this, Nat.add_assoc]
                    simpa only [Nat.add_assoc] using e1
                  have ht := H.turn h1 (g := g) rfl (c.w.setRow g ⟨splice C (i * s + j) u.cells.toList⟩) (fun b hb => setRow_other _ _ _ _ hb) (by rw [setRow_size]; exact Nat.le_refl _) rfl rfl rfl
                    (.row tt s (xs.set i z)) (fun hle' => .inl ⟨g, cap, splice C (i * s + j) u.cells.toList, h1, setRow_heap _ _ _ _ _ _ h2,
                      by rw [splice_length (by rw [hlu]; rw [hel] at hle; omega)]; exact h3, by simpa using h4, h5, by
                        have q := RelX.set (RelX.mono hle' _ _ _ h6) hil hzl (D := splice ((C.drop (i * s)).take s) j u.cells.toList) (by
                          rw [hzc]
                          exact RelL.splice j (RelL.mono hle' _ _ her) (RelL.mono hle' _ _ hcells))
                        rw [← hcomb] at q
                        exact q⟩)
                  exact ⟨_, by simpa [Instr.storeAt, Instr.sureAddr, Sem.run_bind] using hrun, ht.1, ht.2⟩
                · simp at hxe
              · cases he
            · cases he
          · cases he
        · cases he
      | _ => simp at he
    · cases he
end
end Go.Av

namespace Go.Av
open Go.RowKit

section
variable {P : Program} {T : Tb}

/-! ### New variables -/
theorem alloc_sim {c : Cx} {h : Hp} (H : HeapOK c h) {t id : Nat} {td : TD} (ht : tdOf P t = some td) (hn : h id = none) (hz : td.zero.all Value.oneCell' = true) :
    ∃ w', (Instr.alloc t true (.tuple #[])).run P c.w = .ok (.pointer (some ⟨c.w.heap.size, 0, none⟩)) w' ∧
      HeapOK { ι := iupd c.ι id (.blk c.w.heap.size), S := c.S, w := w' } (hupd h id (.blk t (td.zero.map .v))) ∧ c.le { ι := iupd c.ι id (.blk c.w.heap.size), S := c.S, w := w' } := by
  obtain ⟨z, h1, h2⟩ := run_zero_td ht c.w
  have hh := H.new hn (.cells ⟨td.zero⟩ t) (.blk c.w.heap.size) rfl (.blk t (td.zero.map .v)) (fun _ => ⟨_, td.zero, iupd_same _ _ _, heap_alloc_new _ _, RelL.vals _ _ hz⟩)
  refine ⟨c.w.alloc (.cells ⟨td.zero⟩ t), ?_, hh⟩
  have e : z.cells = ⟨td.zero⟩ := by rw [← h2]
  simp only [Instr.alloc, Sem.run_bind, h1, Result.andThen_ok, newVar, newRow, run_newObj_alloc, Sem.run_pure, e]

theorem box_sim {c : Cx} {h : Hp} (H : HeapOK c h) {t id : Nat} {x : AVal} {u : Value} (hx : Rel c x u) (hs : x.solid = true) (hn : h id = none) :
    ∃ w', (Instr.box t u).run P c.w = .ok (.pointer (some ⟨c.w.heap.size, 0, none⟩)) w' ∧
      HeapOK { ι := iupd c.ι id (.blk c.w.heap.size), S := c.S, w := w' } (hupd h id (.blk t x.cells)) ∧ c.le { ι := iupd c.ι id (.blk c.w.heap.size), S := c.S, w := w' } := by
  have hh := H.new hn (.cells u.cells t) (.blk c.w.heap.size) rfl (.blk t x.cells) (fun hle => ⟨_, u.cells.toList, iupd_same _ _ _, heap_alloc_new _ _, RelL.mono hle _ _ (hx.cells hs)⟩)
  refine ⟨c.w.alloc (.cells u.cells t), ?_, hh⟩
  simp only [Instr.box, Sem.run_bind, newVar, newRow, run_newObj_alloc, Result.andThen_ok, Sem.run_pure]

/-! ### Addresses -/
theorem RelC.drop {c : Cx} : ∀ {cs : List AVal} {ad : Addr} (n : Nat), RelC c cs ad → RelC c (cs.drop n) (ad.add n)
  | cs, ad, 0, h => by rw [add_zero']; simpa using h
  | [], _, n + 1, _ => trivial
  | x :: xs, ad, n + 1, h => by
    obtain ⟨y, _, _, h3⟩ := h
    have := RelC.drop n h3
    rw [add_add', Nat.add_comm] at this
    simpa using this

def fieldAddrA (T : Tb) (t : Nat) (a : AVal) (j : Nat) (h : Hp) : Option AVal :=
  match T t with
  | none => none
  | some td => match td.fl[j]? with
    | some (off, sz, _) => if sz = 0 then none else match a with
      | .ptr id o => match h id with
        | some (.blk _ _) => some (.ptr id (o + off))
        | _ => none
      | .rp id i o => match h id with
        | some (.row _ _ _) => some (.rp id i (o + off))
        | _ => none
      | .ref cs => some (.ref (cs.drop off))
      | _ => none
    | none => none

theorem fieldAt_run {t j off sz : Nat} {ag : Bool} {td : TD} (ht : tdOf P t = some td) (hj : td.fl[j]? = some (off, sz, ag)) (hsz : sz ≠ 0) (w : World) (a : Addr) :
    (Instr.fieldAt t (.pointer (some a)) j).run P w = .ok (.pointer (some (a.add off))) w := by
  obtain ⟨fs, f, h1, h2, h3, h4, h5⟩ := td_struct ht hj
  have hu : (P.underlying f.type).isSome = true := by
    cases hu : (P.underlying f.type).isSome with
    | true => rfl
    | false => rw [hu] at h4; simp at h4; exact absurd h4.symm hsz
  rw [hu] at h4
  simp only [if_true] at h4
  have hi : ∃ i, P.info? f.type = some i ∧ i.size = sz := by
    cases hi : P.info? f.type with
    | none => rw [hi] at h4; simp at h4; exact absurd h4.symm hsz
    | some i => exact ⟨i, rfl, by rw [hi] at h4; simpa using h4⟩
  obtain ⟨i, hi, his⟩ := hi
  have hs : (sizeOf f.type).run P w = .ok sz w := by
    simp [sizeOf, typeInfo, Sem.run_bind, hi, his]
  simp only [Instr.fieldAt, Sem.run_bind, run_underlying h1, Result.andThen_ok, h2, Instr.sureAddr, Sem.run_pure, fieldPlace, hs, if_neg hsz, h3]

theorem fieldAddr_sim (hT : Tab P T) {c : Cx} {h : Hp} (H : HeapOK c h) {t j : Nat} {a v : AVal} {y : Value} (hr : Rel c a y) (he : fieldAddrA T t a j h = some v) :
    ∃ z, (Instr.fieldAt t y j).run P c.w = .ok z c.w ∧ Rel c v z := by
  unfold fieldAddrA at he
  cases ht : T t with
  | none => simp [ht] at he
  | some td =>
    have htd := hT t td ht
    simp only [ht] at he
    split at he
    · rename_i off sz ag hj
      split at he
      · cases he
      · rename_i hsz
        cases a with
        | ptr id o =>
          simp only at he
          split at he
          · rename_i tt cs hid
            injection he with he; subst he
            obtain ⟨g, C, h1, h2, h3⟩ := H.obj id _ hid
            simp only [Rel, h1] at hr
            subst hr
            exact ⟨_, fieldAt_run htd hj hsz _ _, by simp only [Rel, h1, add_plain']⟩
          · cases he
        | rp id i o =>
          simp only at he
          split at he
          · rename_i tt s xs hid
            injection he with he; subst he
            rcases H.obj id _ hid with ⟨g, cap, C, h1, _⟩ | ⟨h1, h0⟩
            · simp only [Rel, h1] at hr
              subst hr
              exact ⟨_, fieldAt_run htd hj hsz _ _, by simp only [Rel, h1, add_plain', Nat.add_assoc]⟩
            · simp only [Rel, h1] at hr
          · cases he
        | ref cs =>
          simp only [Option.some.injEq] at he
          subst he
          obtain ⟨ad, rfl, hS, hC⟩ := hr
          exact ⟨_, fieldAt_run htd hj hsz _ _, ad.add off, rfl, by rw [add_block]; exact hS, hC.drop off⟩
        | _ => simp at he
    · cases he

def indexAddrA (T : Tb) (t : Nat) (a i : AVal) (h : Hp) : Option AVal :=
  match T t with
  | none => none
  | some td => match i with
    | .v (.int _ n) => match td.kind with
      | .slice e => match T e with
        | none => none
        | some te => match a with
          | .own id m => match h id with
            | some (.row _ s xs) => if 0 ≤ n ∧ n < (m : Int) ∧ s = te.size ∧ n.toNat < xs.length then some (.rp id n.toNat 0) else none
            | _ => none
          | .sl xs => if 0 ≤ n then match xs[n.toNat]? with
              | some x => if x.cells.length = te.size then some (.ref x.cells) else none
              | none => none
            else none
          | _ => none
      | .array m e => match T e with
        | none => none
        | some te => match a with
          | .ptr id o => match h id with
            | some (.blk _ _) => if 0 ≤ n ∧ n < (m : Int) then some (.ptr id (o + n.toNat * te.size)) else none
            | _ => none
          | _ => none
      | _ => none
    | _ => none

theorem asIntOf_run (w : World) (k : IntKind) (n : Int) : (asIntOf (.int k n)).run P w = .ok (k, n) w := by
  simp [asIntOf, Sem.run_pure]

theorem indexAt_slice_run {t e : Nat} {td te : TD} (ht : tdOf P t = some td) (hk : td.kind = .slice e) (hte : tdOf P e = some te) (w : World) (ad : Addr) (len cap : Nat) (k : IntKind) (n : Int) (h0 : 0 ≤ n) (h1 : n < (len : Int)) :
    (Instr.indexAt t (.slice (some ad) len cap) (.int k n)).run P w = .ok (.pointer (some (ad.add (n.toNat * te.size)))) w := by
  have hu := td_slice ht hk
  have hs := run_sizeOf_td hte w
  simp only [Instr.indexAt, Sem.run_bind, asIntOf_run, Result.andThen_ok, run_underlying hu, Sem.run_pure]
  simp [h0, h1, hs]

theorem indexAt_array_run {t m e : Nat} {td te : TD} (ht : tdOf P t = some td) (hk : td.kind = .array m e) (hte : tdOf P e = some te) (w : World) (ad : Addr) (k : IntKind) (n : Int) (h0 : 0 ≤ n) (h1 : n < (m : Int)) :
    (Instr.indexAt t (.pointer (some ad)) (.int k n)).run P w = .ok (.pointer (some (ad.add (n.toNat * te.size)))) w := by
  have hu := td_array ht hk
  have hs := run_sizeOf_td hte w
  simp only [Instr.indexAt, Sem.run_bind, asIntOf_run, Result.andThen_ok, run_underlying hu, Sem.run_pure, Instr.sureAddr]
  simp [h0, h1, hs]

theorem indexAddr_sim (hT : Tab P T) {c : Cx} {h : Hp} (H : HeapOK c h) {t : Nat} {a i v : AVal} {y u : Value} (hr : Rel c a y) (hi : Rel c i u) (he : indexAddrA T t a i h = some v) :
    ∃ z, (Instr.indexAt t y u).run P c.w = .ok z c.w ∧ Rel c v z := by
  unfold indexAddrA at he
  cases ht : T t with
  | none => simp [ht] at he
  | some td =>
    have htd := hT t td ht
    simp only [ht] at he
    split at he
    · rename_i k n
      obtain ⟨rfl, _⟩ := hi
      split at he
      · rename_i e hk
        cases hte0 : T e with
        | none => simp [hte0] at he
        | some te =>
          have hte := hT e te hte0
          simp only [hte0] at he
          cases a with
          | own id m =>
            simp only at he
            split at he
            · rename_i tt s xs hid
              split at he
              · rename_i hc
                injection he with he; subst he
                rcases H.obj id _ hid with ⟨g, cap, C, h1, _⟩ | ⟨_, h0⟩
                · simp only [Rel, h1] at hr
                  subst hr
                  exact ⟨_, indexAt_slice_run htd hk hte _ _ _ _ _ _ hc.1 hc.2.1, by simp only [Rel, h1, add_plain', Nat.zero_add, Nat.add_zero, hc.2.2.1]⟩
                · subst h0; simp at hc
              · cases he
            · cases he
          | sl xs =>
            simp only at he
            split at he
            · rename_i h0
              split at he
              · rename_i x hx
                split at he
                · rename_i hl
                  injection he with he; subst he
                  have hlt : n.toNat < xs.length := (List.getElem?_eq_some_iff.1 hx).1
                  obtain ⟨A, cap, rfl, h2, h3, h4⟩ := hr
                  obtain ⟨ad, s, rfl, hS, hE⟩ := h4 (by omega)
                  obtain ⟨h5, h6⟩ := hE.get hx
                  refine ⟨_, indexAt_slice_run htd hk hte _ _ _ _ _ _ h0 (by omega), _, rfl, by rw [add_block]; exact hS, ?_⟩
                  rw [← hl, h5]; exact h6
                · cases he
              · cases he
            · cases he
          | _ => simp at he
      · rename_i m e hk
        cases hte0 : T e with
        | none => simp [hte0] at he
        | some te =>
          have hte := hT e te hte0
          simp only [hte0] at he
          cases a with
          | ptr id o =>
            simp only at he
            split at he
            · rename_i tt cs hid
              split at he
              · rename_i hc
                injection he with he; subst he
                obtain ⟨g, C, h1, h2, h3⟩ := H.obj id _ hid
                simp only [Rel, h1] at hr
                subst hr
                exact ⟨_, indexAt_array_run htd hk hte _ _ _ _ hc.1 hc.2, by simp only [Rel, h1, add_plain']⟩
              · cases he
            · cases he
          | _ => simp at he
      · cases he
    · cases he

/-! ### Parts of values -/
def partA (sz : Nat) (ag : Bool) (cs : List AVal) (off : Nat) : Option AVal :=
  if ag then (if off + sz ≤ cs.length then some (.agg ((cs.drop off).take sz)) else none) else cs[off]?

def fieldA (T : Tb) (t : Nat) (a : AVal) (j : Nat) : Option AVal :=
  match T t with
  | none => none
  | some td => match td.fl[j]? with
    | some (off, sz, ag) => if sz = 0 then none else match a with
      | .agg cs => partA sz ag cs off
      | _ => none
    | none => none

theorem part_run {e : Nat} {sz : Nat} {ag : Bool} (h1 : (if (P.underlying e).isSome then ((P.info? e).map (·.size)).getD 0 else 0) = sz) (h2 : ((P.underlying e).map aggD).getD false = ag) (hsz : sz ≠ 0) {c : Cx} {cs : List AVal} {C : List Value} (hr : RelL c cs C) {off : Nat} {v : AVal} (he : partA sz ag cs off = some v) :
    ∃ z, (part e ⟨C⟩ off).run P c.w = .ok z c.w ∧ Rel c v z := by
  have hu : (P.underlying e).isSome = true := by
    cases hu : (P.underlying e).isSome with
    | true => rfl
    | false => rw [hu] at h1; simp at h1; exact absurd h1.symm hsz
  rw [hu] at h1
  simp only [if_true] at h1
  obtain ⟨d, hd⟩ := Option.isSome_iff_exists.1 hu
  rw [hd] at h2
  have hi : ∃ i, P.info? e = some i ∧ i.size = sz := by
    cases hi : P.info? e with
    | none => rw [hi] at h1; simp at h1; exact absurd h1.symm hsz
    | some i => exact ⟨i, rfl, by rw [hi] at h1; simpa using h1⟩
  obtain ⟨i, hi, his⟩ := hi
  have hs : (sizeOf e).run P c.w = .ok sz c.w := by simp [sizeOf, typeInfo, Sem.run_bind, hi, his]
  have hag : (isAgg e).run P c.w = .ok ag c.w := by
    rw [← h2]
    unfold isAgg
    simp only [Sem.run_bind, run_underlying hd, Result.andThen_ok]
    cases d <;> rfl
  unfold partA at he
  cases ag with
  | true =>
    simp only [if_true] at he
    split at he
    · rename_i hl
      injection he with he; subst he
      refine ⟨.agg ⟨(C.drop off).take sz⟩, ?_, _, rfl, (hr.drop off).take _⟩
      simp only [part, Sem.run_bind, hag, Result.andThen_ok, if_true, hs, Sem.run_pure]
      congr 2
      apply Array.ext'
      simp
    · cases he
  | false =>
    simp only [Bool.false_eq_true, if_false] at he
    obtain ⟨y, h3, h4⟩ := hr.get he
    refine ⟨y, ?_, h4⟩
    simp only [part, Sem.run_bind, hag, Result.andThen_ok, Bool.false_eq_true, if_false]
    simp [h3, Sem.run_pure]

theorem field_sim (hT : Tab P T) {c : Cx} {t j : Nat} {a v : AVal} {y : Value} (hr : Rel c a y) (he : fieldA T t a j = some v) :
    ∃ z, (Instr.field t y j).run P c.w = .ok z c.w ∧ Rel c v z := by
  unfold fieldA at he
  cases ht : T t with
  | none => simp [ht] at he
  | some td =>
    have htd := hT t td ht
    simp only [ht] at he
    split at he
    · rename_i off sz ag hj
      split at he
      · cases he
      · rename_i hsz
        cases a with
        | agg cs =>
          obtain ⟨C, rfl, hC⟩ := hr
          obtain ⟨fs, f, h1, h2, h3, h4, h5⟩ := td_struct htd hj
          obtain ⟨z, hz, hv⟩ := part_run h4 h5 hsz hC he
          exact ⟨z, by simp only [Instr.field, Sem.run_bind, run_underlying h1, Result.andThen_ok, h2, asAgg, Sem.run_pure, h3]; exact hz, hv⟩
        | _ => simp at he
    · cases he

/-- Element i of an array's value. -/
def indexA (T : Tb) (t : Nat) (a i : AVal) : Option AVal :=
  match T t with
  | none => none
  | some td => match i, td.kind, a with
    | .v (.int _ n), .array m e, .agg cs => match T e with
      | some te => if 0 ≤ n ∧ n < (m : Int) then partA te.size te.agg cs (n.toNat * te.size) else none
      | none => none
    | _, _, _ => none

theorem part_run_td {e : Nat} {te : TD} (h : tdOf P e = some te) {c : Cx} {cs : List AVal} {C : List Value} (hr : RelL c cs C) {off : Nat} {v : AVal} (he : partA te.size te.agg cs off = some v) :
    ∃ z, (part e ⟨C⟩ off).run P c.w = .ok z c.w ∧ Rel c v z := by
  have hs := run_sizeOf_td h c.w
  have hag := run_isAgg_td h c.w
  unfold partA at he
  cases hg : te.agg with
  | true =>
    rw [hg] at he hag
    simp only [if_true] at he
    split at he
    · injection he with he; subst he
      refine ⟨.agg ⟨(C.drop off).take te.size⟩, ?_, _, rfl, (hr.drop off).take _⟩
      simp only [part, Sem.run_bind, hag, Result.andThen_ok, if_true, hs, Sem.run_pure]
      congr 2
      apply Array.ext'
      simp
    · cases he
  | false =>
    rw [hg] at he hag
    simp only [Bool.false_eq_true, if_false] at he
    obtain ⟨y, h3, h4⟩ := hr.get he
    refine ⟨y, ?_, h4⟩
    simp only [part, Sem.run_bind, hag, Result.andThen_ok, Bool.false_eq_true, if_false]
    simp [h3, Sem.run_pure]

theorem index_sim (hT : Tab P T) {c : Cx} {t : Nat} {a i v : AVal} {y u : Value} (hr : Rel c a y) (hi : Rel c i u) (he : indexA T t a i = some v) :
    ∃ z, (Instr.index t y u).run P c.w = .ok z c.w ∧ Rel c v z := by
  unfold indexA at he
  cases ht : T t with
  | none => simp [ht] at he
  | some td =>
    have htd := hT t td ht
    simp only [ht] at he
    split at he
    · rename_i k n m e cs hk
      obtain ⟨rfl, _⟩ := hi
      obtain ⟨C, rfl, hC⟩ := hr
      split at he
      · rename_i te hte0
        have hte := hT e te hte0
        split at he
        · rename_i hc
          obtain ⟨z, hz, hv⟩ := part_run_td hte hC he
          refine ⟨z, ?_, hv⟩
          have hu := td_array htd hk
          simp only [Instr.index, Sem.run_bind, asIntOf_run, Result.andThen_ok, run_underlying hu]
          rw [if_pos hc]
          simp only [Sem.run_bind, run_sizeOf_td hte, Result.andThen_ok]
          exact hz
        · cases he
      · cases he
    · cases he
end
end Go.Av

namespace Go.Av
open Go.RowKit

section
variable {P : Program} {T : Tb}

def intBits' (op : BinOp) (k : IntKind) (x y : Int) : Int :=
  let a := BitVec.ofInt k.bits x
  let b := BitVec.ofInt k.bits y
  match op with
  | .and => k.wrap (a &&& b).toNat
  | .or => k.wrap (a ||| b).toNat
  | .xor => k.wrap (a ^^^ b).toNat
  | _ => k.wrap (a &&& ~~~b).toNat

def intBin (op : BinOp) (k : IntKind) (a b : Int) : Option Value :=
  match op with
  | .add => some (.int k (k.wrap (a + b)))
  | .sub => some (.int k (k.wrap (a - b)))
  | .mul => some (.int k (k.wrap (a * b)))
  | .eql => some (.bool (a == b))
  | .neq => some (.bool (a != b))
  | .lss => some (.bool (decide (a < b)))
  | .leq => some (.bool (decide (a ≤ b)))
  | .gtr => some (.bool (decide (a > b)))
  | .geq => some (.bool (decide (a ≥ b)))
  | .and => some (.int k (intBits' .and k a b))
  | .or => some (.int k (intBits' .or k a b))
  | .xor => some (.int k (intBits' .xor k a b))
  | .andNot => some (.int k (intBits' .andNot k a b))
  | .quo => if b = 0 then none else some (.int k (k.wrap (a.tdiv b)))
  | .rem => if b = 0 then none else some (.int k (a.tmod b))
  | .shl => if b < 0 then none else some (.int k (k.wrap (a * 2 ^ (min b.toNat k.bits))))
  | .shr => if b < 0 then none else some (.int k (a.fdiv (2 ^ (min b.toNat k.bits))))

theorem binOp_int_run {op : BinOp} {t : Nat} {k : IntKind} {a b : Int} {v : Value} (he : intBin op k a b = some v) (w : World) : (binOp op t (.int k a) (.int k b)).run P w = .ok v w := by
  cases op <;> simp only [intBin] at he <;> first
    | (injection he with he; subst he; simp [binOp, Op.intArith, Op.intCmp, Op.intBits, intBits', Sem.run_pure]; done)
    | (split at he
       · cases he
       · rename_i hb
         injection he with he; subst he
         simp [binOp, Op.intDiv, Op.shift, hb, Sem.run_pure])
    | cases he

theorem eqGuard_scalar {op : BinOp} {t : Nat} {x y : Operand} {a b : Value} (ha : a.oneCell' = true) (hb : a ≠ .nilIface) (w : World) : (eqGuard op t x y a b).run P w = .ok () w := by
  unfold eqGuard
  cases op <;> cases a <;> first | rfl | exact absurd rfl hb | simp [Value.oneCell'] at ha

/-- The kinds of a comparable struct's cells (none: a bool), where '==' is told cell by cell. -/
abbrev Eq' := Nat → Option (List (Option IntKind))
def kindsOK : List (Option IntKind) → List Value → Prop
  | [], xs => xs = []
  | some k :: ks, xs => ∃ n xs', xs = .int k n :: xs' ∧ kindsOK ks xs'
  | none :: ks, xs => ∃ b xs', xs = .bool b :: xs' ∧ kindsOK ks xs'
def cellEq : Value → Value → Bool
  | .int _ a, .int _ b => a == b
  | .bool a, .bool b => a == b
  | _, _ => false
def cellsEq : List Value → List Value → Bool
  | x :: xs, y :: ys => cellEq x y && cellsEq xs ys
  | _, _ => true
def Eqs (P : Program) (E : Eq') : Prop := ∀ t ks, E t = some ks → ∀ xs ys, kindsOK ks xs → kindsOK ks ys → ∀ (op : BinOp) (x y : Operand) (w : World),
  (eqGuard op t x y (.agg ⟨xs⟩) (.agg ⟨ys⟩)).run P w = .ok () w ∧ (Op.equal t (.agg ⟨xs⟩) (.agg ⟨ys⟩)).run P w = .ok (cellsEq xs ys) w

/-- Cells that are all plain numbers and bools of these kinds, as values. -/
def plainCells : List (Option IntKind) → List AVal → Option (List Value)
  | [], xs => match xs with
    | [] => some []
    | _ => none
  | k :: ks, xs => match xs with
    | [] => none
    | x :: xs => match k, x with
      | some k, .v (.int k' n) => if k = k' then (plainCells ks xs).map (.int k n :: ·) else none
      | none, .v (.bool b) => (plainCells ks xs).map (.bool b :: ·)
      | _, _ => none
theorem plainCells_ok {c : Cx} : ∀ {ks : List (Option IntKind)} {xs : List AVal} {C : List Value} {vs : List Value}, plainCells ks xs = some vs → RelL c xs C → C = vs ∧ kindsOK ks vs
  | [], xs, C, vs, h, hr => by
    cases xs with
    | nil => simp [plainCells] at h; subst h; cases hr; exact ⟨rfl, rfl⟩
    | cons x xs => simp [plainCells] at h
  | k :: ks, xs, C, vs, h, hr => by
    cases xs with
    | nil => simp [plainCells] at h
    | cons x xs =>
      obtain ⟨y, C, rfl, h1, h2⟩ := hr
      simp only [plainCells] at h
      split at h
      · rename_i k0 k' n
        split at h
        · rename_i hk
          subst hk
          cases hp : plainCells ks xs with
          | none => simp [hp] at h
          | some us =>
            simp [hp] at h
            subst h
            obtain ⟨rfl, h5⟩ := plainCells_ok hp h2
            obtain ⟨rfl, _⟩ := h1
            exact ⟨rfl, _, _, rfl, h5⟩
        · cases h
      · cases hp : plainCells ks xs with
        | none => simp [hp] at h
        | some us =>
          simp [hp] at h
          subst h
          obtain ⟨rfl, h5⟩ := plainCells_ok hp h2
          obtain ⟨rfl, _⟩ := h1
          exact ⟨rfl, _, _, rfl, h5⟩
      · cases h

def alive (h : Hp) : AVal → Bool
  | .ptr id _ => match h id with | some (.blk _ _) => true | _ => false
  | .rp id _ _ => match h id with | some (.row _ _ _) => true | _ => false
  | .ref _ => true
  | _ => false

def eqlA (T : Tb) (E : Eq') (t : Nat) (x y : AVal) (h : Hp) : Option Bool :=
  match T t with
  | none => none
  | some td => match x, y with
    | .v (.bool a), .v (.bool b) => if td.kind = .bool then some (a == b) else none
    | .agg xs, .agg ys => match E t with
      | some ks => match plainCells ks xs, plainCells ks ys with
        | some us, some vs => some (cellsEq us vs)
        | _, _ => none
      | none => none
    | x, .v (.pointer none) => match td.kind with
      | .pointer _ => if alive h x then some false else match x with
        | .v (.pointer none) => some true
        | _ => none
      | _ => none
    | .rp id i 0, .rp id' i' 0 => match td.kind with
      | .pointer e => match T e with
        | some te => if id = id' ∧ 0 < te.size then match h id with
            | some (.row _ s (_ :: _)) => if 0 < s then some (decide (i = i')) else none
            | _ => none
          else none
        | none => none
      | _ => none
    | .v (.slice a _ _), .v (.slice none 0 0) => match td.kind with
      | .slice _ => some a.isNone
      | _ => none
    | .sl (_ :: _), .v (.slice none 0 0) => match td.kind with
      | .slice _ => some false
      | _ => none
    | .own id _, .v (.slice none 0 0) => match td.kind, h id with
      | .slice _, some (.row _ _ (_ :: _)) => some false
      | _, _ => none
    | _, _ => none

theorem equal_run (_ : Nat) (t : TypeId) (x y : Value) : Op.equal t x y = Op.equalIn (9999 + 1) t x y := rfl

theorem alive_rel {c : Cx} {h : Hp} (H : HeapOK c h) {x : AVal} {y : Value} (ha : alive h x = true) (hr : Rel c x y) : ∃ ad, y = .pointer (some ad) := by
  cases x with
  | ptr id o =>
    simp only [alive] at ha
    split at ha
    · rename_i tt cs hid
      obtain ⟨g, C, h1, _⟩ := H.obj id _ hid
      simp only [Rel, h1] at hr
      exact ⟨_, hr⟩
    · cases ha
  | rp id i o =>
    simp only [alive] at ha
    split at ha
    · rename_i tt s zs hid
      rcases H.obj id _ hid with ⟨g, cap, C, h1, _⟩ | ⟨h1, h0⟩
      · simp only [Rel, h1] at hr
        exact ⟨_, hr⟩
      · simp only [Rel, h1] at hr
    · cases ha
  | ref cs => obtain ⟨ad, rfl, _⟩ := hr; exact ⟨ad, rfl⟩
  | _ => simp [alive] at ha

def plainEq : Value → Bool
  | .bool _ => true
  | .pointer _ => true
  | .slice _ _ _ => true
  | .agg _ => true
  | _ => false

theorem eql_sim (hT : Tab P T) {E : Eq'} (hE : Eqs P E) {c : Cx} {h : Hp} (H : HeapOK c h) {t : Nat} {x y : AVal} {a b : Value} (hx : Rel c x a) (hy : Rel c y b) {r : Bool} (he : eqlA T E t x y h = some r) (op : BinOp) (ox oy : Operand) :
    (eqGuard op t ox oy a b).run P c.w = .ok () c.w ∧ (Op.equal t a b).run P c.w = .ok r c.w ∧ plainEq a = true := by
  unfold eqlA at he
  cases ht : T t with
  | none => simp [ht] at he
  | some td =>
    have htd := hT t td ht
    simp only [ht] at he
    split at he
    · -- bools
      rename_i a' b'
      obtain ⟨rfl, _⟩ := hx
      obtain ⟨rfl, _⟩ := hy
      split at he
      · rename_i hk
        injection he with he; subst he
        refine ⟨eqGuard_scalar rfl (by simp) _, ?_, rfl⟩
        rw [equal_run 0, Op.equalIn]
        simp [Sem.run_bind, run_underlying (td_bool htd hk), Sem.run_pure]
      · cases he
    · -- structs
      rename_i xs ys
      obtain ⟨C, rfl, hC⟩ := hx
      obtain ⟨D, rfl, hD⟩ := hy
      split at he
      · rename_i ks hks
        split at he
        · rename_i us vs hu hv
          injection he with he; subst he
          obtain ⟨rfl, h1⟩ := plainCells_ok hu hC
          obtain ⟨rfl, h2⟩ := plainCells_ok hv hD
          have := hE t ks hks _ _ h1 h2 op ox oy c.w
          exact ⟨this.1, this.2, rfl⟩
        · cases he
      · cases he
    · -- a pointer against nil
      obtain ⟨rfl, _⟩ := hy
      split at he
      · rename_i e hk
        have hu := td_pointer htd hk
        split at he
        · rename_i hal
          injection he with he; subst he
          obtain ⟨ad, rfl⟩ := alive_rel H hal hx
          refine ⟨eqGuard_scalar rfl (by simp) _, ?_, rfl⟩
          rw [equal_run 0, Op.equalIn]
          simp [Sem.run_bind, run_underlying hu, Sem.run_pure]
        · split at he
          · injection he with he; subst he
            obtain ⟨rfl, _⟩ := hx
            refine ⟨eqGuard_scalar rfl (by simp) _, ?_, rfl⟩
            rw [equal_run 0, Op.equalIn]
            simp [Sem.run_bind, run_underlying hu, Sem.run_pure]
          · cases he
      · cases he
    · -- two pointers into one row
      rename_i id i id' i'
      split at he
      · rename_i e hk
        have hu := td_pointer htd hk
        split at he
        · rename_i te hte0
          have hte := hT e te hte0
          split at he
          · rename_i hid
            obtain ⟨rfl, hsz⟩ := hid
            split at he
            · rename_i tt s z zs hobj
              split at he
              · rename_i hs
                injection he with he; subst he
                rcases H.obj id _ hobj with ⟨g, cap, C, h1, _⟩ | ⟨_, h0⟩
                · simp only [Rel, h1] at hx hy
                  subst hx; subst hy
                  refine ⟨eqGuard_scalar rfl (by simp) _, ?_, rfl⟩
                  rw [equal_run 0, Op.equalIn]
                  have hz : (sizeOf e).run P c.w = .ok te.size c.w := run_sizeOf_td hte _
                  simp only [Sem.run_bind, run_underlying hu, Result.andThen_ok, hz]
                  rw [if_pos (by omega)]
                  simp only [sameAddr, beq_self_eq_true, if_true]
                  simp only [pure, Sem.run, Nat.add_zero]
                  congr 1
                  by_cases hi : i = i'
                  · subst hi; simp
                  · have : i * s ≠ i' * s := fun e => hi (Nat.eq_of_mul_eq_mul_right hs e)
                    simp [hi]
                · cases h0
              · cases he
            · cases he
          · cases he
        · cases he
      · cases he
    · rename_i a ln cp
      obtain ⟨rfl, _⟩ := hx
      obtain ⟨rfl, _⟩ := hy
      split at he
      · rename_i e hk
        injection he with he; subst he
        refine ⟨eqGuard_scalar rfl (by simp) _, ?_, rfl⟩
        rw [equal_run 0, Op.equalIn]
        cases a <;> simp [Sem.run_bind, run_underlying (td_slice htd hk), Sem.run_pure]
      · cases he
    · obtain ⟨A, k, rfl, _, _, h4⟩ := hx
      obtain ⟨ad, s', rfl, _⟩ := h4 (by simp)
      obtain ⟨rfl, _⟩ := hy
      split at he
      · rename_i e hk
        injection he with he; subst he
        refine ⟨eqGuard_scalar rfl (by simp) _, ?_, rfl⟩
        rw [equal_run 0, Op.equalIn]
        simp [Sem.run_bind, run_underlying (td_slice htd hk), Sem.run_pure]
      · cases he
    · rename_i id n
      obtain ⟨rfl, _⟩ := hy
      split at he
      · rename_i e tt s z zs hk hobj
        injection he with he; subst he
        rcases H.obj id _ hobj with ⟨g, cap, C, h1, _⟩ | ⟨_, h0⟩
        · simp only [Rel, h1] at hx
          subst hx
          refine ⟨eqGuard_scalar rfl (by simp) _, ?_, rfl⟩
          rw [equal_run 0, Op.equalIn]
          simp [Sem.run_bind, run_underlying (td_slice htd hk), Sem.run_pure]
        · cases h0
      · cases he
    · cases he

def binA (T : Tb) (E : Eq') (op : BinOp) (t : Nat) (x y : AVal) (h : Hp) : Option AVal :=
  match x, y with
  | .v (.int k a), .v (.int k' b) => if k = k' then (intBin op k a b).map .v else none
  | x, y => match op with
    | .eql => (eqlA T E t x y h).map fun b => .v (.bool b)
    | .neq => (eqlA T E t x y h).map fun b => .v (.bool (!b))
    | _ => none

theorem bin_sim (hT : Tab P T) {E : Eq'} (hE : Eqs P E) {c : Cx} {h : Hp} (H : HeapOK c h) {op : BinOp} {t : Nat} {x y v : AVal} {a b : Value} (hx : Rel c x a) (hy : Rel c y b) (he : binA T E op t x y h = some v) (ox oy : Operand) :
    ∃ z, (do eqGuard op t ox oy a b; binOp op t a b : Sem Value).run P c.w = .ok z c.w ∧ Rel c v z := by
  unfold binA at he
  split at he
  · rename_i k n k' m
    obtain ⟨rfl, _⟩ := hx
    obtain ⟨rfl, _⟩ := hy
    split at he
    · rename_i hk
      subst hk
      cases hb : intBin op k n m with
      | none => simp [hb] at he
      | some z =>
        simp [hb] at he
        subst he
        refine ⟨z, ?_, rfl, ?_⟩
        · simp only [Sem.run_bind, eqGuard_scalar (a := .int k n) rfl (by simp), Result.andThen_ok]
          exact binOp_int_run hb _
        · cases op <;> simp only [intBin] at hb <;> first
            | (injection hb with hb; subst hb; rfl)
            | (split at hb
               · cases hb
               · injection hb with hb; subst hb; rfl)
    · cases he
  · split at he
    · cases hr : eqlA T E t x y h with
      | none => simp [hr] at he
      | some r =>
        simp [hr] at he
        subst he
        obtain ⟨h1, h2, h3⟩ := eql_sim hT hE H hx hy hr .eql ox oy
        refine ⟨.bool r, ?_, rfl, rfl⟩
        simp only [Sem.run_bind, h1, Result.andThen_ok]
        have : binOp .eql t a b = (do pure (.bool (← Op.equal t a b))) := by
          unfold binOp
          cases a <;> first | (simp [plainEq] at h3; done) | rfl | (cases b <;> rfl)
        rw [this]
        simp only [Sem.run_bind, h2, Result.andThen_ok, Sem.run_pure]
    · cases hr : eqlA T E t x y h with
      | none => simp [hr] at he
      | some r =>
        simp [hr] at he
        subst he
        obtain ⟨h1, h2, h3⟩ := eql_sim hT hE H hx hy hr .neq ox oy
        refine ⟨.bool (!r), ?_, rfl, rfl⟩
        simp only [Sem.run_bind, h1, Result.andThen_ok]
        have : binOp .neq t a b = (do pure (.bool (!(← Op.equal t a b)))) := by
          unfold binOp
          cases a <;> first | (simp [plainEq] at h3; done) | rfl | (cases b <;> rfl)
        rw [this]
        simp only [Sem.run_bind, h2, Result.andThen_ok, Sem.run_pure]
    · cases he
end
end Go.Av

namespace Go.Av
open Go.RowKit

section
variable {P : Program} {T : Tb}

/-! ### Maps keyed by whole numbers -/
def mget (n : Int) : List (Int × AVal) → Option AVal
  | [] => none
  | (m, x) :: r => if m = n then some x else mget n r
def mput (n : Int) (v : AVal) : List (Int × AVal) → List (Int × AVal)
  | [] => [(n, v)]
  | (m, x) :: r => if m = n then (n, v) :: r else (m, x) :: mput n v r
def zeroA (td : TD) : Option AVal :=
  if td.zero.all Value.oneCell' then (if td.zagg then some (.agg (td.zero.map .v)) else match td.zero with | [z] => some (.v z) | _ => none) else none

theorem zeroA_rel {e : Nat} {te : TD} (h : tdOf P e = some te) {v : AVal} (hv : zeroA te = some v) (c : Cx) : ∃ z, (zeroValue e).run P c.w = .ok z c.w ∧ Rel c v z := by
  obtain ⟨i, d, z, h1, h2, h3, _, _, h4, h5, _, _, h6, _⟩ := tdOf_inv h
  have hr : (zeroValue e).run P c.w = .ok z c.w := by simp [zeroValue, typeInfo, Sem.run_bind, h1, h3]
  refine ⟨z, hr, ?_⟩
  unfold zeroA at hv
  split at hv
  · rename_i hone
    split at hv
    · rename_i hz
      injection hv with hv; subst hv
      rw [h6] at hz
      cases z <;> simp [isAggV] at hz
      rename_i cs
      refine ⟨te.zero, ?_, RelL.vals c _ hone⟩
      rw [h4]; rfl
    · rename_i hz
      split at hv
      · rename_i z' hz'
        injection hv with hv; subst hv
        rw [hz'] at h4 hone
        simp at hone
        rw [h6] at hz
        have hzc : z.cells.toList = [z] := by cases z <;> first | rfl | simp [isAggV] at hz
        rw [hzc] at h4
        injection h4 with h4 _
        exact ⟨h4.symm, hone⟩
      · cases hv
  · cases hv

theorem mapMake_sim {c : Cx} {h : Hp} (H : HeapOK c h) {t id : Nat} (q : IntKind) (hn : h id = none) :
    ∃ w', (Instr.makeMap t none).run P c.w = .ok (.map (some c.w.heap.size)) w' ∧
      HeapOK { ι := iupd c.ι id (.map c.w.heap.size), S := c.S, w := w' } (hupd h id (.map q [])) ∧ c.le { ι := iupd c.ι id (.map c.w.heap.size), S := c.S, w := w' } := by
  have hh := H.new hn (.map #[] 0) (.map c.w.heap.size) rfl (.map q []) (fun hle => ⟨_, [], 0, iupd_same _ _ _, heap_alloc_new _ _, rfl⟩)
  exact ⟨c.w.alloc (.map #[] 0), by simp [Instr.makeMap], hh⟩

theorem find_get {c : Cx} {q : IntKind} : ∀ {es : List (Int × AVal)} {E : List MapEntry} (n : Int) (i : Nat), RelM c q es E →
    match mget n es with
    | none => Instr.findNow (.int q) (.int q n) E i = some none
    | some x => ∃ j e, Instr.findNow (.int q) (.int q n) E i = some (some (i + j, e.val)) ∧ E[j]? = some e ∧ e.key = .int q n ∧ Rel c x e.val
  | [], E, n, i, h => by cases h; rfl
  | (m, x) :: r, E, n, i, h => by
    obtain ⟨e, E', rfl, h1, h2, h3⟩ := h
    unfold mget
    by_cases hm : m = n
    · subst hm
      rw [if_pos rfl]
      exact ⟨0, e, by simp [Instr.findNow, Instr.sameNow, h1], rfl, h1, h2⟩
    · rw [if_neg hm]
      have ih := find_get n (i + 1) h3
      have hs : Instr.sameNow (.int q) (.int q n) e.key = some false := by simp [Instr.sameNow, h1, Ne.symm hm]
      cases hg : mget n r with
      | none => rw [hg] at ih; simpa [Instr.findNow, hs] using ih
      | some y =>
        rw [hg] at ih
        obtain ⟨j, e', h4, h5, h6, h7⟩ := ih
        refine ⟨j + 1, e', ?_, by simpa using h5, h6, h7⟩
        simp only [Instr.findNow, hs]
        rw [h4]; congr 3; omega

theorem lookup_sim {c : Cx} {h : Hp} (H : HeapOK c h) {t kt et id : Nat} {td tk te : TD} {q : IntKind} (ht : tdOf P t = some td) (hk : td.kind = .map kt et) (htk : tdOf P kt = some tk) (hq : tk.kind = .int q)
    (hte : tdOf P et = some te) {z : AVal} (hz : zeroA te = some z) {es : List (Int × AVal)} (hid : h id = some (.map q es)) {y : Value} (hy : Rel c (.map id) y) (n : Int) :
    ∃ u b, b = (mget n es).isSome ∧ Rel c ((mget n es).getD z) u ∧ (Instr.lookup t y (.int q n) false).run P c.w = .ok u c.w ∧ (Instr.lookup t y (.int q n) true).run P c.w = .ok (.tuple #[u, .bool b]) c.w := by
  obtain ⟨g, E, clock, h1, h2, h3⟩ := H.obj id _ hid
  simp only [Rel, h1] at hy
  subst hy
  have hu := td_map ht hk
  have huk := td_int htk hq
  obtain ⟨zv, hz1, hz2⟩ := zeroA_rel hte hz c
  have hck : ∀ b, (Instr.checkKey b 10000 kt (.int q n)).run P c.w = .ok () c.w := by
    intro b
    rw [show (10000 : Nat) = 9999 + 1 from rfl, Instr.checkKey]
    simp only [Sem.run_bind, run_underlying huk, Result.andThen_ok]
    rfl
  have hg : (getObj g).run P c.w = .ok (.map ⟨E⟩ clock) c.w := by simp [getObj, Sem.run, h2]
  have hf := find_get n 0 h3
  have hfk : ∀ r, Instr.findNow (.int q) (.int q n) E 0 = some r → (Instr.findKey kt (.int q n) E).run P c.w = .ok r c.w := by
    intro r hr
    simp only [Instr.findKey, Sem.run_bind, run_underlying huk, Result.andThen_ok, hr, Sem.run_pure]
  cases hm : mget n es with
  | none =>
    rw [hm] at hf
    refine ⟨zv, false, rfl, hz2, ?_, ?_⟩ <;>
      simp [Instr.lookup, Sem.run_bind, run_underlying hu, hg, hck, hfk _ hf, hz1]
  | some x =>
    rw [hm] at hf
    obtain ⟨j, e, h4, h5, h6, h7⟩ := hf
    refine ⟨e.val, true, rfl, h7, ?_, ?_⟩ <;>
      simp [Instr.lookup, Sem.run_bind, run_underlying hu, hg, hck, hfk _ h4, Sem.run_pure]

theorem RelM.put {c : Cx} {q : IntKind} : ∀ {es : List (Int × AVal)} {E : List MapEntry} (n : Int) (v : AVal) (u : Value) (i : Nat), RelM c q es E → Rel c v u →
    match mget n es with
    | none => ∀ clock, RelM c q (mput n v es) (E ++ [{ key := .int q n, val := u, born := clock }])
    | some _ => ∀ j e, Instr.findNow (.int q) (.int q n) E i = some (some (i + j, e.val)) → E[j]? = some e → ∀ kk, kk = Value.int q n → RelM c q (mput n v es) (E.modify j fun e => { e with key := kk, val := u })
  | [], E, n, v, u, i, h, hv => by
    cases h
    exact fun clock => ⟨_, [], rfl, rfl, hv, rfl⟩
  | (m, x) :: r, E, n, v, u, i, h, hv => by
    obtain ⟨e, E', rfl, h1, h2, h3⟩ := h
    unfold mget mput
    by_cases hm : m = n
    · subst hm
      rw [if_pos rfl, if_pos rfl]
      intro j e' hf hj kk hkk
      have : j = 0 := by
        have : Instr.findNow (.int q) (.int q m) (e :: E') i = some (some (i, e.val)) := by simp [Instr.findNow, Instr.sameNow, h1]
        rw [this] at hf
        injection hf with hf; injection hf with hf; injection hf with hf _; omega
      subst this
      exact ⟨_, E', rfl, hkk, hv, h3⟩
    · rw [if_neg hm, if_neg hm]
      have ih := RelM.put n v u (i + 1) h3 hv
      have hs : Instr.sameNow (.int q) (.int q n) e.key = some false := by simp [Instr.sameNow, h1, Ne.symm hm]
      cases hg : mget n r with
      | none =>
        rw [hg] at ih
        exact fun clock => ⟨e, _, rfl, h1, h2, ih clock⟩
      | some y =>
        rw [hg] at ih
        intro j e' hf hj kk hkk
        simp only [Instr.findNow, hs] at hf
        cases j with
        | zero =>
          exfalso
          have hge : ∀ (L : List MapEntry) (k : Nat) (a : Nat) (b : Value), Instr.findNow (.int q) (.int q n) L k = some (some (a, b)) → k ≤ a := by
            intro L
            induction L with
            | nil => intro k a b h; simp [Instr.findNow] at h
            | cons x L ih =>
              intro k a b h
              simp only [Instr.findNow] at h
              split at h
              · injection h with h; injection h with h; injection h with h _; omega
              · have := ih _ _ _ h; omega
              · cases h
          have := hge _ _ _ _ hf
          omega
        | succ j =>
          refine ⟨e, _, by simp, h1, h2, ih j e' (by rw [hf]; congr 3; omega) (by simpa using hj) kk hkk⟩

theorem mapUpdate_sim {c : Cx} {h : Hp} (H : HeapOK c h) {t kt et id : Nat} {td tk : TD} {q : IntKind} (ht : tdOf P t = some td) (hk : td.kind = .map kt et) (htk : tdOf P kt = some tk) (hq : tk.kind = .int q)
    {es : List (Int × AVal)} (hid : h id = some (.map q es)) {y : Value} (hy : Rel c (.map id) y) (n : Int) {v : AVal} {u : Value} (hv : Rel c v u) :
    ∃ w', (Instr.mapUpdate t y (.int q n) u).run P c.w = .ok () w' ∧ HeapOK { c with w := w' } (hupd h id (.map q (mput n v es))) ∧ c.le { c with w := w' } := by
  obtain ⟨g, E, clock, h1, h2, h3⟩ := H.obj id _ hid
  simp only [Rel, h1] at hy
  subst hy
  have hu := td_map ht hk
  have huk := td_int htk hq
  have hck : ∀ b, (Instr.checkKey b 10000 kt (.int q n)).run P c.w = .ok () c.w := by
    intro b
    rw [show (10000 : Nat) = 9999 + 1 from rfl, Instr.checkKey]
    simp only [Sem.run_bind, run_underlying huk, Result.andThen_ok]
    rfl
  have hg : (getObj g).run P c.w = .ok (.map ⟨E⟩ clock) c.w := by simp [getObj, Sem.run, h2]
  have hf := find_get n 0 h3
  have hfk : ∀ r, Instr.findNow (.int q) (.int q n) E 0 = some r → (Instr.findKey kt (.int q n) E).run P c.w = .ok r c.w := by
    intro r hr
    simp only [Instr.findKey, Sem.run_bind, run_underlying huk, Result.andThen_ok, hr, Sem.run_pure]
  have hset : ∀ o, (setObj g o).run P c.w = .ok () { c.w with heap := c.w.heap.setIfInBounds g o } := by
    intro o; simp [setObj, Sem.run, h2]
  have hlt : g < c.w.heap.size := (Array.getElem?_eq_some_iff.1 h2).1
  have turn : ∀ E' k', RelM c q (mput n v es) E' → HeapOK { c with w := { c.w with heap := c.w.heap.setIfInBounds g (.map ⟨E'⟩ k') } } (hupd h id (.map q (mput n v es))) ∧ c.le { c with w := { c.w with heap := c.w.heap.setIfInBounds g (.map ⟨E'⟩ k') } } := by
    intro E' k' hE'
    exact H.turn h1 (g := g) rfl { c.w with heap := c.w.heap.setIfInBounds g (.map ⟨E'⟩ k') } (fun b hb => by simp [Array.getElem?_setIfInBounds, Ne.symm hb]) (by simp) rfl rfl rfl (.map q (mput n v es)) (fun hle => ⟨g, E', k', h1, by simp [hlt], RelM.mono hle _ _ _ hE'⟩)
  have hput := RelM.put n v u 0 h3 hv
  cases hm : mget n es with
  | none =>
    rw [hm] at hf hput
    refine ⟨_, ?_, turn _ (clock + 1) (hput clock)⟩
    simp [Instr.mapUpdate, Sem.run_bind, run_underlying hu, hg, hck, hfk _ hf, hset]
  | some x =>
    rw [hm] at hf hput
    obtain ⟨j, e, h4, h5, h6, h7⟩ := hf
    refine ⟨_, ?_, turn _ clock (hput j e h4 h5 _ rfl)⟩
    have hks : (Instr.keyThatStays (Value.int q n) (.int q n)).run P c.w = .ok (.int q n) c.w := by
      unfold Instr.keyThatStays
      have : Instr.sameBits 10000 (.int q n) (.int q n) = true := by simp [Instr.sameBits]
      rw [if_pos this]; rfl
    simp only [Nat.zero_add] at h4
    simp [Instr.mapUpdate, Sem.run_bind, run_underlying hu, hg, hck, hfk _ h4, h5, h6, hks, hset]
end
end Go.Av

namespace Go.Av
open Go.RowKit

/-- A new id for a block that nobody has, whatever was done to it. -/
theorem HeapOK.claim {c : Cx} {h : Hp} (H : HeapOK c h) {id : Nat} (hn : h id = none) (p : Pl) (g : Nat) (hp : p.block = some g) (w' : World)
    (hb : ∀ b, b < c.w.heap.size → b ≠ g → w'.heap[b]? = c.w.heap[b]?) (hs : c.w.heap.size ≤ w'.heap.size) (hg : g < w'.heap.size)
    (hfree : ∀ k q, c.ι k = some q → q.block ≠ some g) (hS : ¬ c.S g) (ho : w'.os = c.w.os) (ht : w'.tape = c.w.tape) (hou : w'.output = c.w.output) (ao : AObj)
    (hob : c.le { ι := iupd c.ι id p, S := c.S, w := w' } → ObjOK { ι := iupd c.ι id p, S := c.S, w := w' } id ao) :
    HeapOK { ι := iupd c.ι id p, S := c.S, w := w' } (hupd h id ao) ∧ c.le { ι := iupd c.ι id p, S := c.S, w := w' } := by
  have hid : c.ι id = none := H.off id hn
  have hle : c.le { ι := iupd c.ι id p, S := c.S, w := w' } := by
    refine ⟨fun k q hk => .inl ?_, fun _ hb => hb, fun b hb' => hb b (H.stab b hb') (fun e => hS (e ▸ hb')), ho, ht, hou, hs⟩
    show iupd c.ι id p k = some q
    rw [iupd_ne _ _ (fun e => by rw [e, hid] at hk; cases hk)]; exact hk
  refine ⟨⟨?_, ?_, ?_, ?_, ?_⟩, hle⟩
  · intro k ob hk
    by_cases hkid : k = id
    · subst hkid
      simp [hupd] at hk
      subst hk
      exact hob hle
    · simp only [hupd, hkid, if_false] at hk
      refine (H.obj k ob hk).mono hle (iupd_ne _ _ hkid) (fun q g' hq hg' => hb g' (H.own k q g' hq hg').1 (fun e => hfree k q hq (e ▸ hg')))
  · intro k hk
    by_cases hkid : k = id
    · subst hkid; simp [hupd] at hk
    · simp only [hupd, hkid, if_false] at hk
      show iupd c.ι id p k = none
      rw [iupd_ne _ _ hkid]; exact H.off k hk
  · intro k k' q q' g1 hq hq' hg1 hg1'
    by_cases hk : k = id
    · by_cases hk' : k' = id
      · rw [hk, hk']
      · subst hk
        simp only [iupd_same] at hq
        injection hq with hq; subst hq
        have h1 : c.ι k' = some q' := by rw [← iupd_ne c.ι p hk']; exact hq'
        rw [hp] at hg1; injection hg1 with hg1; subst hg1
        exact absurd hg1' (hfree k' q' h1)
    · have h1 : c.ι k = some q := by rw [← iupd_ne c.ι p hk]; exact hq
      by_cases hk' : k' = id
      · subst hk'
        simp only [iupd_same] at hq'
        injection hq' with hq'; subst hq'
        rw [hp] at hg1'; injection hg1' with hg1'; subst hg1'
        exact absurd hg1 (hfree k q h1)
      · have h2 : c.ι k' = some q' := by rw [← iupd_ne c.ι p hk']; exact hq'
        exact H.inj k k' q q' g1 h1 h2 hg1 hg1'
  · intro k q g1 hq hg1
    by_cases hk : k = id
    · subst hk
      simp only [iupd_same] at hq
      injection hq with hq; subst hq
      rw [hp] at hg1; injection hg1 with hg1; subst hg1
      exact ⟨hg, hS⟩
    · have h1 : c.ι k = some q := by rw [← iupd_ne c.ι p hk]; exact hq
      have := H.own k q g1 h1 hg1
      exact ⟨Nat.lt_of_lt_of_le this.1 hs, this.2⟩
  · intro b hb'
    exact Nat.lt_of_lt_of_le (H.stab b hb') hs

theorem RelX.append {c : Cx} {s : Nat} : ∀ {xs ys : List AVal} {C D : List Value}, RelX c s xs C → C.length = xs.length * s → RelX c s ys D → RelX c s (xs ++ ys) (C ++ D)
  | [], ys, C, D, _, hl, h => by
    have : C = [] := List.eq_nil_of_length_eq_zero (by simpa using hl)
    subst this; simpa using h
  | x :: xs, ys, C, D, h, hl, h' => by
    have hs : s ≤ C.length := by rw [hl, List.length_cons, Nat.succ_mul]; omega
    refine ⟨h.1, ?_, ?_⟩
    · rw [List.take_append_of_le_length hs]; exact h.2.1
    · rw [List.drop_append_of_le_length hs]
      exact RelX.append h.2.2 (by rw [List.length_drop, hl, List.length_cons, Nat.succ_mul]; omega) h'
theorem RelX.ext {c : Cx} {s : Nat} : ∀ {xs : List AVal} {C D : List Value}, RelX c s xs (C.take (xs.length * s)) → RelX c s xs (C.take (xs.length * s) ++ D)
  | xs, C, D, h => by
    have key : ∀ (xs : List AVal) (C D : List Value), RelX c s xs C → xs.length * s ≤ C.length → RelX c s xs (C ++ D) := by
      intro xs
      induction xs with
      | nil => intros; trivial
      | cons x xs ih =>
        intro C D h hl
        rw [List.length_cons, Nat.succ_mul] at hl
        refine ⟨h.1, ?_, ?_⟩
        · rw [List.take_append_of_le_length (by omega)]; exact h.2.1
        · rw [List.drop_append_of_le_length (by omega)]
          exact ih _ _ h.2.2 (by rw [List.length_drop]; omega)
    exact key _ _ _ h h.length
theorem RelX.cut {c : Cx} {s : Nat} : ∀ {xs : List AVal} {C : List Value}, RelX c s xs C → RelX c s xs (C.take (xs.length * s))
  | [], _, _ => trivial
  | x :: xs, C, h => by
    have e : (x :: xs).length * s = xs.length * s + s := by rw [List.length_cons, Nat.succ_mul]
    refine ⟨h.1, ?_, ?_⟩
    · rw [List.take_take, Nat.min_eq_left (by omega)]; exact h.2.1
    · rw [List.drop_take, e, Nat.add_sub_cancel]; exact RelX.cut h.2.2
theorem RelX.of_eq_take {c : Cx} {s : Nat} {xs : List AVal} {C : List Value} (h : RelX c s xs (C.take (xs.length * s))) : RelX c s xs C := by
  have := RelX.ext (D := C.drop (xs.length * s)) h
  rwa [List.take_append_drop] at this
theorem RelX.takeE {c : Cx} {s : Nat} : ∀ {xs : List AVal} {C : List Value} (m : Nat), RelX c s xs C → RelX c s (xs.take m) C
  | _, _, 0, _ => by simp [RelX]
  | [], _, _ + 1, _ => by simp [RelX]
  | _ :: _, _, m + 1, h => ⟨h.1, h.2.1, RelX.takeE m h.2.2⟩

/-- Every cell of every element is told as one cell. -/
def flatE (ys : List AVal) : Bool := ys.all fun x => flat x.cells
theorem RelX.one {c : Cx} {s : Nat} : ∀ {xs : List AVal} {C : List Value}, flatE xs = true → RelX c s xs C → ∀ u ∈ C.take (xs.length * s), u.oneCell' = true
  | [], _, _, _, u, hu => by simp at hu
  | x :: xs, C, hf, h, u, hu => by
    simp [flatE] at hf
    rw [List.length_cons, Nat.succ_mul, Nat.add_comm, List.take_add] at hu
    rcases List.mem_append.1 hu with hu | hu
    · exact flat_one hf.1 h.2.1 u hu
    · exact RelX.one (by simpa [flatE] using hf.2) h.2.2 u hu

theorem RelE.cellsE {c : Cx} {s : Nat} : ∀ {xs : List AVal} {ad : Addr}, RelE c s xs ad → ∃ N, N.length = xs.length * s ∧ At c.w ad N ∧ RelX c s xs N
  | [], ad, _ => ⟨[], by simp, fun j v h => by simp at h, trivial⟩
  | x :: xs, ad, h => by
    obtain ⟨h1, h2, h3⟩ := h.cons
    obtain ⟨C, h4, h5⟩ := h2.at_
    obtain ⟨N, h6, h7, h8⟩ := RelE.cellsE h3
    have hl : C.length = s := by rw [h4.length, h1]
    refine ⟨C ++ N, by rw [List.length_append, hl, h6, List.length_cons, Nat.succ_mul, Nat.add_comm], ?_, h1, ?_, ?_⟩
    · intro j v hj
      rw [List.getElem?_append] at hj
      split at hj
      · exact h5 j v hj
      · rename_i hge
        have := h7 (j - C.length) v hj
        rw [add_add'] at this
        rw [show j = s + (j - C.length) from by omega]
        exact this
    · rw [List.take_append_of_le_length (by omega), List.take_of_length_le (by omega)]; exact h4
    · rw [List.drop_append_of_le_length (by omega), List.drop_of_length_le (by omega), List.nil_append]; exact h8
theorem RelE.of_cells {c : Cx} {s : Nat} : ∀ {xs : List AVal} {ad : Addr} {N : List Value}, At c.w ad N → RelX c s xs N → RelE c s xs ad
  | [], _, _, _, _ => trivial
  | x :: xs, ad, N, hat, h => by
    refine RelE.of_cons h.1 ?_ (RelE.of_cells (hat.drop s) h.2.2)
    exact RelC.of_at h.2.1 (hat.take s)

section
variable {P : Program} {T : Tb}

/-- A slice's elements, wherever they lie. -/
def elemsA (h : Hp) : AVal → Option (List AVal)
  | .sl ys => some ys
  | .own id n => match h id with
    | some (.row _ _ ys) => if n ≤ ys.length then some (ys.take n) else none
    | _ => none
  | .v (.slice _ 0 k) => if k ≤ 9223372036854775807 then some [] else none
  | _ => none

theorem elems_rel {c : Cx} {h : Hp} (H : HeapOK c h) {x : AVal} {y : Value} (hr : Rel c x y) {ys : List AVal} (he : elemsA h x = some ys) :
    ∃ A k, y = .slice A ys.length k ∧ ys.length ≤ k ∧ k ≤ maxLen ∧ (0 < ys.length → ∃ ad s, A = some ad ∧ RelE c s ys ad) := by
  cases x with
  | sl zs =>
    simp [elemsA] at he; subst he
    obtain ⟨A, k, h1, h2, h3, h4⟩ := hr
    exact ⟨A, k, h1, h2, h3, fun h0 => by obtain ⟨ad, s, e, _, hE⟩ := h4 h0; exact ⟨ad, s, e, hE⟩⟩
  | own id n =>
    simp only [elemsA] at he
    split at he
    · rename_i t s zs hid
      split at he
      · rename_i hn
        injection he with he; subst he
        have hl : (zs.take n).length = n := by simp; omega
        rw [hl]
        rcases H.obj id _ hid with ⟨g, cap, C, h1, h2, h3, h4, h5, h6⟩ | ⟨h1, h0⟩
        · simp only [Rel, h1] at hr
          subst hr
          exact ⟨_, cap, rfl, by omega, h5, fun _ => ⟨_, s, rfl, RelE.of_cells (by simpa using At.of_block h2 0) (h6.takeE n)⟩⟩
        · simp only [Rel, h1] at hr
          obtain ⟨rfl, rfl⟩ := hr
          exact ⟨none, 0, rfl, Nat.le_refl _, by simp [maxLen], fun h => absurd h (by omega)⟩
      · cases he
    · cases he
  | v z =>
    unfold elemsA at he
    split at he
    · rename_i h0; cases h0
    · rename_i h0; cases h0
    · rename_i A k h0
      split at he
      · rename_i hk
        injection he with he; subst he
        injection h0 with h0
        subst h0
        obtain ⟨rfl, _⟩ := hr
        exact ⟨A, k, rfl, Nat.zero_le _, hk, fun h => absurd h (by simp)⟩
      · cases he
    · cases he
  | _ => simp [elemsA] at he

theorem len_sim {c : Cx} {h : Hp} (H : HeapOK c h) {t e : Nat} {td : TD} (ht : tdOf P t = some td) (hk : td.kind = .slice e) {x : AVal} {y : Value} (hr : Rel c x y) {ys : List AVal} (he : elemsA h x = some ys) (ty : TypeId) :
    (Builtin.len_ #[t] ty #[y]).run P c.w = .ok (.int .i64 ys.length) c.w := by
  obtain ⟨A, k, rfl, _⟩ := elems_rel H hr he
  simp [Builtin.len_, Sem.run_bind, run_underlying (td_slice ht hk), Sem.run_pure, goInt]

theorem append_none (w : World) {t ty e : TypeId} {td te : TD} (ht : tdOf P t = some td) (hk : td.kind = .slice e) (hte : tdOf P e = some te) (a A : Option Addr) (n cap k : Nat) (hn : n ≤ cap) :
    (Builtin.append_ #[t, t] ty #[.slice a n cap, .slice A 0 k]).run P w = .ok (.slice a n cap) w := by
  have hu := td_slice ht hk
  have hs := run_sizeOf_td hte w
  have hf : ∀ s, (Builtin.firstCells s 0 (.slice A 0 k)).run P w = .ok #[] w := by
    intro s
    cases A with
    | none => rfl
    | some ad => simp [Builtin.firstCells, loadCells, loadCellsFrom, Sem.run_pure]
  cases a <;> simp [Builtin.append_, Sem.run_bind, run_underlying hu, hs, Builtin.lenOf, Sem.run_pure, hn, hf, storeCells]
end
end Go.Av

namespace Go.Av
open Go.RowKit

section
variable {P : Program} {T : Tb}

theorem info_td {e : Nat} {te : TD} (h : tdOf P e = some te) : ∃ i z, P.info? e = some i ∧ i.zero = some z ∧ i.size = te.size ∧ i.bytes = te.bytes ∧ z.cells.toList = te.zero := by
  obtain ⟨i, d, z, h1, h2, h3, h4, h5, h6, _⟩ := tdOf_inv h
  exact ⟨i, z, h1, h3, h4.symm, h5.symm, h6.symm⟩

/-- What an owned row says, laid as one of the heap's objects. -/
theorem ownsRow_obj {c : Cx} {w' : World} {e s n : Nat} {v : Value} {X : List Value} (h : w'.ownsRow 0 e s v n X) {xs : List AVal} (hl : xs.length = n) (hX : RelX c s xs X) :
    (v = .slice none 0 0 ∧ xs = [] ∧ n = 0) ∨ ∃ g cap C, v = .slice (some ⟨g, 0, none⟩) n cap ∧ w'.heap[g]? = some (.cells ⟨C⟩ e (0, 0)) ∧ C.length = cap * s ∧ xs.length ≤ cap ∧ cap ≤ maxLen ∧ RelX c s xs C := by
  rcases h.2 with ⟨rfl, rfl⟩ | ⟨g, cap, cur, rfl, _, h2, h3, h4, h5, h6⟩
  · exact .inl ⟨rfl, List.eq_nil_of_length_eq_zero hl, rfl⟩
  · refine .inr ⟨g, cap, cur.toList, rfl, h2, by simpa using h5, by omega, h4, ?_⟩
    subst hl
    rw [← h6] at hX
    exact RelX.of_eq_take hX

theorem nil_claim {c : Cx} {h : Hp} (H : HeapOK c h) {nid : Nat} (hn : h nid = none) (e s : Nat) (w' : World) (hw : w' = c.w) :
    ∃ c', c'.w = w' ∧ HeapOK c' (hupd h nid (.row e s [])) ∧ Rel c' (.own nid 0) (.slice none 0 0) ∧ c.le c' := by
  subst hw
  obtain ⟨h1, h2⟩ := H.newNil hn e s
  exact ⟨{ c with ι := iupd c.ι nid .nil }, rfl, h1, by simp [Rel, iupd_same], h2⟩

/-- Behind an append: the new row, for a new id; the old one's id (if any) has been given up. -/
theorem regrown {c : Cx} {h : Hp} (H : HeapOK c h) {nid : Nat} (hn : h nid = none) {e s n : Nat} {v' : Value} {w' : World} {row : Option Nat} {X : List Value} {xs : List AVal}
    (hown : w'.ownsRow 0 e s v' n X) (hg : c.w.grownBy w' row) (hl : xs.length = n) (hX : RelX c s xs X)
    (hfree : ∀ g, row = some g → (∀ k q, c.ι k = some q → q.block ≠ some g) ∧ ¬ c.S g) (hv : v'.ownBlock = row ∨ v'.ownBlock = some c.w.heap.size ∨ v' = .slice none 0 0) :
    ∃ c', c'.w = w' ∧ HeapOK c' (hupd h nid (.row e s xs)) ∧ Rel c' (.own nid n) v' ∧ c.le c' := by
  have hsame : ∀ g, v'.ownBlock = some g → (∀ k q, c.ι k = some q → q.block ≠ some g) ∧ ¬ c.S g := by
    intro g hgv
    rcases hv with h1 | h1 | h1
    · exact hfree g (h1 ▸ hgv)
    · rw [h1] at hgv; injection hgv with hgv; subst hgv
      exact ⟨fun k q hk hq => by have := (H.own k q _ hk hq).1; omega, fun hs => by have := H.stab _ hs; omega⟩
    · subst h1; cases hgv
  rcases ownsRow_obj (c := c) hown hl hX with ⟨rfl, rfl, rfl⟩ | ⟨g, cap, C, rfl, h2, h3, h4, h5, h6⟩
  · -- nothing is owned: the world may have grown all the same
    have hle0 : c.le { c with w := w' } := ⟨fun _ _ hk => .inl hk, fun _ hb => hb, fun b hb => hg.block b (H.stab b hb) (fun e => (hfree b e.symm).2 hb), hg.os, hg.tape, hg.output, hg.size⟩
    have H0 : HeapOK { c with w := w' } h := by
      refine ⟨fun k ob hk => (H.obj k ob hk).mono hle0 rfl (fun q g' hq hg' => hg.block g' (H.own k q g' hq hg').1 (fun e => (hfree g' e.symm).1 k q hq hg')), H.off, H.inj, fun k q g' hq hg' => ?_, fun b hb => Nat.lt_of_lt_of_le (H.stab b hb) hg.size⟩
      have := H.own k q g' hq hg'
      exact ⟨Nat.lt_of_lt_of_le this.1 hg.size, this.2⟩
    obtain ⟨c', h1, h2, h3, h4⟩ := nil_claim H0 hn e s w' rfl
    exact ⟨c', h1, h2, h3, hle0.trans h4⟩
  · have hf := hsame g rfl
    have hglt : g < w'.heap.size := (Array.getElem?_eq_some_iff.1 h2).1
    -- where the row that was written is not the new one, nobody has it
    rcases hv with hv | hv | hv
    · have hr : row = some g := hv.symm
      have hc := H.claim hn (.row g cap s) g rfl w' (fun b hbl hne => hg.block b hbl (fun e => hne (by rw [hr] at e; injection e))) hg.size hglt hf.1 hf.2 hg.os hg.tape hg.output (.row e s xs)
        (fun hle => .inl ⟨g, cap, C, iupd_same _ _ _, h2, h3, h4, h5, RelX.mono hle _ _ _ h6⟩)
      exact ⟨_, rfl, hc.1, by simp [Rel, iupd_same], hc.2⟩
    · injection hv with hv
      have hg0 : g = c.w.heap.size := hv
      -- first the world without the new row, then the new row
      have hle0 : c.le { c with w := w' } := ⟨fun _ _ hk => .inl hk, fun _ hb => hb, fun b hb => hg.block b (H.stab b hb) (fun e => (hfree b e.symm).2 hb), hg.os, hg.tape, hg.output, hg.size⟩
      have H0 : HeapOK { c with w := w' } h := by
        refine ⟨fun k ob hk => (H.obj k ob hk).mono hle0 rfl (fun q g' hq hg' => hg.block g' (H.own k q g' hq hg').1 (fun e => (hfree g' e.symm).1 k q hq hg')), H.off, H.inj, fun k q g' hq hg' => ?_, fun b hb => Nat.lt_of_lt_of_le (H.stab b hb) hg.size⟩
        have := H.own k q g' hq hg'
        exact ⟨Nat.lt_of_lt_of_le this.1 hg.size, this.2⟩
      have hc := H0.claim hn (.row g cap s) g rfl w' (fun b _ _ => rfl) (Nat.le_refl _) hglt hf.1 hf.2 rfl rfl rfl (.row e s xs)
        (fun hle => .inl ⟨g, cap, C, iupd_same _ _ _, h2, h3, h4, h5, RelX.mono (hle0.trans hle) _ _ _ h6⟩)
      exact ⟨_, rfl, hc.1, by simp [Rel, iupd_same], hle0.trans hc.2⟩
    · cases hv

def sizesOK (s : Nat) (ys : List AVal) : Bool := ys.all fun x => x.cells.length == s

/-- What an id's block was, nobody has once the id is given up. -/
theorem freed {c : Cx} {h : Hp} (H : HeapOK c h) {id g : Nat} {p : Pl} (hp : c.ι id = some p) (hg : p.block = some g) :
    (∀ k q, iupd c.ι id .dead k = some q → q.block ≠ some g) ∧ ¬ c.S g := by
  refine ⟨fun k q hk hq => ?_, (H.own id p g hp hg).2⟩
  by_cases hkid : k = id
  · subst hkid; rw [iupd_same] at hk; injection hk with hk; subst hk; cases hq
  · rw [iupd_ne _ _ hkid] at hk
    exact hkid (H.inj k id q p g hk hp hq hg)

theorem elems_size {c : Cx} {s : Nat} {ys : List AVal} {ad : Addr} (h : RelE c s ys ad) (h0 : 0 < ys.length) {s' : Nat} (hso : sizesOK s' ys = true) : s = s' := by
  cases ys with
  | nil => simp at h0
  | cons x xs =>
    have := h.cons.1
    simp [sizesOK] at hso
    rw [← this, hso.1]

theorem append_own_sim {c : Cx} {h : Hp} (H : HeapOK c h) {t e id nid n : Nat} {td te : TD} (ht : tdOf P t = some td) (hk : td.kind = .slice e) (hte : tdOf P e = some te) (hs0 : 0 < te.size) (hzl : te.zero.length = te.size)
    {xs : List AVal} (hid : h id = some (.row e te.size xs)) (hn : xs.length = n) (hnid : h nid = none) {y : Value} (hy : Rel c (.own id n) y)
    {z : AVal} {u : Value} (hz : Rel c z u) {ys : List AVal} (he : elemsA h z = some ys) (hf : flatE ys = true) (hso : sizesOK te.size ys = true)
    (hb : (n + ys.length) * te.bytes ≤ 140737488355328) (hm : n + ys.length ≤ maxLen) (ty : TypeId) :
    ∃ v' c', (Builtin.append_ #[t, t] ty #[y, u]).run P c.w = .ok v' c'.w ∧ HeapOK c' (hupd (hupd h id .dead) nid (.row e te.size (xs ++ ys))) ∧ Rel c' (.own nid (n + ys.length)) v' ∧ c.le c' := by
  obtain ⟨i, zv, hi, hzv, hi1, hi2, hi3⟩ := info_td hte
  obtain ⟨A, k, rfl, hk1, hk2, hk3⟩ := elems_rel H hz he
  have hzs : zv.cells.size = te.size := by rw [← hzl, ← hi3]; simp
  have hne : nid ≠ id := fun e => by subst e; rw [hid] at hnid; cases hnid
  have hnid' : hupd h id .dead nid = none := by simp [hupd, hne, hnid]
  have hadd : (xs ++ ys).length = n + ys.length := by rw [List.length_append, hn]
  rcases H.obj id _ hid with ⟨g, cap, C, h1, h2, h3, h4, h5, h6⟩ | ⟨h1, h0⟩
  · simp only [Rel, h1] at hy
    subst hy
    obtain ⟨H1, hle1⟩ := H.kill h1
    have hfr := freed H h1 (g := g) rfl
    have hCt : (C.take (n * te.size)).length = n * te.size := by
      have := Nat.mul_le_mul_right te.size h4
      rw [hn] at this
      rw [List.length_take]; omega
    have hown : c.w.ownsRow 0 e te.size (.slice (some ⟨g, 0, none⟩) n cap) n (C.take (n * te.size)) := by
      refine ⟨hCt, .inr ⟨g, cap, ⟨C⟩, rfl, Nat.zero_le _, h2, by omega, h5, by simpa using h3, rfl⟩⟩
    have hX1 : RelX { c with ι := iupd c.ι id .dead } te.size xs (C.take (n * te.size)) := by
      subst hn; exact RelX.mono hle1 _ _ _ h6.cut
    rcases Nat.eq_zero_or_pos ys.length with hy0 | hy0
    · have hys : ys = [] := List.eq_nil_of_length_eq_zero hy0
      subst hys
      have hrun := append_none (P := P) c.w (ty := ty) ht hk hte (some ⟨g, 0, none⟩) A n cap k (by omega)
      obtain ⟨c', h7, h8, h9, h10⟩ := regrown (c := { c with ι := iupd c.ι id .dead }) H1 hnid' (n := n) (row := some g) hown ⟨rfl, rfl, rfl, Nat.le_refl _, fun _ _ _ => rfl⟩ hn hX1
        (fun g' hg' => by injection hg' with hg'; subst hg'; exact hfr) (.inl rfl)
      exact ⟨_, c', by rw [h7]; simpa using hrun, by simpa using h8, by simpa using h9, hle1.trans h10⟩
    · obtain ⟨ad, s, rfl, hE⟩ := hk3 hy0
      have hs := elems_size hE hy0 hso
      subst hs
      obtain ⟨N, hN1, hN2, hN3⟩ := hE.cellsE
      have hone : ∀ u ∈ N, u.oneCell' = true := by
        have := RelX.one hf hN3
        rwa [← hN1, List.take_length] at this
      obtain ⟨v', w', hrun, hown', hgrow, _, hloc⟩ := run_append_own_at (P := P) c.w 0 t ty e i zv te.size te.bytes (td_slice ht hk) hi hzv hi1 hi2 hzs hs0 _ n _ hown ad ys.length k N hN1 hN2 hone hm hb (Nat.zero_le _)
      obtain ⟨c', h7, h8, h9, h10⟩ := regrown (c := { c with ι := iupd c.ι id .dead }) H1 hnid' (n := n + ys.length) (row := some g) hown' hgrow hadd
        (RelX.append hX1 (by rw [hCt, hn]) (RelX.mono hle1 _ _ _ hN3)) (fun g' hg' => by injection hg' with hg'; subst hg'; exact hfr)
        (by rcases hloc with h | h; exact .inl h; exact .inr (.inl h))
      exact ⟨v', c', by rw [h7]; exact hrun, h8, h9, hle1.trans h10⟩
  · subst h0
    simp at hn
    subst hn
    simp only [Rel, h1] at hy
    obtain ⟨rfl, _⟩ := hy
    obtain ⟨H1, hle1⟩ := H.kill h1
    have hown : c.w.ownsRow 0 e te.size (.slice none 0 0) 0 [] := ⟨by simp, .inl ⟨rfl, rfl⟩⟩
    rcases Nat.eq_zero_or_pos ys.length with hy0 | hy0
    · have hys : ys = [] := List.eq_nil_of_length_eq_zero hy0
      subst hys
      have hrun := append_none (P := P) c.w (ty := ty) ht hk hte none A 0 0 k (Nat.le_refl _)
      obtain ⟨c', h7, h8, h9, h10⟩ := regrown (c := { c with ι := iupd c.ι id .dead }) H1 hnid' (n := 0) (row := none) hown ⟨rfl, rfl, rfl, Nat.le_refl _, fun _ _ _ => rfl⟩ rfl (xs := []) trivial
        (fun g' hg' => by cases hg') (.inl rfl)
      exact ⟨_, c', by rw [h7]; simpa using hrun, by simpa using h8, by simpa using h9, hle1.trans h10⟩
    · obtain ⟨ad, s, rfl, hE⟩ := hk3 hy0
      have hs := elems_size hE hy0 hso
      subst hs
      obtain ⟨N, hN1, hN2, hN3⟩ := hE.cellsE
      have hone : ∀ u ∈ N, u.oneCell' = true := by
        have := RelX.one hf hN3
        rwa [← hN1, List.take_length] at this
      obtain ⟨v', w', hrun, hown', hgrow, _, hloc⟩ := run_append_own_at (P := P) c.w 0 t ty e i zv te.size te.bytes (td_slice ht hk) hi hzv hi1 hi2 hzs hs0 _ 0 _ hown ad ys.length k N hN1 hN2 hone hm hb (Nat.zero_le _)
      obtain ⟨c', h7, h8, h9, h10⟩ := regrown (c := { c with ι := iupd c.ι id .dead }) H1 hnid' (n := 0 + ys.length) (row := none) hown' hgrow (by simpa using hadd)
        (RelX.append (xs := []) (C := []) trivial (by simp) (RelX.mono hle1 _ _ _ hN3)) (fun g' hg' => by cases hg')
        (by rcases hloc with h | h; exact .inl h; exact .inr (.inl h))
      exact ⟨v', c', by rw [h7]; exact hrun, h8, h9, hle1.trans h10⟩

/-- .. onto nil. -/
theorem append_nil_sim {c : Cx} {h : Hp} (H : HeapOK c h) {t e nid : Nat} {td te : TD} (ht : tdOf P t = some td) (hk : td.kind = .slice e) (hte : tdOf P e = some te) (hs0 : 0 < te.size) (hzl : te.zero.length = te.size)
    (hnid : h nid = none)
    {z : AVal} {u : Value} (hz : Rel c z u) {ys : List AVal} (he : elemsA h z = some ys) (hf : flatE ys = true) (hso : sizesOK te.size ys = true)
    (hb : ys.length * te.bytes ≤ 140737488355328) (hm : ys.length ≤ maxLen) (ty : TypeId) :
    ∃ v' c', (Builtin.append_ #[t, t] ty #[.slice none 0 0, u]).run P c.w = .ok v' c'.w ∧ HeapOK c' (hupd h nid (.row e te.size ys)) ∧ Rel c' (.own nid ys.length) v' ∧ c.le c' := by
  obtain ⟨i, zv, hi, hzv, hi1, hi2, hi3⟩ := info_td hte
  obtain ⟨A, k, rfl, hk1, hk2, hk3⟩ := elems_rel H hz he
  have hzs : zv.cells.size = te.size := by rw [← hzl, ← hi3]; simp
  have hown : c.w.ownsRow 0 e te.size (.slice none 0 0) 0 [] := ⟨by simp, .inl ⟨rfl, rfl⟩⟩
  rcases Nat.eq_zero_or_pos ys.length with hy0 | hy0
  · have hys : ys = [] := List.eq_nil_of_length_eq_zero hy0
    subst hys
    have hrun := append_none (P := P) c.w (ty := ty) ht hk hte none A 0 0 k (Nat.le_refl _)
    obtain ⟨c', h7, h8, h9, h10⟩ := regrown H hnid (n := 0) (row := none) hown ⟨rfl, rfl, rfl, Nat.le_refl _, fun _ _ _ => rfl⟩ rfl (xs := []) trivial
      (fun g' hg' => by cases hg') (.inl rfl)
    exact ⟨_, c', by rw [h7]; simpa using hrun, h8, h9, h10⟩
  · obtain ⟨ad, s, rfl, hE⟩ := hk3 hy0
    have hs := elems_size hE hy0 hso
    subst hs
    obtain ⟨N, hN1, hN2, hN3⟩ := hE.cellsE
    have hone : ∀ u ∈ N, u.oneCell' = true := by
      have := RelX.one hf hN3
      rwa [← hN1, List.take_length] at this
    obtain ⟨v', w', hrun, hown', hgrow, _, hloc⟩ := run_append_own_at (P := P) c.w 0 t ty e i zv te.size te.bytes (td_slice ht hk) hi hzv hi1 hi2 hzs hs0 _ 0 _ hown ad ys.length k N hN1 hN2 hone (by omega) (by simpa using hb) (Nat.zero_le _)
    obtain ⟨c', h7, h8, h9, h10⟩ := regrown H hnid (n := 0 + ys.length) (row := none) (xs := ys) hown' hgrow (by simp)
      (by simpa using hN3) (fun g' hg' => by cases hg')
      (by rcases hloc with h | h; exact .inl h; exact .inr (.inl h))
    exact ⟨v', c', by rw [h7]; exact hrun, h8, by simpa using h9, h10⟩
end
end Go.Av

namespace Go.Av
open Go.RowKit

section
variable {P : Program} {T : Tb}

/-! ### A row for a new id in a new block -/
theorem row_new {c : Cx} {h : Hp} (H : HeapOK c h) {nid : Nat} (hn : h nid = none) {e s cap : Nat} {C : List Value} {xs : List AVal} (hC : C.length = cap * s) (hl : xs.length ≤ cap) (hm : cap ≤ maxLen) (hX : RelX c s xs C) :
    HeapOK { ι := iupd c.ι nid (.row c.w.heap.size cap s), S := c.S, w := c.w.alloc (.cells ⟨C⟩ e) } (hupd h nid (.row e s xs)) ∧
      c.le { ι := iupd c.ι nid (.row c.w.heap.size cap s), S := c.S, w := c.w.alloc (.cells ⟨C⟩ e) } :=
  H.new hn (.cells ⟨C⟩ e) (.row c.w.heap.size cap s) rfl (.row e s xs) (fun hle => .inl ⟨_, cap, C, iupd_same _ _ _, heap_alloc_new _ _, hC, hl, hm, RelX.mono hle _ _ _ hX⟩)

/-! ### Parts put together -/
def fillA (place : Nat → Option (Nat × Nat)) (cells : List AVal) : List (Nat × AVal) → Option (List AVal)
  | [] => some cells
  | (i, x) :: rest => match place i with
    | none => none
    | some (off, size) => if x.solid && x.cells.length == size && decide (off + size ≤ cells.length) then fillA place (splice cells off x.cells) rest else none

theorem foldl_set (off : Nat) : ∀ (vs : List Value) (k : Nat) (C : List Value), off + k + vs.length ≤ C.length →
    ((vs.zipIdx k).foldl (fun (cs : Array Value) (p : Value × Nat) => cs.setIfInBounds (off + p.2) p.1) ⟨C⟩) = ⟨splice C (off + k) vs⟩
  | [], k, C, _ => by simp [splice]
  | v :: vs, k, C, hl => by
    simp only [List.zipIdx_cons, List.foldl_cons]
    have e1 : (⟨C⟩ : Array Value).setIfInBounds (off + k) v = ⟨C.set (off + k) v⟩ := by simp
    rw [e1, foldl_set off vs (k + 1) (C.set (off + k) v) (by simp at hl ⊢; omega)]
    congr 1
    have hlt : off + k < C.length := by simp at hl; omega
    have e2 : (C.set (off + k) v).take (off + (k + 1)) = C.take (off + k) ++ [v] := by
      rw [show off + (k + 1) = (off + k) + 1 from by omega, List.take_succ_eq_append_getElem (by simpa using hlt)]
      simp [List.take_set_of_le]
    have e3 : (C.set (off + k) v).drop (off + (k + 1) + vs.length) = C.drop (off + (k + 1) + vs.length) := by
      rw [List.drop_set]
      simp only [show off + k < off + (k + 1) + vs.length from by omega, if_true]
    unfold splice
    rw [e2, e3]
    simp only [List.append_assoc, List.cons_append, List.nil_append, List.length_cons]
    congr 4
    omega

theorem fill_rel {c : Cx} {pl : Nat → Option (Nat × Nat)} : ∀ {parts : List (Nat × AVal)} {vals : List (Nat × Value)} {cs cs' : List AVal} {C : List Value}, RelL c cs C →
    parts.map (·.1) = vals.map (·.1) → (∀ (i : Nat) (x : Nat × AVal), parts[i]? = some x → ∃ y : Nat × Value, vals[i]? = some y ∧ Rel c x.2 y.2) → fillA pl cs parts = some cs' → ∃ C', Instr.fill pl ⟨C⟩ vals = some ⟨C'⟩ ∧ RelL c cs' C'
  | [], vals, cs, cs', C, hr, h1, _, he => by
    simp [fillA] at he; subst he
    cases vals with
    | nil => exact ⟨C, rfl, hr⟩
    | cons v vs => simp at h1
  | (i, x) :: parts, vals, cs, cs', C, hr, h1, h2, he => by
    cases vals with
    | nil => simp at h1
    | cons v vs =>
      obtain ⟨j, v⟩ := v
      simp at h1
      obtain ⟨rfl, h1⟩ := h1
      obtain ⟨y, hy, hxy⟩ := h2 0 (i, x) rfl
      simp at hy; subst hy
      simp only [fillA] at he
      cases hp : pl i with
      | none => simp [hp] at he
      | some q =>
        obtain ⟨off, size⟩ := q
        simp only [hp] at he
        split at he
        · rename_i hc
          simp at hc
          have hcells := hxy.cells hc.1.1
          have hsz : v.cells.size = size := by
            have := hcells.length
            rw [hc.1.2] at this
            simpa using this
          have hle : off + v.cells.size ≤ C.length := by rw [hsz, hr.length]; exact hc.2
          obtain ⟨C', h3, h4⟩ := fill_rel (vals := vs) (hr.splice off hcells) h1 (fun k z hz => by simpa using h2 (k + 1) z (by simpa using hz)) he
          refine ⟨C', ?_, h4⟩
          simp only [Instr.fill, hp]
          rw [if_neg (by
            simp only [hsz, Bool.or_eq_true, decide_eq_true_eq, ne_eq, not_true_eq_false, false_or]
            simp at hle ⊢; omega)]
          have := foldl_set off v.cells.toList 0 C (by simpa using hle)
          rw [← h3]
          congr 1
          rw [Nat.add_zero] at this
          rw [← this]
          rw [← Array.foldl_toList]
          simp
        · cases he

def buildA (T : Tb) (t : Nat) (parts : List (Nat × AVal)) : Option AVal :=
  match T t with
  | none => none
  | some td => if td.zero.all Value.oneCell' && td.fok then
      (fillA (fun i => (td.fl[i]?).map fun f => (f.1, f.2.1)) (td.zero.map .v) parts).map .agg
    else none

theorem build_sim (hT : Tab P T) {c : Cx} {t : Nat} {parts : List (Nat × AVal)} {vals : List (Nat × Value)} (h1 : parts.map (·.1) = vals.map (·.1)) (h2 : ∀ (i : Nat) (x : Nat × AVal), parts[i]? = some x → ∃ y : Nat × Value, vals[i]? = some y ∧ Rel c x.2 y.2)
    {v : AVal} (he : buildA T t parts = some v) : ∃ z, (Instr.build t ⟨vals⟩).run P c.w = .ok z c.w ∧ Rel c v z := by
  unfold buildA at he
  cases ht : T t with
  | none => simp [ht] at he
  | some td =>
    have htd := hT t td ht
    simp only [ht] at he
    split at he
    · rename_i hz
      simp only [Bool.and_eq_true] at hz
      obtain ⟨i, d, z, h3, h4, h5, _, _, h6, _, h7, _, _, h8⟩ := tdOf_inv htd
      rw [h8] at hz
      cases d with
      | struct fs =>
        simp only at hz h7
        cases hf : fillA (fun i => (td.fl[i]?).map fun f => (f.1, f.2.1)) (td.zero.map .v) parts with
        | none => simp [hf] at he
        | some cs =>
          simp [hf] at he
          subst he
          obtain ⟨C, hC1, hC2⟩ := fill_rel (RelL.vals c td.zero hz.1) h1 h2 hf
          refine ⟨.agg ⟨C⟩, ?_, C, rfl, hC2⟩
          refine run_build c.w t ⟨vals⟩ ⟨C⟩ ?_
          have hplaces : fs.toList.mapM (fun f => (P.info? f.type).map fun i => (f.offset, i.size)) = some (td.fl.map fun f => (f.1, f.2.1)) := by
            rw [h7, List.map_map]
            have hall := hz.2
            generalize fs.toList = L at hall
            induction L with
            | nil => rfl
            | cons f L ih =>
              simp only [List.all_cons, Bool.and_eq_true] at hall
              obtain ⟨fi, hfi⟩ := Option.isSome_iff_exists.1 hall.1.1
              simp only [List.mapM_cons, hfi, Option.map_some, ih hall.2, List.map_cons, Function.comp, hall.1.2, if_true, Option.getD_some]
              rfl
          unfold Program.built
          simp only [h3, h4, h5, hplaces]
          rw [← hC1]
          congr 1
          · funext i
            simp [List.getElem?_map]
          · rw [h6]
      | _ => simp at hz
    · cases he

/-! ### Slice literals -/
def mkEl (ag : Bool) (l : List AVal) : Option AVal :=
  if ag then some (.agg l) else match l with
    | [y] => if y.isAgg then none else some y
    | _ => none
theorem mkEl_cells {ag : Bool} {l : List AVal} {x : AVal} (h : mkEl ag l = some x) : x.cells = l := by
  unfold mkEl at h
  split at h
  · injection h with h; subst h; rfl
  · split at h
    · split at h
      · cases h
      · rename_i y hy
        injection h with h; subst h
        cases y <;> first | rfl | simp [AVal.isAgg] at hy
    · cases h
def chunkA (ag : Bool) (s : Nat) : Nat → List AVal → Option (List AVal)
  | 0, _ => some []
  | n + 1, l => match mkEl ag (l.take s), chunkA ag s n (l.drop s) with
    | some x, some r => some (x :: r)
    | _, _ => none
theorem chunk_rel {c : Cx} {ag : Bool} {s : Nat} : ∀ {n : Nat} {l xs : List AVal} {C : List Value}, RelL c l C → n * s ≤ l.length → chunkA ag s n l = some xs → xs.length = n ∧ RelX c s xs C
  | 0, _, _, _, _, _, h => by simp [chunkA] at h; subst h; exact ⟨rfl, trivial⟩
  | n + 1, l, xs, C, hr, hl, h => by
    simp only [chunkA] at h
    rw [Nat.succ_mul] at hl
    split at h
    · rename_i x r hx hr'
      injection h with h; subst h
      obtain ⟨h1, h2⟩ := chunk_rel (hr.drop s) (by rw [List.length_drop]; omega) hr'
      refine ⟨by simp [h1], ?_, ?_, h2⟩
      · rw [mkEl_cells hx, List.length_take]; omega
      · rw [mkEl_cells hx]; exact hr.take s
    · cases h

def buildSliceA (T : Tb) (t len : Nat) (parts : List (Nat × AVal)) : Option (Nat × Nat × List AVal) :=
  match T t with
  | none => none
  | some td => match td.kind with
    | .slice e => match T e with
      | none => none
      | some te =>
        if te.zero.all Value.oneCell' && decide (len * te.size ≤ 16777216) && decide (0 < te.size) && te.zero.length == te.size then
          match fillA (fun i => some (i * te.size, te.size)) ((List.range (len * te.size)).map fun i => .v (te.zero.getD (i % te.size) undef)) parts with
          | none => none
          | some cs => if cs.length = len * te.size then (chunkA te.agg te.size len cs).map fun xs => (e, te.size, xs) else none
        else none
    | _ => none

theorem buildSlice_sim (hT : Tab P T) {c : Cx} {h : Hp} (H : HeapOK c h) {t len nid : Nat} (hn : h nid = none) {parts : List (Nat × AVal)} {vals : List (Nat × Value)} (h1 : parts.map (·.1) = vals.map (·.1)) (h2 : ∀ (i : Nat) (x : Nat × AVal), parts[i]? = some x → ∃ y : Nat × Value, vals[i]? = some y ∧ Rel c x.2 y.2)
    {e s : Nat} {xs : List AVal} (he : buildSliceA T t len parts = some (e, s, xs)) :
    ∃ v' c', (Instr.buildSlice t len ⟨vals⟩).run P c.w = .ok v' c'.w ∧ HeapOK c' (hupd h nid (.row e s xs)) ∧ Rel c' (.own nid len) v' ∧ c.le c' := by
  unfold buildSliceA at he
  cases ht : T t with
  | none => simp [ht] at he
  | some td =>
    have htd := hT t td ht
    simp only [ht] at he
    split at he
    · rename_i e' hk
      cases hte0 : T e' with
      | none => simp [hte0] at he
      | some te =>
        have hte := hT e' te hte0
        simp only [hte0] at he
        split at he
        · rename_i hc
          simp only [Bool.and_eq_true, decide_eq_true_eq, beq_iff_eq] at hc
          split at he
          · cases he
          · rename_i cs hfill
            split at he
            · rename_i hlen
              cases hch : chunkA te.agg te.size len cs with
              | none => simp [hch] at he
              | some xs' =>
                simp [hch] at he
                obtain ⟨rfl, rfl, rfl⟩ := he
                obtain ⟨i, z, hi, hz, hi1, hi2, hi3⟩ := info_td hte
                let Z : List Value := (List.range (len * te.size)).map fun i => te.zero.getD (i % te.size) undef
                have hZ : RelL c ((List.range (len * te.size)).map fun i => AVal.v (te.zero.getD (i % te.size) undef)) Z := by
                  have := RelL.vals c Z (by
                    simp only [Z, List.all_map, List.all_eq_true, Function.comp]
                    intro j hj
                    have hj' : j < len * te.size := by simpa using hj
                    have hpos : 0 < te.size := hc.1.2
                    have hlt : j % te.size < te.zero.length := by rw [hc.2]; exact Nat.mod_lt _ hpos
                    rw [List.getD_eq_getElem?_getD, List.getElem?_eq_getElem hlt]
                    exact List.all_eq_true.1 hc.1.1.1 _ (List.getElem_mem hlt))
                  simpa [Z, List.map_map, Function.comp_def] using this
                obtain ⟨C, hC1, hC2⟩ := fill_rel hZ h1 h2 hfill
                have hCl : C.length = len * te.size := by rw [hC2.length, hlen]
                obtain ⟨hx1, hx2⟩ := chunk_rel hC2 (by omega) hch
                have hmax : len ≤ maxLen := by
                  have h3 := hc.1.1.2
                  have h4 : len * 1 ≤ len * te.size := Nat.mul_le_mul_left len hc.1.2
                  unfold maxLen; omega
                have hnew := row_new H hn (e := e') (s := te.size) (cap := len) hCl (by omega) hmax hx2
                refine ⟨.slice (some ⟨c.w.heap.size, 0, none⟩) len len, _, ?_, hnew.1, by simp [Rel, iupd_same], hnew.2⟩
                have hu := td_slice htd hk
                have hs := run_sizeOf_td hte c.w
                have hzv : (zeroValue e').run P c.w = .ok z c.w := by simp [zeroValue, typeInfo, Sem.run_bind, hi, hz]
                have hzc : z.cells = ⟨te.zero⟩ := by rw [← hi3]
                have hZ1 : ((Array.range (len * te.size)).map fun i => z.cells[i % z.cells.size]!) = ⟨Z⟩ := by
                  apply Array.ext'
                  simp only [Array.toList_map, Array.toList_range, Z]
                  apply List.map_congr_left
                  intro i _
                  rw [hzc]
                  have hlt : i % te.size < te.zero.length := by rw [hc.2]; exact Nat.mod_lt _ hc.1.2
                  simp only [List.size_toArray, hc.2]
                  rw [List.getD_eq_getElem?_getD, List.getElem?_eq_getElem hlt, Option.getD_some]
                  rw [getElem!_pos _ _ (by simpa using hlt)]
                  rfl
                have hle : ¬ len * te.size > 2 ^ 24 := by have := hc.1.1.2; omega
                by_cases h0 : len * te.size = 0
                · have hZ0 : Z = [] := by simp [Z, h0]
                  rw [hZ0] at hC1
                  simp only [Instr.buildSlice, Sem.run_bind, run_underlying hu, Result.andThen_ok, hs, if_neg hle, if_pos h0, Sem.run_pure]
                  have hr0 : ∀ f : Nat → Value, (Array.range 0).map f = ⟨[]⟩ := fun f => by simp
                  rw [h0, hr0, hC1]
                  simp [newRow]
                · simp only [Instr.buildSlice, Sem.run_bind, run_underlying hu, Result.andThen_ok, hs, if_neg hle, if_neg h0, Sem.run_pure, hzv, hZ1]
                  simp [hC1, newRow]
            · cases he
        · cases he
    · cases he
end
end Go.Av
