/- Generic: a calculus of what calls do to memory that is given by its values. It states nothing of the program. -/
import Derived.Test.YthlmfkeeneeaoaaAvL6
set_option linter.all false
set_option linter.unnecessarySimpa false
set_option linter.unusedVariables false
set_option linter.unusedSimpArgs false
namespace Go.Proofs.Ythlmfkeeneeaoaa
open Go Go.Av

/-! ### plain: spans, sums -/
theorem picF_nodup : ∀ {l pre : List Put}, picF pre l = true → (∀ q ∈ pre, ∀ z, pre.getLast? = some z → q.cpu ≤ z.cpu) →
    (∀ p ∈ l, ∀ q ∈ pre, q.cpu < p.cpu ∧ q.vcpu ≠ p.vcpu) ∧ (l.map (·.cpu)).Nodup ∧ (l.map (·.vcpu)).Nodup ∧ ∀ p ∈ l, 0 ≤ p.cpu ∧ p.cpu ≤ 7 ∧ 1 ≤ p.vcpu ∧ p.vcpu ≤ 16
  | [], _, _, _ => by simp
  | p :: r, pre, h, hj => by
    rw [picF_app, Bool.and_eq_true] at h
    have hp := putOK_cpu h.1
    have hlt : ∀ q ∈ pre, q.cpu < p.cpu := fun q hq => by
      cases hl : pre.getLast? with
      | none => rw [List.getLast?_eq_none_iff] at hl; rw [hl] at hq; cases hq
      | some z => have := hj q hq z hl; have := hp.2.2.1 z hl; omega
    have ih := picF_nodup (pre := pre ++ [p]) h.2 (fun q hq z hz => by
      simp only [List.getLast?_append, List.getLast?_singleton, Option.some_or, Option.some.injEq] at hz
      subst hz
      rcases List.mem_append.1 hq with hq | hq
      · have := hlt q hq; omega
      · simp at hq; rw [hq]; omega)
    obtain ⟨i1, i2, i3, i4⟩ := ih
    refine ⟨fun x hx q hq => ?_, ?_, ?_, fun x hx => ?_⟩
    · rcases List.mem_cons.1 hx with rfl | hx
      · exact ⟨hlt q hq, hp.2.2.2.2.2 q hq⟩
      · exact i1 x hx q (List.mem_append_left _ hq)
    · simp only [List.map_cons, List.nodup_cons]
      refine ⟨fun hm => ?_, i2⟩
      obtain ⟨x, hx, he⟩ := List.mem_map.1 hm
      have := (i1 x hx p (by simp)).1; omega
    · simp only [List.map_cons, List.nodup_cons]
      refine ⟨fun hm => ?_, i3⟩
      obtain ⟨x, hx, he⟩ := List.mem_map.1 hm
      exact (i1 x hx p (by simp)).2 he.symm
    · rcases List.mem_cons.1 hx with rfl | hx
      · omega
      · exact i4 x hx
theorem pic_nodup {l : List Put} (h : picF [] l = true) : (l.map (·.cpu)).Nodup ∧ (l.map (·.vcpu)).Nodup ∧ ∀ p ∈ l, 0 ≤ p.cpu ∧ p.cpu ≤ 7 ∧ 1 ≤ p.vcpu ∧ p.vcpu ≤ 16 := (picF_nodup h (by simp)).2

theorem fold_none (v a e : Int) : ∀ (l : List Put) (out : List Span), (∀ p ∈ l, p.vcpu ≠ v) → l.foldl (spanStep v a e) out = out
  | [], out, _ => rfl
  | p :: l, out, h => by
    have : spanStep v a e out p = out := by unfold spanStep; rw [if_pos (by simp [h p (by simp)])]
    rw [List.foldl_cons, this]
    exact fold_none v a e l out fun q hq => h q (by simp [hq])
theorem fold_eq (v a e : Int) (hae : a = e) : ∀ (l : List Put) (out : List Span), l.foldl (spanStep v a e) out = out
  | [], out => rfl
  | p :: l, out => by
    have : spanStep v a e out p = out := by unfold spanStep; rw [if_pos (by simp [hae])]
    rw [List.foldl_cons, this]
    exact fold_eq v a e hae l out
theorem fold_one (v a e : Int) (hae : a ≠ e) : ∀ (l : List Put) (out : List Span), (l.map (·.vcpu)).Nodup → l.foldl (spanStep v a e) out = match l.find? (fun p => p.vcpu == v) with | some p => addSpan out p.cpu a e | none => out
  | [], out, _ => rfl
  | p :: l, out, h => by
    rw [List.foldl_cons]
    simp only [List.map_cons, List.nodup_cons] at h
    by_cases hp : p.vcpu = v
    · have : spanStep v a e out p = addSpan out p.cpu a e := by unfold spanStep; rw [if_neg (by simp [hp, hae])]
      rw [this, fold_none v a e l _ (fun q hq hv => h.1 (List.mem_map.2 ⟨q, hq, by rw [hv, hp]⟩)), List.find?_cons_of_pos (by simp [hp])]
    · have : spanStep v a e out p = out := by unfold spanStep; rw [if_pos (by simp [hp])]
      rw [this, List.find?_cons_of_neg (by simp [hp])]
      exact fold_one v a e hae l out h.2

def lsum : List Span → Int
  | [] => 0
  | s :: l => (s.till - s.since) + lsum l
theorem lsum_app (l m : List Span) : lsum (l ++ m) = lsum l + lsum m := by
  induction l with
  | nil => simp [lsum]
  | cons s l ih => simp only [List.cons_append, lsum, ih]; omega
def Good (l : List Span) (b : Int) : Prop := (∀ s ∈ l, 0 ≤ s.since ∧ s.since < s.till ∧ s.till ≤ b) ∧ l.Pairwise (fun s u => s.till ≤ u.since)
theorem Good.mono {l : List Span} {b c : Int} (h : Good l b) (hb : b ≤ c) : Good l c := ⟨fun s hs => by have := h.1 s hs; omega, h.2⟩
theorem lsum_take {l : List Span} {b : Int} (h : Good l b) : ∀ k, 0 ≤ lsum (l.take k) ∧ lsum (l.take k) ≤ lsum l := by
  have := h.1
  clear h
  induction l with
  | nil => intro k; simp [lsum]
  | cons s l ih =>
    intro k
    have hs := this s (by simp)
    have ih' := ih (fun x hx => this x (by simp [hx]))
    cases k with
    | zero => have := ih' 0; simp [lsum] at *; omega
    | succ k => have := ih' k; simp only [List.take_succ_cons, lsum]; omega
theorem addSpan_good {out : List Span} {c a e : Int} (h : Good out a) (ha : 0 ≤ a) (hae : a < e) : Good (addSpan out c a e) e ∧ lsum (addSpan out c a e) = lsum out + (e - a) := by
  have happ : Good (out ++ [⟨c, a, e⟩]) e ∧ lsum (out ++ [⟨c, a, e⟩]) = lsum out + (e - a) := by
    refine ⟨⟨fun s hs => ?_, ?_⟩, by rw [lsum_app]; simp [lsum]⟩
    · rcases List.mem_append.1 hs with hs | hs
      · have := h.1 s hs; omega
      · simp at hs; subst hs; simp only []; omega
    · rw [List.pairwise_append]
      refine ⟨h.2, by simp, fun s hs u hu => ?_⟩
      simp at hu; subst hu
      exact (h.1 s hs).2.2
  unfold addSpan
  rcases Decidable.em (out = []) with rfl | hne
  · exact happ
  · obtain ⟨l, s, rfl⟩ : ∃ l s, out = l ++ [s] := ⟨_, _, (List.dropLast_concat_getLast hne).symm⟩
    have hg : (l ++ [s])[(l ++ [s]).length - 1]? = some s := by simp
    rw [hg]
    simp only []
    split
    · rename_i hc
      simp only [Bool.and_eq_true, beq_iff_eq] at hc
      have hset : (l ++ [s]).set ((l ++ [s]).length - 1) ⟨s.cpu, s.since, e⟩ = l ++ [⟨s.cpu, s.since, e⟩] := by simp
      rw [hset]
      have hp := List.pairwise_append.1 h.2
      have h0 := h.1 s (by simp)
      refine ⟨⟨fun x hx => ?_, ?_⟩, ?_⟩
      · rcases List.mem_append.1 hx with hx | hx
        · have := h.1 x (by simp [hx]); omega
        · simp at hx; subst hx; simp only []; omega
      · rw [List.pairwise_append]
        refine ⟨hp.1, by simp, fun x hx u hu => ?_⟩
        simp at hu; subst hu
        exact hp.2.2 x hx s (by simp)
      · rw [lsum_app, lsum_app]; simp only [lsum]; omega
    · exact happ

theorem timeAt_eq {t : Trace} {i : Nat} {f : Frame} (h : t.frames[i]? = some f) : timeAt t i = f.time := by unfold timeAt; rw [h]
theorem endT_next {t : Trace} {i : Nat} {f : Frame} (h : t.frames[i + 1]? = some f) : endT t i = f.time := by unfold endT; rw [h]
theorem endT_last {t : Trace} {i : Nat} (h : t.frames[i + 1]? = none) : endT t i = t.fin := by unfold endT; rw [h]
theorem time_end {t : Trace} (hr : right t = true) {i : Nat} {f : Frame} (hf : t.frames[i]? = some f) : f.time ≤ endT t i := by
  cases h : t.frames[i + 1]? with
  | none => rw [endT_last h]; exact (right_get hr hf).2.2.1
  | some g => rw [endT_next h]; have := (right_link hr hf h).1; omega
def fromT (t : Trace) (i : Nat) : Int := match t.frames[i]? with | some f => f.time | none => t.fin
theorem endT_from (t : Trace) (i : Nat) : endT t i = fromT t (i + 1) := rfl
theorem find_any {l : List Put} {v : Int} : (l.any fun p => p.vcpu == v) = (l.find? (fun p => p.vcpu == v)).isSome := by
  rw [Bool.eq_iff_iff, List.any_eq_true, List.find?_isSome]
theorem spansTo_good {t : Trace} (hr : right t = true) (v : Int) : ∀ i, i ≤ t.frames.length → Good (spansTo t v i) (fromT t i) ∧ lsum (spansTo t v i) = sumTo (share (fun p => p.vcpu == v) t 0 1125899906842624) i
  | 0, _ => ⟨⟨by simp [spansTo], by simp [spansTo]⟩, rfl⟩
  | i + 1, hi => by
    obtain ⟨ih1, ih2⟩ := spansTo_good hr v i (by omega)
    obtain ⟨f, hf, _, _⟩ := get_of_lt (l := t.frames) (i := i) (by omega)
    have hg := right_get hr hf
    have he := right_end hr i
    have hte := time_end hr hf
    have hfr : fromT t i = f.time := by unfold fromT; rw [hf]
    rw [hfr] at ih1
    have hsh : share (fun p => p.vcpu == v) t 0 1125899906842624 i = if (f.puts.any fun p => p.vcpu == v) = true then endT t i - f.time else 0 := by
      unfold share
      rw [hf]
      simp only []
      rw [mxI_max, mnI_min, mxI_max]
      split <;> omega
    rw [← endT_from]
    simp only [spansTo, sumTo]
    rw [get_putsAt hf, timeAt_eq hf, hsh, ← ih2]
    by_cases hae : f.time = endT t i
    · rw [fold_eq _ _ _ hae]
      refine ⟨hae ▸ ih1, ?_⟩
      split <;> omega
    · rw [fold_one _ _ _ hae _ _ (pic_nodup hg.2.2.2).2.1, find_any]
      cases hfd : f.puts.find? (fun p => p.vcpu == v) with
      | none => exact ⟨ih1.mono hte, by simp⟩
      | some p =>
        have := addSpan_good (c := p.cpu) ih1 hg.1 (show f.time < endT t i by omega)
        exact ⟨this.1, by rw [this.2]; simp⟩
theorem spans_good {t : Trace} (hr : right t = true) (v : Int) : Good (spansF t v) t.fin ∧ lsum (spansF t v) = sumTo (share (fun p => p.vcpu == v) t 0 1125899906842624) t.frames.length := by
  have h := spansTo_good hr v t.frames.length (Nat.le_refl _)
  have : fromT t t.frames.length = t.fin := by unfold fromT; rw [List.getElem?_eq_none (Nat.le_refl _)]
  rw [this] at h
  unfold spansF
  rw [if_pos hr]
  exact h

theorem sumTo_add (f g : Nat → Int) : ∀ n, sumTo (fun i => f i + g i) n = sumTo f n + sumTo g n
  | 0 => rfl
  | n + 1 => by have := sumTo_add f g n; simp only [sumTo]; omega
theorem sumTo_congr {f g : Nat → Int} : ∀ n, (∀ i, i < n → f i = g i) → sumTo f n = sumTo g n
  | 0, _ => rfl
  | n + 1, h => by have := sumTo_congr n (fun i hi => h i (by omega)); have := h n (by omega); simp only [sumTo]; omega
theorem sumTo_zero : ∀ n, sumTo (fun _ => 0) n = 0
  | 0 => rfl
  | n + 1 => by have := sumTo_zero n; simp only [sumTo]; omega
theorem sumTo_swap (f : Nat → Nat → Int) (m : Nat) : ∀ n, sumTo (fun k => sumTo (f k) m) n = sumTo (fun i => sumTo (fun k => f k i) n) m
  | 0 => (sumTo_zero m).symm
  | n + 1 => by
    have h := sumTo_swap f m n
    simp only [sumTo]
    rw [h, ← sumTo_add]
theorem share_split {t : Trace} (hr : right t = true) (p : Put → Bool) {now : Int} (h0 : 0 ≤ now) (h1 : now ≤ 1125899906842624) (n : Nat) :
    sumTo (share p t 0 now) n + sumTo (share p t now 1125899906842624) n = sumTo (share p t 0 1125899906842624) n := by
  rw [← sumTo_add]
  refine sumTo_congr n fun i _ => ?_
  unfold share
  cases hf : t.frames[i]? with
  | none => rfl
  | some f =>
    simp only []
    have := right_get hr hf
    have := right_end hr i
    split
    · simp only [mxI_max, mnI_min]; omega
    · rfl
theorem sumTo_one (s x lo : Int) : ∀ n : Nat, sumTo (fun k => if x = lo + k then s else 0) n = if lo ≤ x ∧ x < lo + n then s else 0
  | 0 => by simp only [sumTo]; split <;> omega
  | n + 1 => by
    have := sumTo_one s x lo n
    simp only [sumTo]
    rw [this]
    by_cases h : x = lo + n
    · rw [if_pos h, if_neg (by omega), if_pos (by omega)]; omega
    · rw [if_neg h]
      by_cases h2 : lo ≤ x ∧ x < lo + n
      · rw [if_pos h2, if_pos (by omega)]; omega
      · rw [if_neg h2, if_neg (by omega)]; omega
theorem count_sum (s lo : Int) (n : Nat) : ∀ l : List Int, l.Nodup → (∀ x ∈ l, lo ≤ x ∧ x < lo + n) → sumTo (fun k => if l.any (fun x => x == lo + k) = true then s else 0) n = l.length * s
  | [], _, _ => by simp [sumTo_zero]
  | x :: l, hn, hb => by
    rw [List.nodup_cons] at hn
    have ih := count_sum s lo n l hn.2 (fun y hy => hb y (by simp [hy]))
    have h1 := sumTo_one s x lo n
    rw [if_pos (hb x (by simp))] at h1
    have : ((x :: l).length : Int) * s = l.length * s + s := by rw [List.length_cons, Int.natCast_add, Int.add_mul]; simp
    rw [this, ← ih]
    conv => rhs; rhs; rw [← h1]
    rw [← sumTo_add]
    refine sumTo_congr n fun k _ => ?_
    by_cases hx : x = lo + k
    · have : l.any (fun y => y == lo + k) = false := by
        rw [Bool.eq_false_iff]; intro hh
        obtain ⟨y, hy, he⟩ := List.any_eq_true.1 hh
        simp at he
        exact hn.1 (by rw [hx, ← he]; exact hy)
      simp [this, hx]
    · simp [hx]
theorem count_key (g : Put → Int) (s lo : Int) (n : Nat) (l : List Put) (hn : (l.map g).Nodup) (hb : ∀ p ∈ l, lo ≤ g p ∧ g p < lo + n) : sumTo (fun k => if l.any (fun p => g p == lo + k) = true then s else 0) n = l.length * s := by
  have := count_sum s lo n (l.map g) hn (fun x hx => by obtain ⟨p, hp, rfl⟩ := List.mem_map.1 hx; exact hb p hp)
  rw [List.length_map] at this
  rw [← this]
  refine sumTo_congr n fun k _ => ?_
  rw [List.any_map]; rfl
theorem key_sum {t : Trace} (g : Put → Int) (lo : Int) (n : Nat) (a z : Int) (hb : ∀ (i : Nat) (f : Frame), t.frames[i]? = some f → (f.puts.map g).Nodup ∧ ∀ p ∈ f.puts, lo ≤ g p ∧ g p < lo + n) :
    sumTo (fun k => sumTo (share (fun p => g p == lo + (k : Int)) t a z) t.frames.length) n = sumTo (fun i => match t.frames[i]? with | some f => f.puts.length * mxI (mnI (endT t i) z - mxI f.time a) 0 | none => 0) t.frames.length := by
  rw [sumTo_swap]
  refine sumTo_congr _ fun i hi => ?_
  obtain ⟨f, hf, _, _⟩ := get_of_lt hi
  obtain ⟨h1, h2⟩ := hb i f hf
  rw [hf]
  have := count_key g (mxI (mnI (endT t i) z - mxI f.time a) 0) lo n f.puts h1 h2
  refine Eq.trans (sumTo_congr n fun k _ => ?_) this
  unfold share
  rw [hf]
theorem busy_ran {t : Trace} (hr : right t = true) (a z : Int) {n m : Nat} (hn : n = 16) (hm : m = 8) : sumTo (fun k => sumTo (share (fun p => p.vcpu == 1 + (k : Int)) t a z) t.frames.length) n = sumTo (fun k => sumTo (share (fun p => p.cpu == 0 + (k : Int)) t a z) t.frames.length) m := by
  rw [key_sum (·.vcpu), key_sum (·.cpu)]
  · intro i f hf
    obtain ⟨n1, n2, n3⟩ := pic_nodup (right_get hr hf).2.2.2
    exact ⟨n1, fun p hp => by have := n3 p hp; omega⟩
  · intro i f hf
    obtain ⟨n1, n2, n3⟩ := pic_nodup (right_get hr hf).2.2.2
    exact ⟨n2, fun p hp => by have := n3 p hp; omega⟩
end Go.Proofs.Ythlmfkeeneeaoaa
