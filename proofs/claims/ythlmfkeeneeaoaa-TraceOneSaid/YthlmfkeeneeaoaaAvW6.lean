/- Generic: a calculus of what calls do to memory that is given by its values. It states nothing of the program. -/
import Derived.Test.YthlmfkeeneeaoaaAvW5
set_option linter.all false
set_option linter.unnecessarySimpa false
set_option linter.unusedVariables false
set_option linter.unusedSimpArgs false
namespace Go.Proofs.Ythlmfkeeneeaoaa
open Go Go.Av

/-! ### plain: a trace cut has the same pictures -/
def Hold (t : Trace) (n : Int) (j : Nat) (f : Frame) : Prop := t.frames[j]? = some f ∧ f.time ≤ n ∧ n < endT t j
theorem lt_of_get {α : Type} {l : List α} {i : Nat} {x : α} (h : l[i]? = some x) : i < l.length := by
  rcases Nat.lt_or_ge i l.length with h' | h'
  · exact h'
  · rw [List.getElem?_eq_none h'] at h; cases h
theorem at_of {t : Trace} (hr : right t = true) {n : Int} {j : Nat} {f : Frame} (h : Hold t n j f) : atF t n = (f.puts, true) := by
  obtain ⟨hf, h1, h2⟩ := h
  unfold atF
  rw [if_pos hr]
  have : firstI (holdsAt t n) t.frames.length = some j := firstI_some (lt_of_get hf) (by unfold holdsAt; rw [hf]; simp; omega) (fun k hk => by
    unfold holdsAt
    have hl := lt_of_get hf
    obtain ⟨u, hu, _, _⟩ := get_of_lt (l := t.frames) (i := k) (by omega)
    obtain ⟨w, hw, _, _⟩ := get_of_lt (l := t.frames) (i := k + 1) (by omega)
    rw [hu, endT_next hw]
    have : w.time ≤ f.time := by
      rcases Nat.eq_or_lt_of_le (show k + 1 ≤ j from hk) with e | e
      · subst e; rw [hw] at hf; cases hf; exact Int.le_refl _
      · have := right_lt hr (j - (k + 1) - 1) (k + 1) w f hw (by rw [show k + 1 + (j - (k + 1) - 1) + 1 = j from by omega]; exact hf)
        omega
    simp; omega)
  rw [this]
  simp only []
  rw [get_putsAt hf]
theorem at_none {t : Trace} (hr : right t = true) {n : Int} (h : ∀ j f, ¬ Hold t n j f) : atF t n = ([], false) := by
  unfold atF
  rw [if_pos hr, firstI_none (fun j hj => ?_)]
  obtain ⟨u, hu, _, _⟩ := get_of_lt hj
  have := h j u
  unfold holdsAt
  rw [hu]
  simp only [Hold, hu, true_and, not_and] at this
  simp; intro h1; have := this h1; omega

structure CInv (t : Trace) (a z : Int) (i : Nat) (o : Trace) : Prop where
  fr : ∀ (k : Nat) (g : Frame), o.frames[k]? = some g → a ≤ g.time ∧ 0 ≤ g.time ∧ g.time < o.fin ∧ picF [] g.puts = true
  lk : ∀ (k : Nat) (g h : Frame), o.frames[k]? = some g → o.frames[k + 1]? = some h → g.time < h.time ∧ g.puts ≠ h.puts
  fin : 0 < o.frames.length → o.fin = min (fromT t i) z
  fin0 : 0 ≤ o.fin ∧ o.fin ≤ 1125899906842624
  last : ∀ g, o.frames[o.frames.length - 1]? = some g → o.fin < z → i < t.frames.length → 0 < i ∧ ∃ f, t.frames[i - 1]? = some f ∧ g.puts = f.puts
  cov : ∀ n, a ≤ n → n < z → ∀ p, (∃ j f, j < i ∧ Hold t n j f ∧ f.puts = p) ↔ (∃ j f, Hold o n j f ∧ f.puts = p)
theorem endT_app {L : List Frame} {g : Frame} {y fin : Int} (h : 0 < L.length → g.time = fin) {k : Nat} (hk : k < L.length) : endT ⟨L ++ [g], y⟩ k = endT ⟨L, fin⟩ k := by
  rcases Nat.lt_or_ge (k + 1) L.length with h1 | h1
  · obtain ⟨u, hu, _, _⟩ := get_of_lt h1
    rw [endT_next (t := ⟨L, fin⟩) hu, endT_next (t := ⟨L ++ [g], y⟩) (f := u) (by show (L ++ [g])[k + 1]? = some u; rw [List.getElem?_append_left h1]; exact hu)]
  · have e : k + 1 = L.length := by omega
    rw [endT_last (t := ⟨L, fin⟩) (List.getElem?_eq_none h1), endT_next (t := ⟨L ++ [g], y⟩) (f := g) (by show (L ++ [g])[k + 1]? = some g; rw [e]; simp)]
    exact h (by omega)
theorem cutTo_inv {t : Trace} (hr : right t = true) {a z : Int} (ha : 0 ≤ a) (hz : z ≤ 1125899906842624) : ∀ i, i ≤ t.frames.length → CInv t a z i (cutTo t a z i)
  | 0, _ => by
    refine ⟨by simp [cutTo, noTrace], by simp [cutTo, noTrace], by simp [cutTo, noTrace], by simp [cutTo, noTrace], by simp [cutTo, noTrace], fun n _ _ p => ⟨?_, ?_⟩⟩
    · rintro ⟨j, f, hj, _⟩; omega
    · rintro ⟨j, f, ⟨h, _⟩, _⟩; simp [cutTo, noTrace] at h
  | i + 1, hi => by
    have ih := cutTo_inv hr ha hz i (by omega)
    obtain ⟨f, hf, _, _⟩ := get_of_lt (l := t.frames) (i := i) (by omega)
    have hg := right_get hr hf
    have he := right_end hr i
    have hte := time_end hr hf
    have hfr : fromT t i = f.time := by unfold fromT; rw [hf]
    have hstep : cutTo t a z (i + 1) = cutStep a z (cutTo t a z i) f (endT t i) := by rw [cutTo, hf]
    rw [hstep]
    generalize cutTo t a z i = o at ih ⊢
    obtain ⟨L, fin⟩ := o
    obtain ⟨i1, i2, i3, i4, i5, i6⟩ := ih
    simp only [] at i1 i2 i3 i4 i5
    rw [hfr] at i3
    have hafin : 0 < L.length → a < fin ∧ fin = min f.time z := fun h0 => by
      obtain ⟨g, hgg, _, _⟩ := get_of_lt h0
      have := i1 0 g hgg
      exact ⟨by omega, i3 h0⟩
    unfold cutStep
    rw [mxI_max, mnI_min]
    by_cases hc : max f.time a < min (endT t i) z
    · rw [if_pos hc]
      have hm : 0 < L.length → max f.time a = fin ∧ fin < z := fun h0 => by have := hafin h0; omega
      have happ : ∀ (k : Nat) (g : Frame), (L ++ [(⟨max f.time a, f.puts⟩ : Frame)])[k]? = some g → (k < L.length ∧ L[k]? = some g) ∨ (k = L.length ∧ g = ⟨max f.time a, f.puts⟩) := fun k g hk => by
        rcases Nat.lt_or_ge k L.length with h | h
        · rw [List.getElem?_append_left h] at hk; exact .inl ⟨h, hk⟩
        · have h2 := lt_of_get hk
          simp at h2
          have e : k = L.length := by omega
          subst e
          simp at hk; exact .inr ⟨rfl, hk.symm⟩
      have hlast : (L ++ [(⟨max f.time a, f.puts⟩ : Frame)])[L.length]? = some ⟨max f.time a, f.puts⟩ := by simp
      have hend : endT ⟨L ++ [⟨max f.time a, f.puts⟩], min (endT t i) z⟩ L.length = min (endT t i) z := endT_last (t := ⟨L ++ [⟨max f.time a, f.puts⟩], min (endT t i) z⟩) (List.getElem?_eq_none (by simp))
      refine ⟨fun k g hk => ?_, fun k g h hk hk1 => ?_, fun _ => ?_, ?_, fun g hk _ hlt => ?_, fun n hn1 hn2 p => ⟨?_, ?_⟩⟩
      · simp only [] at hk ⊢
        rcases happ k g hk with ⟨h1, h2⟩ | ⟨h1, rfl⟩
        · have := i1 k g h2
          have := hm (by omega)
          exact ⟨by omega, by omega, by omega, (i1 k g h2).2.2.2⟩
        · simp only []; exact ⟨by omega, by omega, by omega, hg.2.2.2⟩
      · simp only [] at hk hk1
        rcases happ (k + 1) h hk1 with ⟨h1, h2⟩ | ⟨h1, rfl⟩
        · rcases happ k g hk with ⟨h3, h4⟩ | ⟨h3, _⟩
          · exact i2 k g h h4 h2
          · omega
        · rcases happ k g hk with ⟨h3, h4⟩ | ⟨h3, _⟩
          · have b1 := i1 k g h4
            have b2 := hm (by omega)
            obtain ⟨c1, u, c2, c3⟩ := i5 g (by rw [show L.length - 1 = k from by omega]; exact h4) b2.2 (by omega)
            simp only []
            refine ⟨by omega, ?_⟩
            rw [c3]
            exact (right_link hr c2 (f := f) (by rw [show i - 1 + 1 = i from by omega]; exact hf)).2
          · omega
      · simp only []; rw [← endT_from]
      · simp only []; omega
      · simp only [List.length_append, List.length_singleton, Nat.add_sub_cancel] at hk
        rw [hlast] at hk; cases hk
        exact ⟨by omega, f, by simpa using hf, rfl⟩
      · rintro ⟨j, u, hj, hh, hp⟩
        rcases Nat.lt_or_ge j i with h | h
        · obtain ⟨k, w, ⟨w1, w2, w3⟩, hw⟩ := (i6 n hn1 hn2 p).1 ⟨j, u, h, hh, hp⟩
          have hk := lt_of_get w1
          simp only [] at hk w1
          refine ⟨k, w, ⟨by simp only []; rw [List.getElem?_append_left hk]; exact w1, w2, ?_⟩, hw⟩
          rw [endT_app (fin := fin) (fun h0 => (hm h0).1) hk]
          exact w3
        · have e : j = i := by omega
          subst e
          obtain ⟨w1, w2, w3⟩ := hh
          rw [hf] at w1; cases w1
          refine ⟨L.length, _, ⟨hlast, ?_, ?_⟩, hp⟩
          · simp only []; omega
          · rw [hend]; omega
      · rintro ⟨k, w, ⟨w1, w2, w3⟩, hp⟩
        simp only [] at w1
        rcases happ k w w1 with ⟨h1, h2⟩ | ⟨h1, rfl⟩
        · rw [endT_app (fin := fin) (fun h0 => (hm h0).1) h1] at w3
          obtain ⟨j, u, hj, hh, hq⟩ := (i6 n hn1 hn2 p).2 ⟨k, w, ⟨h2, w2, w3⟩, hp⟩
          exact ⟨j, u, by omega, hh, hq⟩
        · subst h1
          rw [hend] at w3
          simp only [] at w2 hp
          exact ⟨i, f, by omega, ⟨hf, by omega, by omega⟩, hp⟩
    · rw [if_neg hc]
      refine ⟨i1, i2, fun h0 => ?_, i4, fun g hk hfz hlt => ?_, fun n hn1 hn2 p => ⟨?_, ?_⟩⟩
      · have h1 := hafin h0
        simp only []
        rw [← endT_from]; omega
      · exfalso
        have h0 : 0 < L.length := by
          have := lt_of_get hk
          simp only [] at this; omega
        have h1 := hafin h0
        simp only [] at hfz
        obtain ⟨u, hu, _, _⟩ := get_of_lt hlt
        have h2 := (right_link hr hf hu).1
        rw [endT_next hu] at hc
        omega
      · rintro ⟨j, u, hj, hh, hp⟩
        rcases Nat.lt_or_ge j i with h | h
        · exact (i6 n hn1 hn2 p).1 ⟨j, u, h, hh, hp⟩
        · have e : j = i := by omega
          subst e
          obtain ⟨w1, w2, w3⟩ := hh
          rw [hf] at w1; cases w1
          omega
      · rintro hx
        obtain ⟨j, u, hj, hh, hq⟩ := (i6 n hn1 hn2 p).2 hx
        exact ⟨j, u, by omega, hh, hq⟩
theorem cut_right {t : Trace} (hr : right t = true) {a z : Int} (ha : 0 ≤ a) (hz : z ≤ 1125899906842624) : right (cutTo t a z t.frames.length) = true := by
  have h := cutTo_inv hr ha hz t.frames.length (Nat.le_refl _)
  have hl := cutTo_len t a z t.frames.length
  have := right_len hr
  exact right_of (by omega) h.fin0 (fun i f hf => by have := h.fr i f hf; exact ⟨this.2.1, by omega, this.2.2.2⟩) h.lk
theorem cut_at {t : Trace} (hr : right t = true) {a z : Int} (ha : 0 ≤ a) (hz : z ≤ 1125899906842624) {n : Int} (h1 : a ≤ n) (h2 : n < z) : atF (cutTo t a z t.frames.length) n = atF t n := by
  have h := cutTo_inv hr ha hz t.frames.length (Nat.le_refl _)
  have hcr := cut_right hr ha hz
  by_cases hx : ∃ j f, Hold t n j f
  · obtain ⟨j, f, hh⟩ := hx
    obtain ⟨k, w, hw, hp⟩ := (h.cov n h1 h2 f.puts).1 ⟨j, f, lt_of_get hh.1, hh, rfl⟩
    rw [at_of hr hh, at_of hcr hw, hp]
  · rw [at_none hr (fun j f hh => hx ⟨j, f, hh⟩), at_none hcr (fun j f hh => ?_)]
    obtain ⟨k, w, _, hw, _⟩ := (h.cov n h1 h2 f.puts).2 ⟨j, f, hh, rfl⟩
    exact hx ⟨k, w, hw⟩
theorem at_out {t : Trace} (hr : right t = true) {n : Int} (h : n < 0 ∨ 1125899906842624 ≤ n) : atF t n = ([], false) :=
  at_none hr fun j f hh => by
    have h1 := right_get hr hh.1
    have h2 := right_end hr j
    have := hh.2
    omega
theorem cut_same {t : Trace} (hr : right t = true) {c : Int} (h0 : 0 ≤ c) (h1 : c ≤ 1125899906842624) (n : Int) : atF (if n ≥ c then cutTo t c 1125899906842624 t.frames.length else cutTo t 0 c t.frames.length) n = atF t n := by
  split
  · rename_i h
    by_cases hM : n < 1125899906842624
    · exact cut_at hr h0 (Int.le_refl _) h hM
    · rw [at_out hr (by omega), at_out (cut_right hr h0 (Int.le_refl _)) (by omega)]
  · by_cases hM : 0 ≤ n
    · exact cut_at hr (Int.le_refl _) h1 hM (by omega)
    · rw [at_out hr (by omega), at_out (cut_right hr (Int.le_refl _) h1) (by omega)]
end Go.Proofs.Ythlmfkeeneeaoaa

namespace Go.Proofs.Ythlmfkeeneeaoaa
open Go Go.Av

/-! ### plain: spans tell where who ran -/
def spanAt (n c : Int) (s : Span) : Bool := decide (n ≥ s.since) && (decide (n < s.till) && (s.cpu == c))
def Cv (l : List Span) (n c : Int) : Prop := ∃ s ∈ l, s.since ≤ n ∧ n < s.till ∧ s.cpu = c
theorem Cv.any {l : List Span} {n c : Int} (h : Cv l n c) : l.any (spanAt n c) = true := by
  obtain ⟨s, hs, h1, h2, h3⟩ := h
  exact List.any_eq_true.2 ⟨s, hs, by simp [spanAt, h1, h2, h3]⟩
theorem addSpan_cv {out : List Span} {c a e n : Int} (hg : Good out a) (hae : a < e) : (∀ d, Cv out n d → Cv (addSpan out c a e) n d) ∧ (a ≤ n → n < e → Cv (addSpan out c a e) n c) := by
  have happ : (∀ d, Cv out n d → Cv (out ++ [⟨c, a, e⟩]) n d) ∧ (a ≤ n → n < e → Cv (out ++ [⟨c, a, e⟩]) n c) :=
    ⟨fun d ⟨s, hs, h⟩ => ⟨s, List.mem_append_left _ hs, h⟩, fun h1 h2 => ⟨⟨c, a, e⟩, by simp, h1, h2, rfl⟩⟩
  unfold addSpan
  rcases Decidable.em (out = []) with rfl | hne
  · exact happ
  · obtain ⟨l, s, rfl⟩ : ∃ l s, out = l ++ [s] := ⟨_, _, (List.dropLast_concat_getLast hne).symm⟩
    have hgs : (l ++ [s])[(l ++ [s]).length - 1]? = some s := by simp
    rw [hgs]
    simp only []
    split
    · rename_i hc
      simp only [Bool.and_eq_true, beq_iff_eq] at hc
      have hset : (l ++ [s]).set ((l ++ [s]).length - 1) ⟨s.cpu, s.since, e⟩ = l ++ [⟨s.cpu, s.since, e⟩] := by simp
      rw [hset]
      have h0 := hg.1 s (by simp)
      refine ⟨fun d hd => ?_, fun h1 h2 => ⟨⟨s.cpu, s.since, e⟩, by simp, ?_, h2, hc.1⟩⟩
      · obtain ⟨x, hx, h1, h2, h3⟩ := hd
        rcases List.mem_append.1 hx with hx | hx
        · exact ⟨x, List.mem_append_left _ hx, h1, h2, h3⟩
        · simp at hx; subst hx
          refine ⟨⟨x.cpu, x.since, e⟩, by simp, h1, ?_, h3⟩
          show n < e; omega
      · show s.since ≤ n; omega
    · exact happ
theorem find_mem : ∀ {l : List Put} {p : Put}, (l.map (·.vcpu)).Nodup → p ∈ l → l.find? (fun q => q.vcpu == p.vcpu) = some p
  | q :: l, p, hn, hp => by
    simp only [List.map_cons, List.nodup_cons] at hn
    rcases List.mem_cons.1 hp with rfl | hp
    · rw [List.find?_cons_of_pos (by simp)]
    · rw [List.find?_cons_of_neg (by
        have : q.vcpu ≠ p.vcpu := fun e => hn.1 (List.mem_map.2 ⟨p, hp, e.symm⟩)
        simpa using this)]
      exact find_mem hn.2 hp
theorem spansTo_cv {t : Trace} (hr : right t = true) (v n : Int) : ∀ i, i ≤ t.frames.length → ∀ j f p, j < i → Hold t n j f → f.puts.find? (fun q => q.vcpu == v) = some p → Cv (spansTo t v i) n p.cpu
  | 0, _, j, f, p, hj, _, _ => by omega
  | i + 1, hi, j, f, p, hj, hh, hp => by
    have ih := spansTo_cv hr v n i (by omega)
    obtain ⟨ig, _⟩ := spansTo_good hr v i (by omega)
    obtain ⟨g, hg, _, _⟩ := get_of_lt (l := t.frames) (i := i) (by omega)
    have hgr := right_get hr hg
    have hte := time_end hr hg
    have hfr : fromT t i = g.time := by unfold fromT; rw [hg]
    rw [hfr] at ig
    simp only [spansTo]
    rw [get_putsAt hg, timeAt_eq hg]
    by_cases hae : g.time = endT t i
    · rw [fold_eq _ _ _ hae]
      rcases Nat.lt_or_ge j i with h | h
      · exact ih j f p h hh hp
      · have e : j = i := by omega
        subst e
        obtain ⟨w1, w2, w3⟩ := hh
        rw [hg] at w1; cases w1; omega
    · rw [fold_one _ _ _ hae _ _ (pic_nodup hgr.2.2.2).2.1]
      rcases Nat.lt_or_ge j i with h | h
      · have := ih j f p h hh hp
        cases hfd : g.puts.find? (fun p => p.vcpu == v) with
        | none => exact this
        | some q => exact (addSpan_cv ig (by omega)).1 _ this
      · have e : j = i := by omega
        subst e
        obtain ⟨w1, w2, w3⟩ := hh
        rw [hg] at w1; cases w1
        rw [hp]
        exact (addSpan_cv ig (by omega)).2 w2 w3
theorem spans_cv {t : Trace} (hr : right t = true) {n : Int} {j : Nat} {f : Frame} (hh : Hold t n j f) {p : Put} (hp : p ∈ f.puts) : (spansF t p.vcpu).any (spanAt n p.cpu) = true := by
  have hn := (pic_nodup (right_get hr hh.1).2.2.2).2.1
  have := spansTo_cv hr p.vcpu n t.frames.length (Nat.le_refl _) j f p (lt_of_get hh.1) hh (find_mem hn hp)
  unfold spansF
  rw [if_pos hr]
  exact this.any
theorem at_facts {t : Trace} (hr : right t = true) (n : Int) : ((atF t n).1.map (·.vcpu)).Nodup ∧ (atF t n).1.length ≤ 8 ∧ ∀ p ∈ (atF t n).1, (spansF t p.vcpu).any (spanAt n p.cpu) = true := by
  by_cases hx : ∃ j f, Hold t n j f
  · obtain ⟨j, f, hh⟩ := hx
    rw [at_of hr hh]
    have := (right_get hr hh.1).2.2.2
    exact ⟨(pic_nodup this).2.1, pic_len8 this, fun p hp => spans_cv hr hh hp⟩
  · rw [at_none hr (fun j f hh => hx ⟨j, f, hh⟩)]
    simp
end Go.Proofs.Ythlmfkeeneeaoaa
