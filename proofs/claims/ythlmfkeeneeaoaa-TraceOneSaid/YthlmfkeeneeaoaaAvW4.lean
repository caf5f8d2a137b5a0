/- Generic: a calculus of what calls do to memory that is given by its values. It states nothing of the program. -/
import Derived.Test.YthlmfkeeneeaoaaAvW3
set_option linter.all false
set_option linter.unnecessarySimpa false
set_option linter.unusedVariables false
set_option linter.unusedSimpArgs false
namespace Go.Proofs.Ythlmfkeeneeaoaa
open Go Go.Av

/-! ### plain: what is added to a trace -/
theorem timeOKz : timeOK 0 = true := by decide
theorem longF_is {p : Put → Bool} {t : Trace} {a z : Int} (hr : right t = true) (ha : timeOK a = true) (hz : timeOK z = true) (haz : a ≤ z) : longF p t a z = (sumTo (share p t a z) t.frames.length, 0) := by
  unfold longF
  rw [if_neg (by rw [hr]; simp), if_neg (by rw [ha, hz]; simp; omega)]
theorem rightL_of {fin : Int} : ∀ {l : List Frame} {prev : Option Frame}, (∀ (i : Nat) (f : Frame), l[i]? = some f → frameOK fin f = true) → (∀ (i : Nat) (g f : Frame), l[i]? = some g → l[i + 1]? = some f → g.time < f.time ∧ g.puts ≠ f.puts) → (∀ f, l[0]? = some f → linkOK prev f = true) → rightL fin prev l = true
  | [], _, _, _, _ => rfl
  | f :: r, prev, h1, h2, h3 => by
    simp only [rightL, Bool.and_eq_true]
    refine ⟨⟨h1 0 f rfl, h3 f rfl⟩, rightL_of (fun i g hg => h1 (i + 1) g (by simpa using hg)) (fun i g u hg hu => h2 (i + 1) g u (by simpa using hg) (by simpa using hu)) (fun g hg => ?_)⟩
    have := h2 0 f g rfl (by simpa using hg)
    simp only [linkOK, linkBad, Bool.not_eq_true', Bool.or_eq_false_iff, decide_eq_false_iff_not]
    exact ⟨by omega, this.2⟩
theorem right_of {t : Trace} (hl : t.frames.length ≤ 4000) (hf : 0 ≤ t.fin ∧ t.fin ≤ 1125899906842624) (h1 : ∀ (i : Nat) (f : Frame), t.frames[i]? = some f → 0 ≤ f.time ∧ f.time ≤ t.fin ∧ picF [] f.puts = true) (h2 : ∀ (i : Nat) (g f : Frame), t.frames[i]? = some g → t.frames[i + 1]? = some f → g.time < f.time ∧ g.puts ≠ f.puts) : right t = true := by
  have h0 : rightL t.fin none t.frames = true := rightL_of (fun i f hh => by
    have := h1 i f hh
    simp only [frameOK, Bool.and_eq_true, Bool.not_eq_true', decide_eq_false_iff_not]
    exact ⟨timeOK_iff.2 (by omega), by omega, this.2.2⟩) h2 (fun _ _ => rfl)
  simp only [right, Bool.and_eq_true, Bool.not_eq_true', decide_eq_false_iff_not]
  exact ⟨by omega, timeOK_iff.2 hf, h0⟩
theorem right_lt {t : Trace} (hr : right t = true) : ∀ (d i : Nat) (g f : Frame), t.frames[i]? = some g → t.frames[i + d + 1]? = some f → g.time < f.time
  | 0, i, g, f, hg, hf => (right_link hr hg hf).1
  | d + 1, i, g, f, hg, hf => by
    obtain ⟨u, hu, _, _⟩ := get_of_lt (l := t.frames) (i := i + d + 1) (by
      rcases Nat.lt_or_ge (i + (d + 1) + 1) t.frames.length with h | h
      · omega
      · rw [List.getElem?_eq_none h] at hf; cases hf)
    have := right_lt hr d i g u hg hu
    have := (right_link hr hu (f := f) (by rw [show i + d + 1 + 1 = i + (d + 1) + 1 from by omega]; exact hf)).1
    omega
theorem put_shape (L : List Frame) (now : Int) (puts : List Put) : (putLast L now puts = L ∧ ∃ g, lastF L = some g ∧ g.puts = puts) ∨ (putLast L now puts = L ++ [⟨now, puts⟩] ∧ ∀ g, lastF L = some g → g.puts ≠ puts) := by
  unfold putLast
  cases hl : lastF L with
  | none => exact .inr ⟨rfl, by simp⟩
  | some g =>
    by_cases h : g.puts = puts
    · exact .inl ⟨by simp [h], g, rfl, h⟩
    · exact .inr ⟨by simp [h], fun x hx => by cases hx; exact h⟩
theorem lastF_take {F : List Frame} {m : Nat} (hm : m ≤ F.length) (h0 : 0 < m) : lastF (F.take m) = F[m - 1]? := by
  unfold lastF
  rw [List.length_take, Nat.min_eq_left hm, List.getElem?_take_of_lt (by omega)]
structure Shape (t : Trace) (now : Int) (puts : List Put) (m : Nat) (X : List Frame) : Prop where
  le : m ≤ t.frames.length
  cut : m = t.frames.length ∨ (m + 1 = t.frames.length ∧ ∃ f, t.frames[m]? = some f ∧ f.time = now)
  lt : ∀ (i : Nat) (f : Frame), i < m → t.frames[i]? = some f → f.time < now
  pre : ∀ i, i < m → X[i]? = t.frames[i]?
  end_ : (X.length = m ∧ 0 < m ∧ ∃ g, t.frames[m - 1]? = some g ∧ g.puts = puts) ∨ (X.length = m + 1 ∧ X[m]? = some ⟨now, puts⟩ ∧ ∀ g, 0 < m → t.frames[m - 1]? = some g → g.puts ≠ puts)
theorem shape_of {t : Trace} {now : Int} {m : Nat} (puts : List Put) (hm : m ≤ t.frames.length) (hc : m = t.frames.length ∨ (m + 1 = t.frames.length ∧ ∃ f, t.frames[m]? = some f ∧ f.time = now)) (hlt : ∀ (i : Nat) (f : Frame), i < m → t.frames[i]? = some f → f.time < now) :
    Shape t now puts m (putLast (t.frames.take m) now puts) := by
  have hlen : (t.frames.take m).length = m := by rw [List.length_take, Nat.min_eq_left hm]
  rcases put_shape (t.frames.take m) now puts with ⟨e, g, hg, hp⟩ | ⟨e, hg⟩
  · have h0 : 0 < m := by
      rcases Nat.eq_zero_or_pos m with rfl | h
      · simp [lastF] at hg
      · exact h
    rw [e]
    exact ⟨hm, hc, hlt, fun i hi => List.getElem?_take_of_lt hi, .inl ⟨hlen, h0, g, by rw [← lastF_take hm h0]; exact hg, hp⟩⟩
  · rw [e]
    refine ⟨hm, hc, hlt, fun i hi => ?_, .inr ⟨by rw [List.length_append, hlen]; rfl, ?_, fun g h0 hh => hg g (by rw [lastF_take hm h0]; exact hh)⟩⟩
    · rw [List.getElem?_append_left (by omega), List.getElem?_take_of_lt hi]
    · rw [List.getElem?_append_right (by omega), hlen]; simp
theorem add_shape {t : Trace} (hr : right t = true) {now : Int} (hle : t.fin ≤ now) (puts : List Put) : ∃ m X, withF ⟨t.frames, now⟩ puts = ⟨X, now⟩ ∧ Shape t now puts m X := by
  unfold withF cutLast
  cases hl : lastF t.frames with
  | none =>
    have hz : t.frames = [] := by
      unfold lastF at hl
      rw [List.getElem?_eq_none_iff] at hl
      exact List.length_eq_zero_iff.1 (by omega)
    refine ⟨0, _, rfl, ?_⟩
    have := shape_of (t := t) (now := now) (m := 0) puts (by omega) (.inl (by rw [hz]; rfl)) (fun i f hi => by omega)
    simp only [hl]
    rw [List.take_zero] at this
    rw [hz]
    exact this
  | some f =>
    simp only [hl]
    have hf := hl
    unfold lastF at hf
    have hn : 0 < t.frames.length := by
      rcases Nat.eq_zero_or_pos t.frames.length with h | h
      · rw [List.length_eq_zero_iff.1 h] at hf; simp at hf
      · exact h
    have hlow : ∀ (i : Nat) (g : Frame), i < t.frames.length - 1 → t.frames[i]? = some g → g.time < f.time := fun i g hi hg =>
      right_lt hr (t.frames.length - 1 - i - 1) i g f hg (by rw [show i + (t.frames.length - 1 - i - 1) + 1 = t.frames.length - 1 from by omega]; exact hf)
    have hft := (right_get hr hf).2.2.1
    by_cases hc : f.time = now
    · rw [if_pos (by simp [hc])]
      refine ⟨t.frames.length - 1, _, rfl, shape_of puts (by omega) (.inr ⟨by omega, f, hf, hc⟩) fun i g hi hg => ?_⟩
      have := hlow i g hi hg; omega
    · rw [if_neg (by simp [hc])]
      refine ⟨t.frames.length, _, rfl, ?_⟩
      have := shape_of (t := t) (now := now) (m := t.frames.length) puts (Nat.le_refl _) (.inl rfl) (fun i g hi hg => by
        rcases Nat.lt_or_ge i (t.frames.length - 1) with h | h
        · have := hlow i g h hg; omega
        · have : i = t.frames.length - 1 := by omega
          rw [this, hf] at hg; cases hg; omega)
      rw [List.take_length] at this
      exact this

section
variable {t : Trace} {now : Int} {puts : List Put} {m : Nat} {X : List Frame}
theorem Shape.get (h : Shape t now puts m X) {i : Nat} {f : Frame} (hf : X[i]? = some f) : (i < m ∧ t.frames[i]? = some f ∧ f.time < now) ∨ (i = m ∧ f = ⟨now, puts⟩ ∧ X.length = m + 1) := by
  have hi : i < X.length := by
    rcases Nat.lt_or_ge i X.length with h | h
    · exact h
    · rw [List.getElem?_eq_none h] at hf; cases hf
  rcases Nat.lt_or_ge i m with hm | hm
  · have := h.pre i hm
    rw [hf] at this
    exact .inl ⟨hm, this.symm, h.lt i f hm this.symm⟩
  · rcases h.end_ with ⟨e, _⟩ | ⟨e, e2, _⟩
    · omega
    · have : i = m := by omega
      subst this
      rw [e2] at hf; cases hf
      exact .inr ⟨rfl, rfl, e⟩
theorem Shape.right (h : Shape t now puts m X) (hr : right t = true) (hn : 0 ≤ now) (hl : t.frames.length < 4000) (hp : picF [] puts = true) {e : Int} (he : now ≤ e) (hM : e ≤ 1125899906842624) : Proofs.Ythlmfkeeneeaoaa.right ⟨X, e⟩ = true := by
  have hXl : X.length ≤ m + 1 := by rcases h.end_ with ⟨e, _⟩ | ⟨e, _⟩ <;> omega
  have := h.le
  refine right_of (t := ⟨X, e⟩) (by simp only []; omega) (by simp only []; omega) (fun i f hf => ?_) (fun i g f hg hf => ?_)
  · simp only [] at hf ⊢
    rcases h.get hf with ⟨_, h1, h2⟩ | ⟨_, rfl, _⟩
    · have := right_get hr h1; exact ⟨by omega, by omega, this.2.2.2⟩
    · simp only []; exact ⟨by omega, by omega, hp⟩
  · simp only [] at hf hg
    rcases h.get hg with ⟨a1, a2, a3⟩ | ⟨a1, a2, a3⟩
    · rcases h.get hf with ⟨b1, b2, b3⟩ | ⟨b1, rfl, b3⟩
      · exact right_link hr a2 b2
      · simp only []
        refine ⟨a3, ?_⟩
        rcases h.end_ with ⟨e, _⟩ | ⟨_, _, e3⟩
        · omega
        · exact e3 g (by omega) (by rw [show m - 1 = i from by omega]; exact a2)
    · rcases h.get hf with ⟨b1, _⟩ | ⟨b1, _⟩ <;> omega
theorem Shape.last (h : Shape t now puts m X) : ∃ k f, X.length = k + 1 ∧ X[k]? = some f ∧ f.puts = puts ∧ f.time ≤ now := by
  rcases h.end_ with ⟨e, h0, g, hg, hp⟩ | ⟨e, e2, _⟩
  · have hx := h.pre (m - 1) (by omega)
    rw [hg] at hx
    have := h.lt (m - 1) g (by omega) hg
    exact ⟨m - 1, g, by omega, hx, hp, by omega⟩
  · exact ⟨m, _, e, e2, rfl, Int.le_refl _⟩
theorem Shape.at (h : Shape t now puts m X) (hr : Proofs.Ythlmfkeeneeaoaa.right ⟨X, now + 1⟩ = true) : atF ⟨X, now + 1⟩ now = (puts, true) := by
  obtain ⟨k, f, hk, hf, hp, ht⟩ := h.last
  unfold atF
  rw [if_pos hr]
  have hn : X[k + 1]? = none := List.getElem?_eq_none (by omega)
  have : firstI (holdsAt ⟨X, now + 1⟩ now) X.length = some k := firstI_some (by omega) (by unfold holdsAt; simp only [hf]; rw [endT_last (t := ⟨X, now + 1⟩) hn]; simp; omega) (fun j hj => by
    unfold holdsAt
    obtain ⟨u, hu, _, _⟩ := get_of_lt (l := X) (i := j) (by omega)
    obtain ⟨w, hw, _, _⟩ := get_of_lt (l := X) (i := j + 1) (by omega)
    simp only [hu]
    rw [endT_next (t := ⟨X, now + 1⟩) hw]
    have : w.time ≤ now := by
      rcases h.get hw with ⟨_, _, h3⟩ | ⟨_, rfl, _⟩
      · omega
      · exact Int.le_refl _
    simp; omega)
  simp only [this]
  rw [get_putsAt (t := ⟨X, now + 1⟩) hf, hp]
theorem Shape.share (h : Shape t now puts m X) (hr : Proofs.Ythlmfkeeneeaoaa.right t = true) (hle : t.fin ≤ now) (p : Put → Bool) : sumTo (share p t 0 t.fin) t.frames.length = sumTo (share p ⟨X, now⟩ 0 t.fin) X.length := by
  have hlow : ∀ i, i < m → Proofs.Ythlmfkeeneeaoaa.share p t 0 t.fin i = Proofs.Ythlmfkeeneeaoaa.share p ⟨X, now⟩ 0 t.fin i := fun i hi => by
    have hm := h.le
    obtain ⟨f, hf, _, _⟩ := get_of_lt (l := t.frames) (i := i) (by omega)
    have hx := h.pre i hi
    rw [hf] at hx
    unfold Proofs.Ythlmfkeeneeaoaa.share
    simp only [hf, hx]
    have he : mnI (endT t i) t.fin = mnI (endT ⟨X, now⟩ i) t.fin := by
      rcases Nat.lt_or_ge (i + 1) m with h1 | h1
      · obtain ⟨u, hu, _, _⟩ := get_of_lt (l := t.frames) (i := i + 1) (by omega)
        have hxu := h.pre (i + 1) h1
        rw [hu] at hxu
        rw [endT_next hu, endT_next (t := ⟨X, now⟩) hxu]
      · have e1 : endT t i = t.fin := by
          rcases h.cut with hc | ⟨hc, u, hu, hn⟩
          · rw [endT_last (List.getElem?_eq_none (by omega))]
          · have hi' : i + 1 = m := by omega
            have hfin := (right_get hr hu).2.2.1
            rw [← hi'] at hu
            rw [endT_next hu]; omega
        have e2 : endT ⟨X, now⟩ i = now := by
          cases hx1 : X[i + 1]? with
          | none => rw [endT_last (t := ⟨X, now⟩) hx1]
          | some u =>
            rw [endT_next (t := ⟨X, now⟩) hx1]
            rcases h.get hx1 with ⟨b1, _⟩ | ⟨_, rfl, _⟩
            · omega
            · rfl
        rw [e1, e2, mnI_min, mnI_min]; omega
    rw [he]
  have e1 : sumTo (Proofs.Ythlmfkeeneeaoaa.share p t 0 t.fin) t.frames.length = sumTo (Proofs.Ythlmfkeeneeaoaa.share p t 0 t.fin) m := by
    rcases h.cut with hc | ⟨hc, u, hu, hn⟩
    · rw [hc]
    · rw [← hc]
      simp only [sumTo]
      have hfin := (right_get hr hu).2.2.1
      have : Proofs.Ythlmfkeeneeaoaa.share p t 0 t.fin m = 0 := by
        unfold Proofs.Ythlmfkeeneeaoaa.share
        simp only [hu]
        split
        · rw [mxI_max, mnI_min, mxI_max]; omega
        · rfl
      omega
  have e2 : sumTo (Proofs.Ythlmfkeeneeaoaa.share p ⟨X, now⟩ 0 t.fin) X.length = sumTo (Proofs.Ythlmfkeeneeaoaa.share p ⟨X, now⟩ 0 t.fin) m := by
    rcases h.end_ with ⟨e, _⟩ | ⟨e, hx, _⟩
    · rw [e]
    · rw [e]
      simp only [sumTo]
      have : Proofs.Ythlmfkeeneeaoaa.share p ⟨X, now⟩ 0 t.fin m = 0 := by
        unfold Proofs.Ythlmfkeeneeaoaa.share
        simp only [hx]
        split
        · rw [mxI_max, mnI_min, mxI_max]; omega
        · rfl
      omega
  rw [e1, e2]
  exact sumTo_congr m hlow
end
end Go.Proofs.Ythlmfkeeneeaoaa
