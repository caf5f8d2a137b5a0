/- Generic: a calculus of what calls do to memory that is given by its values. It states nothing of the program. -/
import Derived.Test.YthlmfkeeneeaoaaAvG2
import Derived.Laws.Sem
import Derived.Laws.StructEq
import Derived.IntWalk
import Derived.Deep.Slices
import Derived.ReadAgain
import Derived.ChangeOld
import Derived.WalkKit
import Derived.ProofKit
import Derived.OpenShut
set_option linter.all false
set_option linter.unnecessarySimpa false
set_option linter.unusedVariables false
set_option linter.unusedSimpArgs false
namespace Go.Av
open Go.RowKit

section
variable {P : Program} {T : Tb} {E : Eq'} {top : Bool} {F : Fence} {N b : Nat}

theorem put_relF {c : Cx} {tm tm' : Nat → AVal} {a : Act} {dst : Option Nat} {v : AVal} {y : Value} (hd : dOK N dst) (hsz : a.tmps.size = N) (hfr : ∀ t, Rel c (tm t) (a.tmps.getD t undef)) (hr : Rel c v y)
    (htm : ∀ t, tm' t = if dst = some t then v else tm t) : (∀ t, Rel c (tm' t) ((a.put dst y).tmps.getD t undef)) ∧ (a.put dst y).tmps.size = N ∧ (a.put dst y).defers = a.defers := by
  cases dst with
  | none => exact ⟨fun t => by rw [htm]; exact hfr t, hsz, rfl⟩
  | some d =>
    refine ⟨fun t => ?_, by simp [Act.put, hsz], rfl⟩
    rw [htm]
    simp only [Option.some.injEq, Act.put]
    by_cases h : d = t
    · subst h
      have : d < a.tmps.size := by rw [hsz]; exact hd
      simp [this, hr]
    · simp only [h, if_false]
      have := hfr t
      simp only [Array.getD_eq_getD_getElem?] at this ⊢
      rw [Array.getElem?_setIfInBounds_ne h]
      exact this

theorem yielded_ofF {ops : List Oper} {c : Cx} {tm : Nat → AVal} {a : Act} (hfr : ∀ t, Rel c (tm t) (a.tmps.getD t undef)) {j d : Nat} {x : Bool} (hj : ((ops.map (·.dst))[j]?).join = some d) (hd : tm d = .v (.bool x)) :
    yielded ops.toArray a.tmps j = some x := by
  have h1 : (ops.toArray[j]?).bind (·.dst) = some d := by
    rw [List.getElem?_map] at hj
    simp only [List.getElem?_toArray]
    cases ho : ops[j]? with
    | none => rw [ho] at hj; simp at hj
    | some o => rw [ho] at hj; simpa using hj
  have h2 := hfr d
  rw [hd] at h2
  have h3 : a.tmps.getD d undef = .bool x := h2.1
  unfold yielded
  rw [h1]
  simp only [Option.bind_some]
  rw [Array.getD_eq_getD_getElem?] at h3
  cases hh : a.tmps[d]? with
  | none => rw [hh] at h3; simp [undef] at h3
  | some u => rw [hh] at h3; simp at h3; subst h3; rfl

theorem yielded_notF {ops : List Oper} {c : Cx} {tm : Nat → AVal} {a : Act} (hfr : ∀ t, Rel c (tm t) (a.tmps.getD t undef)) {j d : Nat} (hj : ((ops.map (·.dst))[j]?).join = some d) (hd : tm d = .tup []) :
    yielded ops.toArray a.tmps j = none := by
  have h1 : (ops.toArray[j]?).bind (·.dst) = some d := by
    rw [List.getElem?_map] at hj
    simp only [List.getElem?_toArray]
    cases ho : ops[j]? with
    | none => rw [ho] at hj; simp at hj
    | some o => rw [ho] at hj; simpa using hj
  have h2 := hfr d
  rw [hd] at h2
  obtain ⟨cs, h3, h4⟩ := h2
  cases h4
  unfold yielded
  rw [h1]
  simp only [Option.bind_some]
  rw [Array.getD_eq_getD_getElem?] at h3
  cases hh : a.tmps[d]? with
  | none => rfl
  | some u => rw [hh] at h3; simp at h3; subst h3; rfl

structure DS (ops : List Oper) (RS : List Rc) (s0 : AS) (N b : Nat) (S : Nat → Bool) (c : Cx) (a : Act) : Prop where
  heap : HeapOK c (st (uH RS) S (hpF s0.F b s0.L) ops.length)
  fr : ∀ t, Rel c (st (uT ops RS) S (getT s0.tm) ops.length t) (a.tmps.getD t undef)
  size : a.tmps.size = N
  ds : DefOK c s0.ds a.defers

def ls (listed : Array Bool) : Nat → Bool := fun k => listed.getD k false

theorem ls_set {listed : Array Bool} {i : Nat} (hi : i < listed.size) : ls (listed.setIfInBounds i true) = fun k => ls listed k || k == i := by
  funext k
  simp only [ls, Array.getD_eq_getD_getElem?]
  by_cases h : i = k
  · subst h; simp [hi]
  · rw [Array.getElem?_setIfInBounds_ne h]
    have : (k == i) = false := by simp; omega
    simp [this]

theorem ready_spec {ops : List Oper} {listed : Array Bool} (hsz : listed.size = ops.length) {i : Nat} :
    i ∈ Region.ready .any ops.toArray listed ↔ ∃ o, ops[i]? = some o ∧ ls listed i = false ∧ ∀ k ∈ aft o, ls listed k = true := by
  simp only [Region.ready, List.mem_filter, List.mem_range, List.size_toArray, Bool.and_eq_true, Bool.not_eq_true', List.getElem?_toArray]
  constructor
  · rintro ⟨h1, h2, h3⟩
    obtain ⟨o, ho⟩ : ∃ o, ops[i]? = some o := ⟨ops[i], by simp [h1]⟩
    refine ⟨o, ho, ?_, ?_⟩
    · simp only [ls, Array.getD_eq_getD_getElem?] at h2 ⊢
      have : i < listed.size := by omega
      simp [this] at h2 ⊢
      exact h2
    · rw [ho] at h3
      simp only [Option.map_some, Option.getD_some, Array.all_eq_true'] at h3
      intro k hk
      simp only [aft, List.mem_map, List.mem_filter] at hk
      obtain ⟨e, ⟨he, hb⟩, rfl⟩ := hk
      have := h3 e (by simpa using he)
      simp only [hb, Bool.not_true, Bool.false_or] at this
      simpa [ls] using this
  · rintro ⟨o, ho, h2, h3⟩
    have h1 : i < ops.length := by
      rcases Nat.lt_or_ge i ops.length with h1 | h1
      · exact h1
      · rw [List.getElem?_eq_none h1] at ho; cases ho
    refine ⟨h1, ?_, ?_⟩
    · simp only [ls, Array.getD_eq_getD_getElem?] at h2 ⊢
      have : i < listed.size := by omega
      simp [this] at h2 ⊢
      exact h2
    · rw [ho]
      simp only [Option.map_some, Option.getD_some, Array.all_eq_true']
      intro e he
      cases hb : Region.binds .any e with
      | false => rfl
      | true =>
        have := h3 e.on (by simp only [aft, List.mem_map, List.mem_filter]; exact ⟨e, ⟨by simpa using he, hb⟩, rfl⟩)
        simpa [ls] using this

theorem draw_step (hT : Tab P T) (hE : Eqs P E) (hF : Fok top F) {ops : List Oper} {RS : List Rc} {s0 : AS} (htop : topF s0.F b) (htm : tmpOK ops = true) (hord : allOrd ops (conf (accOf 0 RS [])) = true) (hlen : RS.length = ops.length)
    (hlex : ∀ k, k < ops.length → ∃ o r sk, ops[k]? = some o ∧ RS[k]? = some r ∧ Agr b ops RS s0 sk k ∧ dOK N o.dst ∧ r.nid = b + sk.L.length ∧ GOn (ops.map (·.dst)) (getT sk.tm) o r.on ∧
      (r.on = true → DOp P T E b o sk r) ∧ (r.on = false → r.v = .tup [] ∧ r.sets = [] ∧ r.new = none))
    {S : Nat → Bool} (hS : Down ops S) {c : Cx} {a : Act} (hd : DS ops RS s0 N b S c a) {i : Nat} {o : Oper} (ho : ops[i]? = some o) (hi : S i = false) (hr : ∀ k ∈ aft o, S k = true)
    {K : Act → World → Prop} {Q : Exit → Act → World → Prop} (hK : ∀ c' a', DS ops RS s0 N b (fun k => S k || k == i) c' a' → c.le c' → K a' c'.w) :
    wpOpIn F 0 P ops.toArray Q i K a c.w := by
  have hin : i < ops.length := by
    rcases Nat.lt_or_ge i ops.length with h1 | h1
    · exact h1
    · rw [List.getElem?_eq_none h1] at ho; cases ho
  obtain ⟨o', r, sk, ho', hro, hagr, hdst, hnid, hgon, hon, hoff⟩ := hlex i hin
  rw [ho] at ho'; cases ho'
  -- temporaries that are read
  have rdT : ∀ t, t ∈ useT (ops.map (·.dst)) o → st (uT ops RS) S (getT s0.tm) ops.length t = getT sk.tm t := by
    intro t ht
    rw [hagr.1 t]
    have wr : ∀ j, uT ops RS j t ≠ none → j ≠ i → (j < i ∧ S j = true) ∨ (i < j ∧ S j = false) := by
      intro j hj hne
      unfold uT at hj
      split at hj
      · rename_i oj rj hoj hrj
        split at hj
        · rename_i hdj
          rcases Nat.lt_or_gt_of_ne hne with h1 | h1
          · rcases tmpOK_pair htm hoj ho h1 with h2 | ⟨h2, _⟩
            · exact ordd_spec htm hS ho hi hr (.inr h2)
            · exact absurd ht (h2 t hdj).1
          · rcases tmpOK_pair htm ho hoj h1 with h2 | ⟨_, h2⟩
            · exact ordd_spec htm hS ho hi hr (.inl h2)
            · exact absurd ht (h2 t hdj)
        · exact absurd rfl hj
      · exact absurd rfl hj
    refine st_read (Nat.le_of_lt hin) (fun j hj hu => ?_) (fun j hj hjn hSj => ?_)
    · rcases wr j hu (by omega) with ⟨_, h⟩ | ⟨h, _⟩
      · exact h
      · omega
    · cases hu : uT ops RS j t with
      | none => rfl
      | some v =>
        by_cases hji : j = i
        · subst hji; rw [hi] at hSj; cases hSj
        · rcases wr j (by simp [hu]) hji with ⟨h, _⟩ | ⟨_, h⟩
          · omega
          · rw [h] at hSj; cases hSj
  -- objects that are met
  have wrH : r.on = true → ∀ id, (id ∈ r.foot ∨ id ∈ wids r.nid r.sets r.new) → ∀ j, uH RS j id ≠ none → j ≠ i → (j < i ∧ S j = true) ∨ (i < j ∧ S j = false) := by
    intro hrn id hid j hj hne
    unfold uH at hj
    split at hj
    · rename_i rj hrj
      have hw : id ∈ wids rj.nid rj.sets rj.new := by
        by_cases h : id ∈ wids rj.nid rj.sets rj.new
        · exact h
        · rw [hov_none rj id h] at hj; exact absurd rfl hj
      have hrjon : rj.on = true := by
        cases hb : rj.on with
        | true => rfl
        | false =>
          have hjn : j < ops.length := by
            rcases Nat.lt_or_ge j ops.length with h1 | h1
            · exact h1
            · rw [List.getElem?_eq_none (by omega)] at hrj; cases hrj
          obtain ⟨_, rj', _, _, hrj', _, _, _, _, _, hoffj⟩ := hlex j hjn
          rw [hrj] at hrj'; cases hrj'
          obtain ⟨_, h2, h3⟩ := hoffj hb
          rw [h2, h3] at hw; simp [wids] at hw
      have m1 := (accOf_mem RS 0 []).2 i r hro hrn
      have m2 := (accOf_mem RS 0 []).2 j rj hrj hrjon
      have hc := conf_mem _ _ _ m2 m1 (by simpa using hne) ⟨id, hw, hid.symm⟩
      simp only [Nat.zero_add] at hc
      have hall : ∀ p ∈ conf (accOf 0 RS []), ordd (anc ops) p.1 p.2 = true := by simpa [allOrd, List.all_eq_true] using hord
      rcases hc with h | h
      · exact ordd_spec htm hS ho hi hr (.inr (hall _ h))
      · exact ordd_spec htm hS ho hi hr (.inl (hall _ h))
    · exact absurd rfl hj
  have rdH : r.on = true → ∀ id, (id ∈ r.foot ∨ id ∈ wids r.nid r.sets r.new) → st (uH RS) S (hpF s0.F b s0.L) ops.length id = hpF sk.F b sk.L id := by
    intro hrn id hid
    rw [hagr.2.1 id]
    refine st_read (Nat.le_of_lt hin) (fun j hj hu => ?_) (fun j hj hjn hSj => ?_)
    · rcases wrH hrn id hid j hu (by omega) with ⟨_, h⟩ | ⟨h, _⟩
      · exact h
      · omega
    · cases hu : uH RS j id with
      | none => rfl
      | some v =>
        by_cases hji : j = i
        · subst hji; rw [hi] at hSj; cases hSj
        · rcases wrH hrn id hid j (by simp [hu]) hji with ⟨h, _⟩ | ⟨_, h⟩
          · omega
          · rw [h] at hSj; cases hSj
  have addT : ∀ t, st (uT ops RS) (fun k => S k || k == i) (getT s0.tm) ops.length t = if o.dst = some t then r.v else st (uT ops RS) S (getT s0.tm) ops.length t := by
    intro t
    rw [st_add hi ops.length hin]
    · simp only [uT, ho, hro]
      split <;> rfl
    · intro hu j hij hjn hSj
      cases huj : uT ops RS j t with
      | none => rfl
      | some v =>
        exfalso
        simp only [uT, ho, hro] at hu
        split at hu
        · rename_i hdo
          unfold uT at huj
          split at huj
          · rename_i oj rj hoj hrj
            split at huj
            · rename_i hdj
              rcases tmpOK_pair htm ho hoj hij with h2 | ⟨h2, _⟩
              · rcases ordd_spec htm hS ho hi hr (.inl h2) with ⟨h3, _⟩ | ⟨_, h3⟩
                · omega
                · rw [h3] at hSj; cases hSj
              · exact (h2 t hdo).2 hdj
            · cases huj
          · cases huj
        · exact hu rfl
  have addH : ∀ id, st (uH RS) (fun k => S k || k == i) (hpF s0.F b s0.L) ops.length id = (hov r id).or (st (uH RS) S (hpF s0.F b s0.L) ops.length id) := by
    intro id
    rw [st_add hi ops.length hin]
    · simp only [uH, hro]
      cases hov r id <;> rfl
    · intro hu j hij hjn hSj
      cases huj : uH RS j id with
      | none => rfl
      | some v =>
        exfalso
        simp only [uH, hro] at hu
        have hw : id ∈ wids r.nid r.sets r.new := by
          by_cases h : id ∈ wids r.nid r.sets r.new
          · exact h
          · rw [hov_none r id h] at hu; exact absurd rfl hu
        have hrn : r.on = true := by
          cases hb : r.on with
          | true => rfl
          | false =>
            obtain ⟨_, h2, h3⟩ := hoff hb
            rw [h2, h3] at hw; simp [wids] at hw
        rcases wrH hrn id (.inr hw) j (by simp [huj]) (by omega) with ⟨h, _⟩ | ⟨_, h⟩
        · omega
        · rw [h] at hSj; cases hSj
  -- the guard
  have hwant : Region.wanted o (yielded ops.toArray a.tmps) = r.on := by
    unfold Region.wanted
    unfold GOn at hgon
    cases hg : o.guard with
    | none => rw [hg] at hgon; simp only at hgon ⊢; exact hgon.symm
    | some p =>
      obtain ⟨j, want⟩ := p
      rw [hg] at hgon
      simp only at hgon ⊢
      obtain ⟨d, h1, h2⟩ := hgon
      have hu : d ∈ useT (ops.map (·.dst)) o := List.mem_append_right _ (by simp only [hg]; rw [h1]; simp)
      rcases h2 with ⟨x, h2, h3⟩ | ⟨h2, h3⟩
      · rw [yielded_ofF hd.fr h1 (by rw [rdT d hu]; exact h2), h3]
        cases x <;> cases want <;> rfl
      · rw [yielded_notF hd.fr h1 (by rw [rdT d hu]; exact h2), h3]
        cases want <;> rfl
  have fin : ∀ (c' : Cx) (y : Value), HeapOK c' (st (uH RS) (fun k => S k || k == i) (hpF s0.F b s0.L) ops.length) → Rel c' r.v y → c.le c' → DS ops RS s0 N b (fun k => S k || k == i) c' (a.put o.dst y) := by
    intro c' y h1 h2 h3
    obtain ⟨p1, p2, p3⟩ := put_relF hdst hd.size (fun t => Rel.mono h3 _ _ (hd.fr t)) h2 addT
    exact ⟨h1, p1, p2, by rw [p3]; exact DefOK.mono h3 _ _ hd.ds⟩
  unfold wpOpIn
  simp only [List.getElem?_toArray, ho, hwant]
  cases hrn : r.on with
  | false =>
    obtain ⟨h1, h2, h3⟩ := hoff hrn
    simp only [Bool.false_eq_true, if_false]
    refine ⟨fun f _ => fok_fn hF f, hK c _ (fin c undef ?_ (by rw [h1]; exact ⟨[], rfl, rfl⟩) (Cx.le.refl c)) (Cx.le.refl c)⟩
    have : st (uH RS) (fun k => S k || k == i) (hpF s0.F b s0.L) ops.length = st (uH RS) S (hpF s0.F b s0.L) ops.length := by
      funext id
      rw [addH id, hov_none r id (by rw [h2, h3]; simp [wids])]
      rfl
    rw [this]; exact hd.heap
  | true =>
    simp only [if_true]
    have hop : ∀ x ∈ o.op.operands.toList, evF (st (uT ops RS) S (getT s0.tm) ops.length) x = evA sk.tm x := by
      intro x hx
      rw [evA_evF]
      cases x with
      | tmp t => exact rdT t (List.mem_append_left _ (List.mem_filterMap.2 ⟨.tmp t, hx, rfl⟩))
      | _ => rfl
    have hheap : ∀ (h' : Hp), (∀ id, h' id = (hov r id).or (st (uH RS) S (hpF s0.F b s0.L) ops.length id)) → h' = st (uH RS) (fun k => S k || k == i) (hpF s0.F b s0.L) ops.length := by
      intro h' hh
      funext id
      rw [hh id, addH id]
    obtain ⟨B, hB⟩ := st_bound (RS := RS) (S := S) ⟨b + s0.L.length, fun id hid => hpF_top (F := s0.F) (b := b) (L := s0.L) id hid⟩ ops.length
    rcases hon hrn with ⟨e, he, hp, e1, e2, e3, e4⟩ | ⟨f, args, ts, g, caps, need, hcall, hf, hpure, hneed, e2, e3, e4⟩
    · have he' := evO_loc (ev' := evF (st (uT ops RS) S (getT s0.tm) ops.length)) (h' := st (uH RS) S (hpF s0.F b s0.L) ops.length) he hop (fun id hid => rdH hrn id (.inl (by rw [e4]; exact hid)))
      cases hnew : e.new with
      | none =>
        have he'' := evO_nid (nid' := B) he' hnew
        refine evO_ok hT hE hF hd.heap (evF_rel hd.fr) (hB B (Nat.le_refl _)) he'' hp K Q fun c' y h1 h2 h3 => hK c' _ (fin c' y ?_ (by rw [e1]; exact h2) h3) h3
        rw [← hheap _ fun id => ?_]
        · exact h1
        · rw [hnew]
          have := hov_eq r (st (uH RS) S (hpF s0.F b s0.L) ops.length) id
          rw [e2, e3, hnew] at this
          exact this
      | some ob =>
        have hfresh : st (uH RS) S (hpF s0.F b s0.L) ops.length (b + sk.L.length) = none := by
          rw [rdH hrn _ (.inr (by rw [e3, hnew, ← hnid]; simp [wids]))]
          exact hpF_top _ (Nat.le_refl _)
        refine evO_ok hT hE hF hd.heap (evF_rel hd.fr) hfresh he' hp K Q fun c' y h1 h2 h3 => hK c' _ (fin c' y ?_ (by rw [e1]; exact h2) h3) h3
        rw [← hheap _ fun id => ?_]
        · exact h1
        · have := hov_eq r (st (uH RS) S (hpF s0.F b s0.L) ops.length) id
          rw [e2, e3, hnid] at this
          exact this
    · have hargs : args.toList.map (evF (st (uT ops RS) S (getT s0.tm) ops.length)) = args.toList.map (evA sk.tm) :=
        List.map_congr_left fun x hx => hop x (by rw [hcall]; simp [Op.operands, Call.operands]; exact .inr (by simpa using hx))
      have hf' : evF (st (uT ops RS) S (getT s0.tm) ops.length) f = .fn (.func g) caps := by
        rw [hop f (by rw [hcall]; simp [Op.operands, Call.operands])]; exact hf
      have hnd : ∀ p ∈ need, st (uH RS) S (hpF s0.F b s0.L) ops.length p.1 = some p.2 := fun p hp => by
        rw [rdH hrn p.1 (.inl (by rw [e4]; exact List.mem_map_of_mem hp))]
        exact hneed p hp
      have hc : CallE P g (args.toList.map (evF (st (uT ops RS) S (getT s0.tm) ops.length)) ++ caps) (st (uH RS) S (hpF s0.F b s0.L) ops.length) B r.v r.sets [] := by
        rw [hargs]
        refine hpure _ _ hnd fun p hp => ?_
        rcases Nat.lt_or_ge p.1 B with h | h
        · exact h
        · have := hnd p hp; rw [hB _ h] at this; cases this
      refine wp_call hF hd.heap hB (evF_rel hd.fr) hcall hf' hc fun c' y h1 h2 h3 => hK c' _ (fin c' y ?_ h2 h3) h3
      rw [← hheap _ fun id => ?_]
      · exact h1
      · have := hov_eq r (st (uH RS) S (hpF s0.F b s0.L) ops.length) id
        rw [e3] at this
        simp only [hnew] at this
        rw [← this]
        simp only [hpF]
        split
        · rfl
        · rename_i hid
          rw [hw_ov, hw_none _ _ (fun hm => by obtain ⟨q, hq, hqe⟩ := List.mem_map.1 hm; have := hc.2.1 q hq; omega), hB id (by omega)]; simp

theorem lex_length {dsts : List (Option Nat)} : ∀ {l : List Oper} {s : AS} {rs : List Rc} {s' : AS}, Lex P T E N b dsts l s rs s' → rs.length = l.length
  | [], _, [], _, _ => rfl
  | [], _, _ :: _, _, h => h.elim
  | _ :: _, _, [], _, h => h.elim
  | _ :: l, _, _ :: rs, _, h => by simp [lex_length h.2.2.2.2.2]

theorem draw_any (hT : Tab P T) (hE : Eqs P E) (hF : Fok top F) {ops : List Oper} {RS : List Rc} {s0 s1 : AS} (htop : topF s0.F b) (htm : tmpOK ops = true) (hord : allOrd ops (conf (accOf 0 RS [])) = true) (hlen : RS.length = ops.length)
    (hlex : ∀ k, k < ops.length → ∃ o r sk, ops[k]? = some o ∧ RS[k]? = some r ∧ Agr b ops RS s0 sk k ∧ dOK N o.dst ∧ r.nid = b + sk.L.length ∧ GOn (ops.map (·.dst)) (getT sk.tm) o r.on ∧
      (r.on = true → DOp P T E b o sk r) ∧ (r.on = false → r.v = .tup [] ∧ r.sets = [] ∧ r.new = none)) (hend : Agr b ops RS s0 s1 ops.length) {Q : Exit → AS → Prop} (hQ : Q .normal s1) :
    ∀ (fuel : Nat) (listed : Array Bool) (c0 c : Cx) (a : Act), listed.size = ops.length → cnt (ls listed) ops.length = fuel → Down ops (ls listed) → DS ops RS s0 N b (ls listed) c a → c0.le c →
      wpAnyIn F 0 P .any ops.toArray (fun e a' w' => ∃ c' s', c'.w = w' ∧ Q e s' ∧ Sim c' N b s' a' ∧ c0.leB b c') fuel listed a c.w := by
  have fin : ∀ (listed : Array Bool) (c0 c : Cx) (a : Act), (∀ k, k < ops.length → ls listed k = true) → DS ops RS s0 N b (ls listed) c a → c0.le c → ∃ c' s', c'.w = c.w ∧ Q .normal s' ∧ Sim c' N b s' a ∧ c0.leB b c' := by
    intro listed c0 c a hall hd hle
    refine ⟨c, s1, rfl, hQ, ⟨?_, fun t => ?_, hd.size, by rw [hend.2.2.2]; exact hd.ds, hend.2.2.1⟩, hle.toB b⟩
    · have : hpF s1.F b s1.L = st (uH RS) (ls listed) (hpF s0.F b s0.L) ops.length := by
        funext id
        rw [hend.2.1 id]
        exact (st_full ops.length fun j hj _ => hall j hj).symm
      rw [this]; exact hd.heap
    · rw [hend.1 t, ← st_full (S := ls listed) ops.length fun j hj _ => hall j hj]
      exact hd.fr t
  have stuck : ∀ (listed : Array Bool), listed.size = ops.length → Region.ready .any ops.toArray listed = [] → ∀ k, k < ops.length → ls listed k = true := by
    intro listed hsz hr k
    induction k using Nat.strongRecOn with
    | _ k ih =>
      intro hk
      cases hS : ls listed k with
      | true => rfl
      | false =>
        have hm : k ∈ Region.ready .any ops.toArray listed := (ready_spec hsz).2 ⟨ops[k], by simp [hk], hS, fun m hm => by
          have := (tmpOK_aft htm k ops[k] (by simp [hk])).1 m hm
          exact ih m this (by omega)⟩
        rw [hr] at hm; cases hm
  intro fuel
  induction fuel with
  | zero =>
    intro listed c0 c a hsz hc hD hd hle
    have hall := cnt_zero ops.length hc
    refine ⟨?_, fin listed c0 c a hall hd hle⟩
    cases hr : Region.ready .any ops.toArray listed with
    | nil => rfl
    | cons i r =>
      obtain ⟨o, ho, h1, _⟩ := (ready_spec hsz (i := i)).1 (by rw [hr]; exact List.mem_cons_self ..)
      have hi : i < ops.length := by
        rcases Nat.lt_or_ge i ops.length with h1 | h1
        · exact h1
        · rw [List.getElem?_eq_none h1] at ho; cases ho
      rw [hall i hi] at h1; cases h1
  | succ fuel ih =>
    intro listed c0 c a hsz hc hD hd hle
    refine ⟨fun hr => fin listed c0 c a (stuck listed hsz hr) hd hle, fun i hi => ?_⟩
    obtain ⟨o, ho, h1, h2⟩ := (ready_spec hsz).1 hi
    have hin : i < ops.length := by
      rcases Nat.lt_or_ge i ops.length with h1 | h1
      · exact h1
      · rw [List.getElem?_eq_none h1] at ho; cases ho
    refine draw_step hT hE hF htop htm hord hlen hlex hD hd ho h1 h2 fun c' a' hd' hle' => ?_
    have hls := ls_set (listed := listed) (i := i) (by omega)
    refine ih _ c0 c' a' (by simpa using hsz) ?_ ?_ (by rw [hls]; exact hd') (hle.trans hle')
    · rw [hls]
      have := (cnt_add h1 ops.length).2 hin
      omega
    · rw [hls]
      intro m om hm hSm k hk
      simp only [Bool.or_eq_true, beq_iff_eq] at hSm
      rcases hSm with h3 | h3
      · simp [hD m om hm h3 k hk]
      · subst h3
        rw [ho] at hm; cases hm
        simp [h2 k hk]

theorem wpA_draw (hT : Tab P T) (hE : Eqs P E) (hm : P.follows .mixedOrders = true) {id : Nat} {l : List Oper} {Q : Exit → AS → Prop} {s : AS} (htm : tmpOK l = true)
    (h : runL P T E N b true (l.map (·.dst)) 0 l s [] (fun s' acc => allOrd l (conf acc) = true ∧ Q .normal s')) : wpA P top N b (.region id l.toArray true) Q s := by
  intro F hF c a hs
  obtain ⟨RS, s1, hx, hord, hQ⟩ := lex_of_run l 0 s [] h
  have hagr0 : Agr b l RS s s 0 := ⟨fun _ => rfl, fun _ => rfl, hs.top, rfl⟩
  obtain ⟨hend, hlex⟩ := lex_at l 0 s RS s1 (by simp) (by simp) (by simp) hagr0 hx
  obtain ⟨h1, h2⟩ := hs.heap.drawn (c.w.drawn + 1)
  refine wpIn_region_any hm ?_
  have e0 : ls (Array.replicate l.length false) = fun _ => false := by
    funext k
    simp only [ls, Array.getD_eq_getD_getElem?]
    by_cases hk : k < l.length
    · simp [hk]
    · rw [Array.getElem?_eq_none (by simp; omega)]; rfl
  have hst : ∀ {α : Type} (u : Nat → Nat → Option α) (base : Nat → α) (n x : Nat), st u (fun _ => false) base n x = base x := by
    intro α u base n x
    induction n with
    | zero => rfl
    | succ n ih => simp [st, ih]
  have hd0 : DS l RS s N b (ls (Array.replicate l.length false)) { c with w := { c.w with drawn := c.w.drawn + 1 } } a := by
    rw [e0]
    refine ⟨?_, fun t => ?_, hs.size, DefOK.mono h2 _ _ hs.ds⟩
    · have : st (uH RS) (fun _ => false) (hpF s.F b s.L) l.length = hpF s.F b s.L := by funext x; exact hst ..
      rw [this]; exact h1
    · rw [hst]; exact Rel.mono h2 _ _ (hs.fr t)
  have := draw_any hT hE hF hs.top htm hord (lex_length hx) (fun k hk => hlex k (Nat.zero_le _) hk) hend hQ l.length (Array.replicate l.length false) c _ a (by simp) (by rw [e0, cnt_none]) (by rw [e0]; intro j o _ h; cases h) hd0 h2
  simpa using this
end
end Go.Av

namespace Go.Av
open Go.RowKit

/-! #### What was one's own is given away -/
def fz1 (id n : Nat) (xs : List AVal) : AVal → AVal
  | .own k m => if k = id ∧ m = n then .sl xs else .own k m
  | x => x
theorem freeze_all {c : Cx} {h : Hp} (H : HeapOK c h) {id e s : Nat} {xs : List AVal} (hid : h id = some (.row e s xs)) :
    ∃ c', c'.w = c.w ∧ HeapOK c' (hupd h id .dead) ∧ c.le c' ∧ SubOK c c' (fz1 id xs.length xs) ∧ ∀ k, k ≠ id → c'.ι k = c.ι k := by
  have key : ∀ c', c'.w = c.w → c.le c' → (∀ y, Rel c (.own id xs.length) y → Rel c' (.sl xs) y) → SubOK c c' (fz1 id xs.length xs) := fun c' hw hle hs =>
    { own := fun k n y hr => by
        simp only [fz1]
        split
        · rename_i h; obtain ⟨rfl, rfl⟩ := h; exact hs y hr
        · exact Rel.mono hle _ _ hr
      ptr := fun k n y hr => Rel.mono hle (.ptr k n) _ hr
      rp := fun k i j y hr => Rel.mono hle (.rp k i j) _ hr
      map := fun k y hr => Rel.mono hle (.map k) _ hr
      S := hle.S
      w := hw
      agg1 := fun k n => by simp only [fz1]; split <;> rfl
      agg2 := fun _ _ => rfl
      agg3 := fun _ _ _ => rfl
      agg4 := fun _ => rfl }
  rcases H.obj id _ hid with ⟨g, cap, C, h1, h2, h3, h4, h5, h6⟩ | ⟨h1, h0⟩
  · obtain ⟨H1, hle1⟩ := H.freeze h1 (g := g) rfl
    refine ⟨{ ι := iupd c.ι id .dead, S := fun b => c.S b ∨ b = g, w := c.w }, rfl, H1, hle1, key _ rfl hle1 fun y hy => ?_, fun k hk => iupd_ne _ _ hk⟩
    simp only [Rel, h1] at hy
    subst hy
    refine ⟨some ⟨g, 0, none⟩, cap, rfl, h4, h5, fun _ => ⟨_, s, rfl, .inr rfl, ?_⟩⟩
    exact RelE.of_cells (by simpa using At.of_block h2 0) (RelX.mono hle1 _ _ _ h6)
  · subst h0
    obtain ⟨H1, hle1⟩ := H.kill h1
    refine ⟨{ c with ι := iupd c.ι id .dead }, rfl, H1, hle1, key _ rfl hle1 fun y hy => ?_, fun k hk => iupd_ne _ _ hk⟩
    simp only [Rel, h1] at hy
    obtain ⟨rfl, _⟩ := hy
    exact ⟨none, 0, rfl, Nat.le_refl _, by simp [maxLen], fun h => absurd h (by simp)⟩

theorem hpF_getD {F : Hp} {b : Nat} {L : List AObj} {id : Nat} {o : AObj} : True := trivial

/-- One's own row is given away: whoever held it holds a row that stays as it is. -/
theorem wk_freeze {N b : Nat} {s : AS} (id : Nat) {e sz : Nat} {xs : List AVal} (hid : hpF s.F b s.L id = some (.row e sz xs)) :
    Wk N b s { tm := mapT (fz1 id xs.length xs) s.tm, F := setF b s.F [(id, .dead)], L := (setL b s.L [(id, .dead)]).map (AObj.sub (fz1 id xs.length xs)), ds := s.ds } := fun c a hs => by
  obtain ⟨c', hw, H1, hle, hsub, hι⟩ := freeze_all hs.heap hid
  have hlt := hpF_some hs.top hid
  refine ⟨c', hw, ⟨?_, fun t => ?_, hs.size, DefOK.mono hle _ _ hs.ds, setF_top _ hs.top⟩, hle.toB b⟩
  · have e1 : hpF (setF b s.F [(id, .dead)]) b (setL b s.L [(id, .dead)]) = hupd (hpF s.F b s.L) id .dead := hpF_sets _ (by simpa using hlt)
    have hob : ∀ k o, hpF (setF b s.F [(id, .dead)]) b (setL b s.L [(id, .dead)]) k = some o → ObjOK c' k o := by rw [e1]; exact H1.obj
    refine ⟨fun k o ho => ?_, fun k hk => ?_, H1.inj, H1.own, H1.stab⟩
    · simp only [hpF] at ho
      split at ho
      · rename_i hb
        exact hob k o (by simp only [hpF, hb, if_true]; exact ho)
      · rename_i hb
        rw [List.getElem?_map, Option.map_eq_some_iff] at ho
        obtain ⟨o', h1, rfl⟩ := ho
        have h2 : hpF (setF b s.F [(id, .dead)]) b (setL b s.L [(id, .dead)]) k = some o' := by simp only [hpF, hb, if_false]; exact h1
        rw [e1] at h2
        simp only [hupd] at h2
        split at h2
        · rename_i hki
          cases h2
          subst hki
          exact hob k .dead (by rw [e1]; simp [hupd])
        · rename_i hki
          exact sub_obj hsub (hι k hki) (hs.heap.obj k o' h2)
    · refine H1.off k ?_
      rw [← e1]
      simp only [hpF] at hk ⊢
      split at hk
      · rename_i hb; simp only [hb, if_true]; exact hk
      · rename_i hb
        simp only [hb, if_false]
        rwa [List.getElem?_map, Option.map_eq_none_iff] at hk
  · rw [getT_map]; exact sub_rel hsub _ _ (hs.fr t)

/-- A nil row, as one's own. -/
theorem wk_nilT {N b : Nat} {s : AS} (t e sz : Nat) (ht : getT s.tm t = .v (.slice none 0 0)) :
    Wk N b s { tm := (t, .own (b + s.L.length) 0) :: s.tm, F := s.F, L := s.L ++ [.row e sz []], ds := s.ds } := fun c a hs => by
  obtain ⟨H1, hle⟩ := hs.heap.newNil (id := b + s.L.length) (hpF_top _ (Nat.le_refl _)) e sz
  refine ⟨{ c with ι := iupd c.ι (b + s.L.length) .nil }, rfl, ⟨?_, fun k => ?_, hs.size, DefOK.mono hle _ _ hs.ds, hs.top⟩, hle.toB b⟩
  · have := hpF_new (F := s.F) (b := b) (L := s.L) (sets := []) (new := some (.row e sz [])) (by simp)
    simp only [hnew, hw, List.foldl_nil, setF, setL, Option.toList_some] at this
    rw [← this]; exact H1
  · simp only [getT]
    split
    · rename_i hk; subst hk
      have := hs.fr t
      rw [ht] at this
      rw [this.1]
      simp [Rel, iupd]
    · exact Rel.mono hle _ _ (hs.fr k)

theorem nilC_le {N b : Nat} {s : AS} (k j e sz : Nat) {t : Nat} {cs : List AVal} (hk : s.L[k]? = some (.blk t cs)) (hj : cs[j]? = some (.v (.slice none 0 0))) :
    ∀ c a, Sim c N b s a → ∃ c', c'.w = c.w ∧ Sim c' N b { tm := s.tm, F := s.F, L := s.L.set k (.blk t (cs.set j (.own (b + s.L.length) 0))) ++ [.row e sz []], ds := s.ds } a ∧ c.le c' := fun c a hs => by
  obtain ⟨H1, hle⟩ := hs.heap.newNil (id := b + s.L.length) (hpF_top _ (Nat.le_refl _)) e sz
  have hkl : k < s.L.length := by
    rcases Nat.lt_or_ge k s.L.length with h | h
    · exact h
    · rw [List.getElem?_eq_none h] at hk; cases hk
  have e1 := hpF_new (F := s.F) (b := b) (L := s.L) (sets := []) (new := some (.row e sz [])) (by simp)
  simp only [hnew, hw, List.foldl_nil, setF, setL, Option.toList_some] at e1
  refine ⟨{ c with ι := iupd c.ι (b + s.L.length) .nil }, rfl, ⟨⟨fun id o ho => ?_, fun id ho => ?_, H1.inj, H1.own, H1.stab⟩, fun k => Rel.mono hle _ _ (hs.fr k), hs.size, DefOK.mono hle _ _ hs.ds, hs.top⟩, hle⟩
  · by_cases hid : id = b + k
    · subst hid
      have hnb : ¬ b + k < b := by omega
      simp only [hpF, hnb, if_false, Nat.add_sub_cancel_left] at ho
      rw [List.getElem?_append_left (by simpa using hkl), List.getElem?_set_self hkl] at ho
      cases ho
      have := H1.obj (b + k) (.blk t cs) (by rw [e1]; simp only [hpF, hnb, if_false, Nat.add_sub_cancel_left]; rw [List.getElem?_append_left hkl]; exact hk)
      obtain ⟨g, C, h1, h2, h3⟩ := this
      refine ⟨g, C, h1, h2, ?_⟩
      obtain ⟨y, hy, hr⟩ := h3.get hj
      have hC : C = C.set j y := by
        apply List.ext_getElem?
        intro m
        by_cases hm : j = m
        · subst hm
          have : j < C.length := by
            rcases Nat.lt_or_ge j C.length with h | h
            · exact h
            · rw [List.getElem?_eq_none h] at hy; cases hy
          rw [List.getElem?_set_self this]; exact hy
        · rw [List.getElem?_set_ne hm]
      rw [hC]
      refine RelL.set j h3 ?_
      rw [hr.1]
      simp [Rel, iupd]
    · refine H1.obj id o ?_
      rw [e1]
      simp only [hpF] at ho ⊢
      split at ho
      · rename_i hb; simp only [hb, if_true]; exact ho
      · rename_i hb
        simp only [hb, if_false]
        by_cases hl : id - b < s.L.length
        · rw [List.getElem?_append_left (by simpa using hl), List.getElem?_set_ne (by omega)] at ho
          rw [List.getElem?_append_left hl]; exact ho
        · rw [List.getElem?_append_right (by simp; omega)] at ho
          rw [List.getElem?_append_right (by omega)]
          simpa using ho
  · refine H1.off id ?_
    rw [e1]
    simp only [hpF] at ho ⊢
    split at ho
    · rename_i hb; simp only [hb, if_true]; exact ho
    · rename_i hb
      simp only [hb, if_false]
      by_cases hl : id - b < s.L.length
      · rw [List.getElem?_append_left (by simpa using hl)] at ho
        rw [List.getElem?_eq_none_iff] at ho
        simp at ho; omega
      · rw [List.getElem?_append_right (by simp; omega)] at ho
        rw [List.getElem?_append_right (by omega)]
        simpa using ho

theorem wk_nilC {N b : Nat} {s : AS} (k j e sz : Nat) {t : Nat} {cs : List AVal} (hk : s.L[k]? = some (.blk t cs)) (hj : cs[j]? = some (.v (.slice none 0 0))) :
    Wk N b s { tm := s.tm, F := s.F, L := s.L.set k (.blk t (cs.set j (.own (b + s.L.length) 0))) ++ [.row e sz []], ds := s.ds } := fun c a hs => by
  obtain ⟨c', h1, h2, h3⟩ := nilC_le k j e sz hk hj c a hs
  exact ⟨c', h1, h2, h3.toB b⟩

/-! ### A function's contract from its body -/
def argT : Nat → List AVal → List (Nat × AVal)
  | _, [] => []
  | i, x :: xs => (i, x) :: argT (i + 1) xs
def res1 (T : Tb) (tm : List (Nat × AVal)) (h : Hp) : ResultVar → Option AVal
  | .tmp t => some (getT tm t)
  | .cell a t => loadA T t (getT tm a) h
def resL (T : Tb) (tm : List (Nat × AVal)) (h : Hp) : List ResultVar → Option (List AVal)
  | [] => some []
  | r :: rs => match res1 T tm h r, resL T tm h rs with
    | some x, some xs => some (x :: xs)
    | _, _ => none
def res (T : Tb) (tm : List (Nat × AVal)) (h : Hp) (rs : List ResultVar) : Option AVal :=
  match resL T tm h rs with
  | some [x] => some x
  | some xs => some (.tup xs)
  | none => none

/-- A nil row, where rows are read only, is told as an empty one. -/
def nz1 : Value → AVal
  | .slice none 0 0 => .sl []
  | c => .v c
mutual
def AVal.nz : AVal → AVal
  | .v c => nz1 c
  | .agg xs => .agg (nzL xs)
  | .tup xs => .tup (nzL xs)
  | .any => .any
  | .sl xs => .sl xs
  | .own id n => .own id n
  | .ptr id o => .ptr id o
  | .rp id i j => .rp id i j
  | .ref cs => .ref cs
  | .map id => .map id
  | .fn f cs => .fn f cs
def nzL : List AVal → List AVal
  | [] => []
  | x :: xs => x.nz :: nzL xs
end
theorem nz1_rel {c : Cx} (d y : Value) (h : Rel c (.v d) y) : Rel c (nz1 d) y := by
  unfold nz1
  split
  · obtain ⟨rfl, _⟩ := h
    exact ⟨none, 0, rfl, Nat.le_refl _, by simp [maxLen], fun h => absurd h (by simp)⟩
  · exact h
mutual
theorem nz_rel {c : Cx} : ∀ (x : AVal) (y : Value), Rel c x y → Rel c x.nz y
  | .v d, y, h => nz1_rel d y h
  | .agg xs, y, h => by obtain ⟨cs, rfl, h1⟩ := h; exact ⟨cs, rfl, nz_relL xs cs h1⟩
  | .tup xs, y, h => by obtain ⟨cs, rfl, h1⟩ := h; exact ⟨cs, rfl, nz_relL xs cs h1⟩
  | .any, _, h => h
  | .sl _, _, h => h
  | .own _ _, _, h => h
  | .ptr _ _, _, h => h
  | .rp _ _ _, _, h => h
  | .ref _, _, h => h
  | .map _, _, h => h
  | .fn _ _, _, h => h
theorem nz_relL {c : Cx} : ∀ (xs : List AVal) (ys : List Value), RelL c xs ys → RelL c (nzL xs) ys
  | [], _, h => h
  | x :: xs, ys, h => by
    obtain ⟨y, ys', rfl, h1, h2⟩ := h
    exact ⟨y, ys', rfl, nz_rel x y h1, nz_relL xs ys' h2⟩
end

def rawD : AObj := .raw (.deferred (some []))
def rawN : AObj := .raw (.deferred none)
/-- The marks of rounds are as they were laid. -/
def marksOK (b : Nat) : List Nat → List AObj → Prop
  | [], _ => True
  | id :: r, L => b ≤ id ∧ L[id - b]? = some rawD ∧ marksOK b r (L.set (id - b) rawN)
def shutL (b : Nat) : List Nat → List AObj → List AObj
  | [], L => L
  | id :: r, L => shutL b r (L.set (id - b) rawN)

/-- Where a function's body must end. -/
def Fin (T : Tb) (b : Nat) (rs : List ResultVar) (F : Hp) (v : AVal) (sets : List (Nat × AObj)) (new : List AObj) (e : Exit) (s : AS) : Prop :=
  (e = .ret ∨ e = .normal) ∧ marksOK b s.ds s.L ∧ ∃ x σ, res T s.tm (hpF s.F b (shutL b s.ds s.L)) rs = some x ∧ σ.Nodup ∧ (∀ k ∈ σ, k < (shutL b s.ds s.L).length) ∧ (x.pull σ b).nz = v ∧ pullF σ b s.F = hw F sets ∧ pullL σ b (shutL b s.ds s.L) = new

section
variable {P : Program} {T : Tb} {E : Eq'} {b : Nat}
theorem argT_get : ∀ (xs : List AVal) (i t : Nat), getT (argT i xs) t = if i ≤ t then (xs[t - i]?).getD .any else .any
  | [], i, t => by simp [argT, getT]
  | x :: xs, i, t => by
    simp only [argT, getT, argT_get xs (i + 1) t]
    by_cases h : i = t
    · subst h; simp
    · rw [if_neg h]
      by_cases h1 : i ≤ t
      · rw [if_pos h1, if_pos (by omega), show t - i = (t - (i + 1)) + 1 by omega]
        simp
      · rw [if_neg h1, if_neg (by omega)]

def resM (tmps : Array Value) : ResultVar → Sem Value
  | .tmp t => pure (tmps.getD t undef)
  | .cell a t => do loadVar t (← asAddr (tmps.getD a undef))
theorem results_eq (fn : Func) (tmps : Array Value) : results fn tmps = (do let vs ← fn.results.mapM (resM tmps); pure (if h : vs.size = 1 then vs[0] else .tuple vs)) := rfl

theorem res1_run (hT : Tab P T) {c : Cx} {h : Hp} (H : HeapOK c h) {tm : List (Nat × AVal)} {tmps : Array Value} (hfr : ∀ t, Rel c (getT tm t) (tmps.getD t undef)) {r : ResultVar} {x : AVal} (hx : res1 T tm h r = some x) :
    ∃ y, Rel c x y ∧ (resM tmps r).run P c.w = .ok y c.w := by
  cases r with
  | tmp t => cases hx; exact ⟨_, hfr t, rfl⟩
  | cell a t =>
    simp only [res1] at hx
    have hr := hfr a
    obtain ⟨z, h1, h2⟩ := load_sim hT H hr hx
    have hal : alive h (getT tm a) = true := by
      unfold loadA at hx
      split at hx
      · cases hx
      · split at hx
        · rename_i id off _
          split at hx
          · rename_i hh; simp only [alive, *]
          · cases hx
        · rename_i id i j _
          split at hx
          · rename_i t' s' xs hh
            cases xs with
            | nil => simp at hx
            | cons x xs => simp only [alive, *]
          · cases hx
        · rename_i hg; rw [hg]; rfl
        · cases hx
    obtain ⟨ad, had⟩ := alive_rel H hal hr
    refine ⟨z, h2, ?_⟩
    rw [← h1]
    simp only [resM, had, Instr.loadAt, asAddr, Instr.sureAddr, Sem.run_bind, Sem.run_pure, Result.andThen]

theorem resL_run (hT : Tab P T) {c : Cx} {h : Hp} (H : HeapOK c h) {tm : List (Nat × AVal)} {tmps : Array Value} (hfr : ∀ t, Rel c (getT tm t) (tmps.getD t undef)) : ∀ {rs : List ResultVar} {xs : List AVal}, resL T tm h rs = some xs →
    ∃ ys, RelL c xs ys ∧ (rs.mapM (resM tmps)).run P c.w = .ok ys c.w
  | [], xs, hx => by cases hx; exact ⟨[], rfl, by simp [Sem.run_pure]⟩
  | r :: rs, xs, hx => by
    simp only [resL] at hx
    split at hx
    · rename_i x xs' h1 h2
      cases hx
      obtain ⟨y, hy, r1⟩ := res1_run hT H hfr h1
      obtain ⟨ys, hys, r2⟩ := resL_run hT H hfr h2
      refine ⟨y :: ys, ⟨y, ys, rfl, hy, hys⟩, ?_⟩
      simp only [List.mapM_cons, Sem.run_bind, r1, r2, Result.andThen, Sem.run_pure]
    · cases hx

theorem res_run (hT : Tab P T) {c : Cx} {h : Hp} (H : HeapOK c h) {tm : List (Nat × AVal)} {tmps : Array Value} (hfr : ∀ t, Rel c (getT tm t) (tmps.getD t undef)) {fn : Func} {x : AVal} (hx : res T tm h fn.results.toList = some x) :
    ∃ y, Rel c x y ∧ (results fn tmps).run P c.w = .ok y c.w := by
  unfold res at hx
  have key : ∀ {xs ys}, resL T tm h fn.results.toList = some xs → RelL c xs ys → (fn.results.toList.mapM (resM tmps)).run P c.w = .ok ys c.w →
      (results fn tmps).run P c.w = .ok (if h : ys.toArray.size = 1 then ys.toArray[0] else .tuple ys.toArray) c.w := by
    intro xs ys _ _ hr
    rw [results_eq, Array.mapM_eq_mapM_toList]
    simp only [map_eq_pure_bind, Sem.run_bind, hr, Result.andThen, Sem.run_pure]
  split at hx
  · rename_i x' hx'
    cases hx
    obtain ⟨ys, h1, h2⟩ := resL_run hT H hfr hx'
    obtain ⟨y, ys', rfl, h3, h4⟩ := h1
    cases h4
    exact ⟨y, h3, by rw [key hx' ⟨y, [], rfl, h3, rfl⟩ h2]; rfl⟩
  · rename_i xs hne hx'
    cases hx
    obtain ⟨ys, h1, h2⟩ := resL_run hT H hfr hx'
    have hl : ys.length = xs.length := h1.length
    refine ⟨.tuple ys.toArray, ⟨ys, rfl, h1⟩, ?_⟩
    rw [key hx' h1 h2]
    have : ¬ ys.toArray.size = 1 := by
      intro h
      simp at h
      rw [hl] at h
      match xs, h with
      | [x], _ => exact hne x rfl
    rw [dif_neg this]
  · cases hx

theorem hw_sets {F : Hp} : ∀ {sets : List (Nat × AObj)}, True := trivial

theorem leavesM {fn : Func} {tmps : Array Value} {R : Ending → World → Prop} {G : Hp} : ∀ {ds : List Nat} {l : List Deferred} {c : Cx} {L : List AObj}, HeapOK c (hpF G b L) → DefOK c ds l → marksOK b ds L →
    (∀ c', HeapOK c' (hpF G b (shutL b ds L)) → c.le c' → ∃ v, (results fn tmps).run P c'.w = .ok v c'.w ∧ R (.returned v) c'.w) → LeavesInM (wide none) 0 P fn tmps R l .returning c.w
  | [], _, c, L, H, hd, _, h => by cases hd; exact h c H (Cx.le.refl c)
  | id :: ids, _, c, L, H, hd, hm, h => by
    obtain ⟨g, l', h1, rfl, h3⟩ := hd
    obtain ⟨m1, m2, m3⟩ := hm
    have hb : hpF G b L id = some rawD := by simp only [hpF]; rw [if_neg (by omega)]; exact m2
    obtain ⟨g', h4, h5⟩ := H.obj id _ hb
    rw [h1] at h4; cases h4
    have hlt : id < b + L.length := by
      rcases Nat.lt_or_ge id (b + L.length) with h | h
      · exact h
      · rw [hpF_top id h] at hb; cases hb
    have HT := H.turn h1 (g := g) rfl (c.w.putObj g (.deferred none)) (fun b hb => World.putObj_heap_other hb) (by simp [World.putObj]) rfl rfl rfl rawN
      (fun _ => ⟨g, h1, World.putObj_heap_same (H.own _ _ g h1 rfl).1⟩)
    have e1 : hupd (hpF G b L) id rawN = hpF G b (L.set (id - b) rawN) := by
      have := hpF_set1 (F := G) (b := b) (L := L) (id := id) (o := rawN) hlt
      rw [if_neg (by omega), if_neg (by omega)] at this
      exact this.symm
    rw [e1] at HT
    refine ⟨by simp, .inl ⟨g, c.w.putObj g (.deferred none), rfl, run_takeDeferred h5, ?_⟩⟩
    exact leavesM (c := { c with w := c.w.putObj g (.deferred none) }) HT.1 (DefOK.mono HT.2 _ _ h3) m3 (fun c' H' hle' => h c' H' (HT.2.trans hle'))

theorem callE_of (hT : Tab P T) {f : FuncId} {fn : Func} {code : Code} {args : List AVal} {F : Hp} {v : AVal} {sets : List (Nat × AObj)} {new : List AObj} (hf : P.funcs[f]? = some fn) (hnm : (fn.name == "runtime.NumGoroutine") = false) (hb : fn.body = some code)
    (hlen : args.length ≤ fn.ntmps) (hsb : ∀ p ∈ sets, p.1 < b) (h : topF F b → WF b F → wpA P true fn.ntmps b code (Fin T b fn.results.toList F v sets new) { tm := argT 0 args, F := F, L := [], ds := [] }) :
    CallE P f args F b v sets new := by
  refine ⟨⟨fn, hf, hnm, by rw [hb]; rfl⟩, hsb, fun c cargs H htop hr => ?_⟩
  refine (callsIn_wide (n := 0)).1 ?_
  show CallsIn (wide none) 0 P f ⟨cargs⟩ c.w _
  have hcl : cargs.length = args.length := hr.length
  have hF0 : hpF F b [] = F := by
    funext id
    simp only [hpF]
    split
    · rfl
    · rw [htop id (by omega)]; simp
  refine callsIn_of_wp_marks hf hb trivial ?_
  have hsim : Sim c fn.ntmps b { tm := argT 0 args, F := F, L := [], ds := [] } { tmps := (⟨cargs⟩ : Array Value) ++ Array.replicate (fn.ntmps - (⟨cargs⟩ : Array Value).size) undef, defers := [] } := by
    refine ⟨by rw [hF0]; exact H, fun t => ?_, by simp; omega, rfl, htop⟩
    rw [argT_get]
    simp only [Nat.zero_le, if_true, Nat.sub_zero]
    cases hx : args[t]? with
    | none => trivial
    | some x =>
      obtain ⟨y, hy, hxy⟩ := hr.get hx
      have hlt : t < cargs.length := by
        rcases Nat.lt_or_ge t cargs.length with h | h
        · exact h
        · rw [List.getElem?_eq_none h] at hy; cases hy
      simp only [Option.getD_some, Array.getD_eq_getD_getElem?]
      rw [Array.getElem?_append_left (by simpa using hlt)]
      simpa [hy] using hxy
  refine wpIn_mono (h htop (wf_of H htop) (wide none) ⟨none, rfl, fun _ => rfl⟩ c _ hsim) ?_
  rintro e a' w' ⟨c', s', rfl, hfin, hs', hle⟩
  obtain ⟨he, hmk, x, σ, hres, hn, hl, hv, hFF, hLL⟩ := hfin
  have hfin : ∀ c2 : Cx, HeapOK c2 (hpF s'.F b (shutL b s'.ds s'.L)) → c'.le c2 → ∃ v2, (results fn a'.tmps).run P c2.w = .ok v2 c2.w ∧ ∃ c'' z, c''.w = c2.w ∧ Ending.returned v2 = .returned z ∧ HeapOK c'' (hpF (hw F sets) b new) ∧ Rel c'' v z ∧ c.le c'' := by
    intro c2 H2 hle2
    obtain ⟨y, hy, hrun⟩ := res_run hT H2 (fun t => Rel.mono hle2 _ _ (hs'.fr t)) hres
    have hH : HeapOK (pcx σ b c2) (hpF (hw F sets) b new) := by
      have := pull_heap hn hl hs'.top H2
      rw [hFF, hLL] at this; exact this
    exact ⟨y, hrun, pcx σ b c2, y, rfl, rfl, hH, by rw [← hv]; exact nz_rel _ _ (sub_rel (pull_ok σ b c2) _ _ hy), ((hle.trans (hle2.toB b)).trans (pcx_leB σ b c2)).toLe fun id hid => H.off id (htop id hid)⟩
  have hfinal : LeavesInM (wide none) 0 P fn a'.tmps (fun e w' => ∃ c' y, c'.w = w' ∧ e = .returned y ∧ HeapOK c' (hpF (hw F sets) b new) ∧ Rel c' v y ∧ c.le c') a'.defers .returning c'.w := leavesM hs'.heap hs'.ds hmk hfin
  rcases he with rfl | rfl
  · exact hfinal
  · exact hfinal
end
end Go.Av

namespace Go.Av
open Go.RowKit

mutual
theorem sub_sub (f g : AVal → AVal) : ∀ x : AVal, (x.sub f).sub g = x.sub (fun y => (f y).sub g)
  | .any => rfl
  | .v _ => rfl
  | .agg xs => by simp only [AVal.sub, sub_subL f g xs]
  | .tup xs => by simp only [AVal.sub, sub_subL f g xs]
  | .sl xs => by simp only [AVal.sub, sub_subL f g xs]
  | .own _ _ => rfl
  | .ptr _ _ => rfl
  | .rp _ _ _ => rfl
  | .ref cs => by simp only [AVal.sub, sub_subL f g cs]
  | .map _ => rfl
  | .fn h caps => by simp only [AVal.sub, sub_subL f g caps]
theorem sub_subL (f g : AVal → AVal) : ∀ xs : List AVal, subL g (subL f xs) = subL (fun y => (f y).sub g) xs
  | [] => rfl
  | x :: xs => by simp only [subL, sub_sub f g x, sub_subL f g xs]
end
mutual
theorem sub_congr {f g : AVal → AVal} (h1 : ∀ id n, f (.own id n) = g (.own id n)) (h2 : ∀ id n, f (.ptr id n) = g (.ptr id n)) (h3 : ∀ id i j, f (.rp id i j) = g (.rp id i j)) (h4 : ∀ id, f (.map id) = g (.map id)) : ∀ x : AVal, x.sub f = x.sub g
  | .any => rfl
  | .v _ => rfl
  | .agg xs => by simp only [AVal.sub, sub_congrL h1 h2 h3 h4 xs]
  | .tup xs => by simp only [AVal.sub, sub_congrL h1 h2 h3 h4 xs]
  | .sl xs => by simp only [AVal.sub, sub_congrL h1 h2 h3 h4 xs]
  | .own _ _ => h1 _ _
  | .ptr _ _ => h2 _ _
  | .rp _ _ _ => h3 _ _ _
  | .ref cs => by simp only [AVal.sub, sub_congrL h1 h2 h3 h4 cs]
  | .map _ => h4 _
  | .fn h caps => by simp only [AVal.sub, sub_congrL h1 h2 h3 h4 caps]
theorem sub_congrL {f g : AVal → AVal} (h1 : ∀ id n, f (.own id n) = g (.own id n)) (h2 : ∀ id n, f (.ptr id n) = g (.ptr id n)) (h3 : ∀ id i j, f (.rp id i j) = g (.rp id i j)) (h4 : ∀ id, f (.map id) = g (.map id)) : ∀ xs : List AVal, subL f xs = subL g xs
  | [] => rfl
  | x :: xs => by simp only [subL, sub_congr h1 h2 h3 h4 x, sub_congrL h1 h2 h3 h4 xs]
end
theorem pl1_pl1 {σ : List Nat} {b b' : Nat} (h : b ≤ b') (x : AVal) : (x.sub (pl1 [] b)).sub (pl1 σ b') = x.sub (pl1 [] b) := by
  rw [sub_sub]
  have hr : ∀ id k, rid [] b id = some k → rid σ b' k = some k := fun id k hk => by
    simp only [rid, idx] at hk ⊢
    split at hk
    · cases hk; rw [if_pos (by omega)]
    · simp at hk
  refine sub_congr ?_ ?_ ?_ ?_ x
  · intro id n
    simp only [pl1]
    cases hk : rid [] b id with
    | none => rfl
    | some k => simp only [AVal.sub, pl1, hr id k hk]
  · intro id n
    simp only [pl1]
    cases hk : rid [] b id with
    | none => rfl
    | some k => simp only [AVal.sub, pl1, hr id k hk]
  · intro id i j
    simp only [pl1]
    cases hk : rid [] b id with
    | none => rfl
    | some k => simp only [AVal.sub, pl1, hr id k hk]
  · intro id
    simp only [pl1]
    cases hk : rid [] b id with
    | none => rfl
    | some k => simp only [AVal.sub, pl1, hr id k hk]
theorem pl1_pl1L {σ : List Nat} {b b' : Nat} (h : b ≤ b') : ∀ xs : List AVal, subL (pl1 σ b') (subL (pl1 [] b) xs) = subL (pl1 [] b) xs
  | [] => rfl
  | x :: xs => by simp only [subL, pl1_pl1 h, pl1_pl1L h xs]
theorem opl_pl {σ : List Nat} {b b' : Nat} (h : b ≤ b') (o : AObj) : (o.sub (pl1 [] b)).sub (pl1 σ b') = o.sub (pl1 [] b) := by
  cases o with
  | dead => rfl
  | blk t cs => simp only [AObj.sub, pl1_pl1L h]
  | row t s xs => simp only [AObj.sub, pl1_pl1L h]
  | map k es => simp only [AObj.sub, List.map_map, Function.comp_def, pl1_pl1 h]
  | raw o => rfl
  | lp g r tmf => simp only [AObj.sub, pl1_pl1 h]
theorem WF.up {b b' : Nat} {F : Hp} (h : WF b F) (hb : b ≤ b') : WF b' F := by
  intro σ
  funext id
  have h0 := congrFun (h []) id
  simp only [pullF] at h0 ⊢
  cases ho : F id with
  | none => rfl
  | some o =>
    rw [ho] at h0
    simp only [Option.map_some, Option.some.injEq, AObj.pull] at h0 ⊢
    rw [← h0, opl_pl hb]

end Go.Av

namespace Go.Av
open Go.RowKit
universe u

/-- What stands under 'Hd' is not gone into by 'simp'. -/
structure Hd {α : Sort u} (a : α) : Type where
  mk ::

def accP (dr : Bool) (e : Nat × List Nat × List Nat) (acc : Acc) : Acc := match dr with
  | true => e :: acc
  | false => acc
theorem accP_eq (dr : Bool) (e : Nat × List Nat × List Nat) (acc : Acc) : (if dr = true then e :: acc else acc) = accP dr e acc := by cases dr <;> rfl

/-- A state is met with what an operation comes to. -/
def fin (b : Nat) (dr : Bool) (i : Nat) (d : Option Nat) (s : AS) (acc : Acc) (K : AS → Acc → Prop) (_h : Hd K) : Option Ev → Prop
  | some e => e.pre ∧ K { tm := putT s.tm d e.v, F := setF b s.F e.sets, L := setL b s.L e.sets ++ e.new.toList, ds := s.ds } (accP dr (i, wids (b + s.L.length) e.sets e.new, e.foot) acc)
  | none => False
/-- An operation that yields a value alone. -/
def finV (dr : Bool) (i : Nat) (d : Option Nat) (s : AS) (acc : Acc) (K : AS → Acc → Prop) (_h : Hd K) (foot : List Nat) : Option AVal → Prop
  | some v => K { tm := putT s.tm d v, F := s.F, L := s.L, ds := s.ds } (accP dr (i, [], foot) acc)
  | none => False
theorem fin_rd (b : Nat) (dr : Bool) (i : Nat) (d : Option Nat) (s : AS) (acc : Acc) (K : AS → Acc → Prop) (v : AVal) (ft : List Nat) : fin b dr i d s acc K ⟨⟩ (rd v ft) = finV dr i d s acc K ⟨⟩ ft (some v) := by
  simp [fin, finV, rd, setF, setL, wids]

theorem runO_fin {P : Program} {T : Tb} {E : Eq'} {b : Nat} {dr : Bool} {i : Nat} {o : Oper} {s : AS} {acc : Acc} {K : AS → Acc → Prop} (h : ∀ f args ts, o.op ≠ .call { callee := .value f, args := args, argTypes := ts }) :
    runO P T E b dr i o s acc K = fin b dr i o.dst s acc K ⟨⟩ (evO T E o.op (evA s.tm) (hpF s.F b s.L) (b + s.L.length)) := by
  unfold runO
  split
  · exact absurd ‹_› (h _ _ _)
  · cases evO T E o.op (evA s.tm) (hpF s.F b s.L) (b + s.L.length) with
    | none => rfl
    | some e => simp only [fin, accP_eq]

def RO (P : Program) (T : Tb) (E : Eq') (b : Nat) (dr : Bool) (i : Nat) (o : Oper) (s : AS) (acc : Acc) (K : AS → Acc → Prop) (_h1 : Hd o) (_h2 : Hd K) : Prop := runO P T E b dr i o s acc K
def RL (P : Program) (T : Tb) (E : Eq') (N b : Nat) (dr : Bool) (dsts : List (Option Nat)) (i : Nat) (l : List Oper) (s : AS) (acc : Acc) (K : AS → Acc → Prop) (_h1 : Hd l) (_h2 : Hd K) : Prop := runL P T E N b dr dsts i l s acc K
def RC (P : Program) (dr : Bool) (f : AVal) (args : List AVal) (F : Hp) (b : Nat) (L : List AObj) (ds : List Nat) (K : AVal → List (Nat × AObj) → List AObj → List Nat → Prop) (KY : AVal → Hp → List AObj → Prop) (_h : Hd K) (_h2 : Hd KY) : Prop := runC P dr f args F b L ds K KY
def pickA : AVal → AVal → AVal → Option AVal
  | .v (.bool c), x, y => some (if c then x else y)
  | _, _, _ => none
def tupA : AVal → Nat → Option AVal
  | .tup xs, j => xs[j]?
  | _, _ => none

/-- A guard: whether an operation is done. -/
def gd (dd : Option Nat) (tm : List (Nat × AVal)) (want : Bool) (y n : Prop) (_h1 : Hd y) (_h2 : Hd n) : Prop :=
  match dd with
  | none => False
  | some d => match getT tm d with
    | .v (.bool x) => match (x == want) with
      | true => y
      | false => n
    | .tup [] => n
    | _ => False

def gdv (v : AVal) (want : Bool) (y n : Prop) (_h1 : Hd y) (_h2 : Hd n) : Prop :=
  match v with
  | .v (.bool x) => match (x == want) with
    | true => y
    | false => n
  | .tup [] => n
  | _ => False

theorem ro_move {P : Program} {T : Tb} {E : Eq'} {b : Nat} {dr : Bool} {i : Nat} {s : AS} {acc : Acc} {K : AS → Acc → Prop} {d : Option Nat} {ty : TypeId} {po : String} {af : Array Edge} {g : Option (Nat × Bool)} {x : Operand} : RO P T E b dr i ⟨d, .move x, ty, po, af, g⟩ s acc K ⟨⟩ ⟨⟩ = (finV dr i d s acc K ⟨⟩ [] (some (evA s.tm x))) := by
  show runO _ _ _ _ _ _ _ _ _ _ = _
  rw [runO_fin (by simp)]; simp only [evO, fin_rd]; skip

theorem ro_assign {P : Program} {T : Tb} {E : Eq'} {b : Nat} {dr : Bool} {i : Nat} {s : AS} {acc : Acc} {K : AS → Acc → Prop} {d : Option Nat} {ty : TypeId} {po : String} {af : Array Edge} {g : Option (Nat × Bool)} {x : Operand} : RO P T E b dr i ⟨d, .assign x, ty, po, af, g⟩ s acc K ⟨⟩ ⟨⟩ = (finV dr i d s acc K ⟨⟩ [] (some (evA s.tm x))) := by
  show runO _ _ _ _ _ _ _ _ _ _ = _
  rw [runO_fin (by simp)]; simp only [evO, fin_rd]; skip

theorem ro_pick {P : Program} {T : Tb} {E : Eq'} {b : Nat} {dr : Bool} {i : Nat} {s : AS} {acc : Acc} {K : AS → Acc → Prop} {d : Option Nat} {ty : TypeId} {po : String} {af : Array Edge} {g : Option (Nat × Bool)} {x y z : Operand} : RO P T E b dr i ⟨d, .pick x y z, ty, po, af, g⟩ s acc K ⟨⟩ ⟨⟩ = (finV dr i d s acc K ⟨⟩ [] (pickA (evA s.tm x) (evA s.tm y) (evA s.tm z))) := by
  show runO _ _ _ _ _ _ _ _ _ _ = _
  rw [runO_fin (by simp)]; simp only [evO, pickA]; cases evA s.tm x <;> first | rfl | (rename_i c; cases c <;> first | rfl | simp [fin_rd])

theorem ro_alloc {P : Program} {T : Tb} {E : Eq'} {b : Nat} {dr : Bool} {i : Nat} {s : AS} {acc : Acc} {K : AS → Acc → Prop} {d : Option Nat} {ty : TypeId} {po : String} {af : Array Edge} {g : Option (Nat × Bool)} {t : TypeId} : RO P T E b dr i ⟨d, .alloc t, ty, po, af, g⟩ s acc K ⟨⟩ ⟨⟩ = (fin b dr i d s acc K ⟨⟩ (evO T E (.alloc t) (evA s.tm) (hpF s.F b s.L) (b + s.L.length))) := by
  show runO _ _ _ _ _ _ _ _ _ _ = _
  rw [runO_fin (by simp)]

theorem ro_build {P : Program} {T : Tb} {E : Eq'} {b : Nat} {dr : Bool} {i : Nat} {s : AS} {acc : Acc} {K : AS → Acc → Prop} {d : Option Nat} {ty : TypeId} {po : String} {af : Array Edge} {g : Option (Nat × Bool)} {t : TypeId} {ps : Array (Nat × Operand)} : RO P T E b dr i ⟨d, .build t ps, ty, po, af, g⟩ s acc K ⟨⟩ ⟨⟩ = (finV dr i d s acc K ⟨⟩ [] (buildA T t (ps.toList.map fun p => (p.1, evA s.tm p.2)))) := by
  show runO _ _ _ _ _ _ _ _ _ _ = _
  rw [runO_fin (by simp)]; simp only [evO, fin_rd]; cases (buildA T t (ps.toList.map fun p => (p.1, evA s.tm p.2))) <;> simp only [fin_rd] <;> rfl

theorem ro_load {P : Program} {T : Tb} {E : Eq'} {b : Nat} {dr : Bool} {i : Nat} {s : AS} {acc : Acc} {K : AS → Acc → Prop} {d : Option Nat} {ty : TypeId} {po : String} {af : Array Edge} {g : Option (Nat × Bool)} {t : TypeId} {x : Operand} : RO P T E b dr i ⟨d, .load t x, ty, po, af, g⟩ s acc K ⟨⟩ ⟨⟩ = (finV dr i d s acc K ⟨⟩ (ids (evA s.tm x)) (loadA T t (evA s.tm x) (hpF s.F b s.L))) := by
  show runO _ _ _ _ _ _ _ _ _ _ = _
  rw [runO_fin (by simp)]; simp only [evO, fin_rd]; cases (loadA T t (evA s.tm x) (hpF s.F b s.L)) <;> simp only [fin_rd] <;> rfl

theorem ro_bin {P : Program} {T : Tb} {E : Eq'} {b : Nat} {dr : Bool} {i : Nat} {s : AS} {acc : Acc} {K : AS → Acc → Prop} {d : Option Nat} {ty : TypeId} {po : String} {af : Array Edge} {g : Option (Nat × Bool)} {op : BinOp} {t u : TypeId} {x y : Operand} : RO P T E b dr i ⟨d, .binOp op t x y u, ty, po, af, g⟩ s acc K ⟨⟩ ⟨⟩ = (finV dr i d s acc K ⟨⟩ (ids (evA s.tm x) ++ ids (evA s.tm y)) (binA T E op t (evA s.tm x) (evA s.tm y) (hpF s.F b s.L))) := by
  show runO _ _ _ _ _ _ _ _ _ _ = _
  rw [runO_fin (by simp)]; simp only [evO, fin_rd]; cases (binA T E op t (evA s.tm x) (evA s.tm y) (hpF s.F b s.L)) <;> simp only [fin_rd] <;> rfl

theorem ro_fieldAddr {P : Program} {T : Tb} {E : Eq'} {b : Nat} {dr : Bool} {i : Nat} {s : AS} {acc : Acc} {K : AS → Acc → Prop} {d : Option Nat} {ty : TypeId} {po : String} {af : Array Edge} {g : Option (Nat × Bool)} {t : TypeId} {x : Operand} {j : Nat} : RO P T E b dr i ⟨d, .fieldAddr t x j, ty, po, af, g⟩ s acc K ⟨⟩ ⟨⟩ = (finV dr i d s acc K ⟨⟩ (ids (evA s.tm x)) (fieldAddrA T t (evA s.tm x) j (hpF s.F b s.L))) := by
  show runO _ _ _ _ _ _ _ _ _ _ = _
  rw [runO_fin (by simp)]; simp only [evO, fin_rd]; cases (fieldAddrA T t (evA s.tm x) j (hpF s.F b s.L)) <;> simp only [fin_rd] <;> rfl

theorem ro_field {P : Program} {T : Tb} {E : Eq'} {b : Nat} {dr : Bool} {i : Nat} {s : AS} {acc : Acc} {K : AS → Acc → Prop} {d : Option Nat} {ty : TypeId} {po : String} {af : Array Edge} {g : Option (Nat × Bool)} {t : TypeId} {x : Operand} {j : Nat} : RO P T E b dr i ⟨d, .field t x j, ty, po, af, g⟩ s acc K ⟨⟩ ⟨⟩ = (finV dr i d s acc K ⟨⟩ [] (fieldA T t (evA s.tm x) j)) := by
  show runO _ _ _ _ _ _ _ _ _ _ = _
  rw [runO_fin (by simp)]; simp only [evO, fin_rd]; cases (fieldA T t (evA s.tm x) j) <;> simp only [fin_rd] <;> rfl

theorem ro_indexAddr {P : Program} {T : Tb} {E : Eq'} {b : Nat} {dr : Bool} {i : Nat} {s : AS} {acc : Acc} {K : AS → Acc → Prop} {d : Option Nat} {ty : TypeId} {po : String} {af : Array Edge} {g : Option (Nat × Bool)} {t : TypeId} {x y : Operand} : RO P T E b dr i ⟨d, .indexAddr t x y, ty, po, af, g⟩ s acc K ⟨⟩ ⟨⟩ = (finV dr i d s acc K ⟨⟩ (ids (evA s.tm x)) (indexAddrA T t (evA s.tm x) (evA s.tm y) (hpF s.F b s.L))) := by
  show runO _ _ _ _ _ _ _ _ _ _ = _
  rw [runO_fin (by simp)]; simp only [evO, fin_rd]; cases (indexAddrA T t (evA s.tm x) (evA s.tm y) (hpF s.F b s.L)) <;> simp only [fin_rd] <;> rfl

theorem ro_index {P : Program} {T : Tb} {E : Eq'} {b : Nat} {dr : Bool} {i : Nat} {s : AS} {acc : Acc} {K : AS → Acc → Prop} {d : Option Nat} {ty : TypeId} {po : String} {af : Array Edge} {g : Option (Nat × Bool)} {t : TypeId} {x y : Operand} : RO P T E b dr i ⟨d, .index t x y, ty, po, af, g⟩ s acc K ⟨⟩ ⟨⟩ = (finV dr i d s acc K ⟨⟩ [] (indexA T t (evA s.tm x) (evA s.tm y))) := by
  show runO _ _ _ _ _ _ _ _ _ _ = _
  rw [runO_fin (by simp)]; simp only [evO, fin_rd]; cases (indexA T t (evA s.tm x) (evA s.tm y)) <;> simp only [fin_rd] <;> rfl

theorem ro_extract {P : Program} {T : Tb} {E : Eq'} {b : Nat} {dr : Bool} {i : Nat} {s : AS} {acc : Acc} {K : AS → Acc → Prop} {d : Option Nat} {ty : TypeId} {po : String} {af : Array Edge} {g : Option (Nat × Bool)} {x : Operand} {j : Nat} : RO P T E b dr i ⟨d, .extract x j, ty, po, af, g⟩ s acc K ⟨⟩ ⟨⟩ = (finV dr i d s acc K ⟨⟩ [] (tupA (evA s.tm x) j)) := by
  show runO _ _ _ _ _ _ _ _ _ _ = _
  rw [runO_fin (by simp)]; simp only [evO, tupA]; cases evA s.tm x <;> first | rfl | (rename_i xs; simp only; cases xs[j]? <;> simp only [fin_rd] <;> rfl)

theorem ro_box {P : Program} {T : Tb} {E : Eq'} {b : Nat} {dr : Bool} {i : Nat} {s : AS} {acc : Acc} {K : AS → Acc → Prop} {d : Option Nat} {ty : TypeId} {po : String} {af : Array Edge} {g : Option (Nat × Bool)} {t : TypeId} {x : Operand} : RO P T E b dr i ⟨d, .box t x, ty, po, af, g⟩ s acc K ⟨⟩ ⟨⟩ = (fin b dr i d s acc K ⟨⟩ (evO T E (.box t x) (evA s.tm) (hpF s.F b s.L) (b + s.L.length))) := by
  show runO _ _ _ _ _ _ _ _ _ _ = _
  rw [runO_fin (by simp)]

theorem ro_buildSlice {P : Program} {T : Tb} {E : Eq'} {b : Nat} {dr : Bool} {i : Nat} {s : AS} {acc : Acc} {K : AS → Acc → Prop} {d : Option Nat} {ty : TypeId} {po : String} {af : Array Edge} {g : Option (Nat × Bool)} {t : TypeId} {n : Nat} {ps : Array (Nat × Operand)} : RO P T E b dr i ⟨d, .buildSlice t n ps, ty, po, af, g⟩ s acc K ⟨⟩ ⟨⟩ = (fin b dr i d s acc K ⟨⟩ (evO T E (.buildSlice t n ps) (evA s.tm) (hpF s.F b s.L) (b + s.L.length))) := by
  show runO _ _ _ _ _ _ _ _ _ _ = _
  rw [runO_fin (by simp)]

theorem ro_store {P : Program} {T : Tb} {E : Eq'} {b : Nat} {dr : Bool} {i : Nat} {s : AS} {acc : Acc} {K : AS → Acc → Prop} {d : Option Nat} {ty : TypeId} {po : String} {af : Array Edge} {g : Option (Nat × Bool)} {t : TypeId} {x y : Operand} : RO P T E b dr i ⟨d, .store t x y, ty, po, af, g⟩ s acc K ⟨⟩ ⟨⟩ = (fin b dr i d s acc K ⟨⟩ (evO T E (.store t x y) (evA s.tm) (hpF s.F b s.L) (b + s.L.length))) := by
  show runO _ _ _ _ _ _ _ _ _ _ = _
  rw [runO_fin (by simp)]

theorem ro_nilCheck {P : Program} {T : Tb} {E : Eq'} {b : Nat} {dr : Bool} {i : Nat} {s : AS} {acc : Acc} {K : AS → Acc → Prop} {d : Option Nat} {ty : TypeId} {po : String} {af : Array Edge} {g : Option (Nat × Bool)} {x : Operand} : RO P T E b dr i ⟨d, .nilCheck x, ty, po, af, g⟩ s acc K ⟨⟩ ⟨⟩ = (fin b dr i d s acc K ⟨⟩ (evO T E (.nilCheck x) (evA s.tm) (hpF s.F b s.L) (b + s.L.length))) := by
  show runO _ _ _ _ _ _ _ _ _ _ = _
  rw [runO_fin (by simp)]

theorem ro_un {P : Program} {T : Tb} {E : Eq'} {b : Nat} {dr : Bool} {i : Nat} {s : AS} {acc : Acc} {K : AS → Acc → Prop} {d : Option Nat} {ty : TypeId} {po : String} {af : Array Edge} {g : Option (Nat × Bool)} {op : UnOp} {t : TypeId} {x : Operand} : RO P T E b dr i ⟨d, .unOp op t x, ty, po, af, g⟩ s acc K ⟨⟩ ⟨⟩ = (fin b dr i d s acc K ⟨⟩ (evO T E (.unOp op t x) (evA s.tm) (hpF s.F b s.L) (b + s.L.length))) := by
  show runO _ _ _ _ _ _ _ _ _ _ = _
  rw [runO_fin (by simp)]

theorem ro_convert {P : Program} {T : Tb} {E : Eq'} {b : Nat} {dr : Bool} {i : Nat} {s : AS} {acc : Acc} {K : AS → Acc → Prop} {d : Option Nat} {ty : TypeId} {po : String} {af : Array Edge} {g : Option (Nat × Bool)} {t u : TypeId} {x : Operand} : RO P T E b dr i ⟨d, .convert t u x, ty, po, af, g⟩ s acc K ⟨⟩ ⟨⟩ = (fin b dr i d s acc K ⟨⟩ (evO T E (.convert t u x) (evA s.tm) (hpF s.F b s.L) (b + s.L.length))) := by
  show runO _ _ _ _ _ _ _ _ _ _ = _
  rw [runO_fin (by simp)]

theorem ro_makeFunc {P : Program} {T : Tb} {E : Eq'} {b : Nat} {dr : Bool} {i : Nat} {s : AS} {acc : Acc} {K : AS → Acc → Prop} {d : Option Nat} {ty : TypeId} {po : String} {af : Array Edge} {g : Option (Nat × Bool)} {f : Fn} {x y : Array Operand} : RO P T E b dr i ⟨d, .makeFunc f x y, ty, po, af, g⟩ s acc K ⟨⟩ ⟨⟩ = (fin b dr i d s acc K ⟨⟩ (evO T E (.makeFunc f x y) (evA s.tm) (hpF s.F b s.L) (b + s.L.length))) := by
  show runO _ _ _ _ _ _ _ _ _ _ = _
  rw [runO_fin (by simp)]

theorem ro_makeMap {P : Program} {T : Tb} {E : Eq'} {b : Nat} {dr : Bool} {i : Nat} {s : AS} {acc : Acc} {K : AS → Acc → Prop} {d : Option Nat} {ty : TypeId} {po : String} {af : Array Edge} {g : Option (Nat × Bool)} {t : TypeId} : RO P T E b dr i ⟨d, .makeMap t none, ty, po, af, g⟩ s acc K ⟨⟩ ⟨⟩ = (fin b dr i d s acc K ⟨⟩ (evO T E (.makeMap t none) (evA s.tm) (hpF s.F b s.L) (b + s.L.length))) := by
  show runO _ _ _ _ _ _ _ _ _ _ = _
  rw [runO_fin (by simp)]

theorem ro_makeSlice {P : Program} {T : Tb} {E : Eq'} {b : Nat} {dr : Bool} {i : Nat} {s : AS} {acc : Acc} {K : AS → Acc → Prop} {d : Option Nat} {ty : TypeId} {po : String} {af : Array Edge} {g : Option (Nat × Bool)} {t : TypeId} {x y : Operand} : RO P T E b dr i ⟨d, .makeSlice t x y, ty, po, af, g⟩ s acc K ⟨⟩ ⟨⟩ = (fin b dr i d s acc K ⟨⟩ (evO T E (.makeSlice t x y) (evA s.tm) (hpF s.F b s.L) (b + s.L.length))) := by
  show runO _ _ _ _ _ _ _ _ _ _ = _
  rw [runO_fin (by simp)]

theorem ro_slice {P : Program} {T : Tb} {E : Eq'} {b : Nat} {dr : Bool} {i : Nat} {s : AS} {acc : Acc} {K : AS → Acc → Prop} {d : Option Nat} {ty : TypeId} {po : String} {af : Array Edge} {g : Option (Nat × Bool)} {t : TypeId} {x : Operand} {lo hi : Option Operand} : RO P T E b dr i ⟨d, .slice t x lo hi none, ty, po, af, g⟩ s acc K ⟨⟩ ⟨⟩ = (fin b dr i d s acc K ⟨⟩ (evO T E (.slice t x lo hi none) (evA s.tm) (hpF s.F b s.L) (b + s.L.length))) := by
  show runO _ _ _ _ _ _ _ _ _ _ = _
  rw [runO_fin (by simp)]

theorem ro_lookup {P : Program} {T : Tb} {E : Eq'} {b : Nat} {dr : Bool} {i : Nat} {s : AS} {acc : Acc} {K : AS → Acc → Prop} {d : Option Nat} {ty : TypeId} {po : String} {af : Array Edge} {g : Option (Nat × Bool)} {t : TypeId} {x y : Operand} {ok : Bool} : RO P T E b dr i ⟨d, .lookup t x y ok, ty, po, af, g⟩ s acc K ⟨⟩ ⟨⟩ = (fin b dr i d s acc K ⟨⟩ (evO T E (.lookup t x y ok) (evA s.tm) (hpF s.F b s.L) (b + s.L.length))) := by
  show runO _ _ _ _ _ _ _ _ _ _ = _
  rw [runO_fin (by simp)]

theorem ro_mapUpdate {P : Program} {T : Tb} {E : Eq'} {b : Nat} {dr : Bool} {i : Nat} {s : AS} {acc : Acc} {K : AS → Acc → Prop} {d : Option Nat} {ty : TypeId} {po : String} {af : Array Edge} {g : Option (Nat × Bool)} {t : TypeId} {x y z : Operand} : RO P T E b dr i ⟨d, .mapUpdate t x y z, ty, po, af, g⟩ s acc K ⟨⟩ ⟨⟩ = (fin b dr i d s acc K ⟨⟩ (evO T E (.mapUpdate t x y z) (evA s.tm) (hpF s.F b s.L) (b + s.L.length))) := by
  show runO _ _ _ _ _ _ _ _ _ _ = _
  rw [runO_fin (by simp)]

theorem ro_insert {P : Program} {T : Tb} {E : Eq'} {b : Nat} {dr : Bool} {i : Nat} {s : AS} {acc : Acc} {K : AS → Acc → Prop} {d : Option Nat} {ty : TypeId} {po : String} {af : Array Edge} {g : Option (Nat × Bool)} {t : TypeId} {x y z : Operand} : RO P T E b dr i ⟨d, .insert t x y z, ty, po, af, g⟩ s acc K ⟨⟩ ⟨⟩ = (fin b dr i d s acc K ⟨⟩ (evO T E (.insert t x y z) (evA s.tm) (hpF s.F b s.L) (b + s.L.length))) := by
  show runO _ _ _ _ _ _ _ _ _ _ = _
  rw [runO_fin (by simp)]

theorem ro_builtin {P : Program} {T : Tb} {E : Eq'} {b : Nat} {dr : Bool} {i : Nat} {s : AS} {acc : Acc} {K : AS → Acc → Prop} {d : Option Nat} {ty : TypeId} {po : String} {af : Array Edge} {g : Option (Nat × Bool)} {bi : Builtin} {args : Array Operand} {ts : Array TypeId} : RO P T E b dr i ⟨d, .call { callee := .builtin bi, args := args, argTypes := ts }, ty, po, af, g⟩ s acc K ⟨⟩ ⟨⟩ = (fin b dr i d s acc K ⟨⟩ (evBuiltin T bi (args.toList.map (evA s.tm)) ts.toList (hpF s.F b s.L) (b + s.L.length))) := by
  show runO _ _ _ _ _ _ _ _ _ _ = _
  rw [runO_fin (by simp)]; rfl

theorem ro_call {P : Program} {T : Tb} {E : Eq'} {b : Nat} {dr : Bool} {i : Nat} {s : AS} {acc : Acc} {K : AS → Acc → Prop} {d : Option Nat} {ty : TypeId} {po : String} {af : Array Edge} {g : Option (Nat × Bool)} {f : Operand} {args : Array Operand} {ts : Array TypeId} : RO P T E b dr i ⟨d, .call { callee := .value f, args := args, argTypes := ts }, ty, po, af, g⟩ s acc K ⟨⟩ ⟨⟩ = (RC P dr (evA s.tm f) (args.toList.map (evA s.tm)) s.F b s.L s.ds (fun v sets new foot => K { tm := putT s.tm d v, F := setF b s.F sets, L := setL b s.L sets ++ new, ds := s.ds } (accP dr (i, sets.map (·.1), foot) acc)) (fun v F' L' => K { tm := putT (mapT (pl1 [] b) s.tm) d v, F := F', L := L', ds := s.ds } acc) ⟨⟩ ⟨⟩) := by
  show runO _ _ _ _ _ _ _ _ _ _ = _
  unfold runO RC; simp only [accP_eq]

theorem fin_some {b : Nat} {dr : Bool} {i : Nat} {d : Option Nat} {s : AS} {acc : Acc} {K : AS → Acc → Prop} {p : Prop} {v : AVal} {sets : List (Nat × AObj)} {new : Option AObj} {ft : List Nat} : fin b dr i d s acc K ⟨⟩ (some ⟨p, v, sets, new, ft⟩) = (p ∧ K { tm := putT s.tm d v, F := setF b s.F sets, L := setL b s.L sets ++ new.toList, ds := s.ds } (accP dr (i, wids (b + s.L.length) sets new, ft) acc)) := by
  rfl

theorem fin_rd' {b : Nat} {dr : Bool} {i : Nat} {d : Option Nat} {s : AS} {acc : Acc} {K : AS → Acc → Prop} {v : AVal} {ft : List Nat} : fin b dr i d s acc K ⟨⟩ (rd v ft) = K { tm := putT s.tm d v, F := s.F, L := s.L, ds := s.ds } (accP dr (i, [], ft) acc) := by
  rw [fin_rd]; rfl

theorem finV_some {dr : Bool} {i : Nat} {d : Option Nat} {s : AS} {acc : Acc} {K : AS → Acc → Prop} {v : AVal} {ft : List Nat} : finV dr i d s acc K ⟨⟩ ft (some v) = K { tm := putT s.tm d v, F := s.F, L := s.L, ds := s.ds } (accP dr (i, [], ft) acc) := by
  rfl

theorem accP_t {e : Nat × List Nat × List Nat} {acc : Acc} : accP true e acc = e :: acc := by
  rfl

theorem accP_f {e : Nat × List Nat × List Nat} {acc : Acc} : accP false e acc = acc := by
  rfl

theorem rl_nil {P : Program} {T : Tb} {E : Eq'} {N b : Nat} {dr : Bool} {ds : List (Option Nat)} {i : Nat} {s : AS} {acc : Acc} {K : AS → Acc → Prop} : RL P T E N b dr ds i [] s acc K ⟨⟩ ⟨⟩ = K s acc := by
  rfl

theorem rl_cons {P : Program} {T : Tb} {E : Eq'} {N b : Nat} {dr : Bool} {ds : List (Option Nat)} {i : Nat} {s : AS} {acc : Acc} {K : AS → Acc → Prop} {d : Option Nat} {op : Op} {ty : TypeId} {po : String} {af : Array Edge} {rest : List Oper} : RL P T E N b dr ds i (⟨d, op, ty, po, af, none⟩ :: rest) s acc K ⟨⟩ ⟨⟩ = (dOK N d ∧ RO P T E b dr i ⟨d, op, ty, po, af, none⟩ s acc (fun s' acc' => RL P T E N b dr ds (i + 1) rest s' acc' K ⟨⟩ ⟨⟩) ⟨⟩ ⟨⟩) := by
  rfl

theorem rl_guard {P : Program} {T : Tb} {E : Eq'} {N b : Nat} {dr : Bool} {ds : List (Option Nat)} {i : Nat} {s : AS} {acc : Acc} {K : AS → Acc → Prop} {d : Option Nat} {op : Op} {ty : TypeId} {po : String} {af : Array Edge} {rest : List Oper} {j : Nat} {want : Bool} : RL P T E N b dr ds i (⟨d, op, ty, po, af, some (j, want)⟩ :: rest) s acc K ⟨⟩ ⟨⟩ = (dOK N d ∧ gd (ds[j]?).join s.tm want (RO P T E b dr i ⟨d, op, ty, po, af, none⟩ s acc (fun s' acc' => RL P T E N b dr ds (i + 1) rest s' acc' K ⟨⟩ ⟨⟩) ⟨⟩ ⟨⟩) (RL P T E N b dr ds (i + 1) rest { tm := putT s.tm d (.tup []), F := s.F, L := s.L, ds := s.ds } acc K ⟨⟩ ⟨⟩) ⟨⟩ ⟨⟩) := by
  simp only [RL, RO, runL, gd]; rfl

theorem gd_tt {dd : Nat} {tm : List (Nat × AVal)} {y n : Prop} {want : Bool} : gd (some dd) tm want y n ⟨⟩ ⟨⟩ = gdv (getT tm dd) want y n ⟨⟩ ⟨⟩ := by
  rfl

theorem gd_t {c : Bool} {y n : Prop} (h1 : c = true → y) (h2 : c = false → n) : gdv (.v (.bool c)) true y n ⟨⟩ ⟨⟩ := by cases c; exact h2 rfl; exact h1 rfl
theorem gd_f {c : Bool} {y n : Prop} (h1 : c = true → n) (h2 : c = false → y) : gdv (.v (.bool c)) false y n ⟨⟩ ⟨⟩ := by cases c; exact h2 rfl; exact h1 rfl

theorem gdv_tt {y n : Prop} : gdv (.v (.bool true)) true y n ⟨⟩ ⟨⟩ = y := by
  rfl

theorem gdv_ft {y n : Prop} : gdv (.v (.bool false)) true y n ⟨⟩ ⟨⟩ = n := by
  rfl

theorem gdv_tf {y n : Prop} : gdv (.v (.bool true)) false y n ⟨⟩ ⟨⟩ = n := by
  rfl

theorem gdv_ff {y n : Prop} : gdv (.v (.bool false)) false y n ⟨⟩ ⟨⟩ = y := by
  rfl

theorem gdv_any {y n : Prop} {want : Bool} : gdv (.tup []) want y n ⟨⟩ ⟨⟩ = n := by
  rfl

theorem dOK_some {N d : Nat} : dOK N (some d) = (d < N) := by
  rfl

theorem dOK_none {N : Nat} : dOK N none = True := by
  rfl

theorem putT_some {tm : List (Nat × AVal)} {d : Nat} {v : AVal} : putT tm (some d) v = (d, v) :: tm := by
  rfl

theorem putT_none {tm : List (Nat × AVal)} {v : AVal} : putT tm none v = tm := by
  rfl

theorem getT_cons {k t : Nat} {v : AVal} {r : List (Nat × AVal)} : getT ((k, v) :: r) t = if k = t then v else getT r t := by
  rfl

theorem getT_nil {t : Nat} : getT [] t = .any := by
  rfl

theorem evA_tmp {tm : List (Nat × AVal)} {t : Nat} : evA tm (.tmp t) = getT tm t := by
  rfl

theorem evA_const {tm : List (Nat × AVal)} {v : Value} : evA tm (.const v) = evC v := by
  rfl

theorem evA_func {tm : List (Nat × AVal)} {f : FuncId} : evA tm (.func f) = .fn (.func f) [] := by
  rfl

theorem evC_int {k : IntKind} {n : Int} : evC (.int k n) = .v (.int k n) := by
  rfl

theorem evC_bool {c : Bool} : evC (.bool c) = .v (.bool c) := by
  rfl

theorem evC_slice {a : Option Addr} {n k : Nat} : evC (.slice a n k) = .v (.slice a n k) := by
  rfl

theorem evC_pointer {a : Option Addr} : evC (.pointer a) = .v (.pointer a) := by
  rfl

theorem evC_map {a : Option Nat} : evC (.map a) = .v (.map a) := by
  rfl

theorem evC_nilFunc  : evC .nilFunc = .v .nilFunc := by
  rfl

theorem hpF_add {F : Hp} {b k : Nat} {L : List AObj} : hpF F b L (b + k) = L[k]? := by
  unfold hpF; rw [if_neg (by omega)]; congr 1; omega

theorem setF_nil {b : Nat} {F : Hp} : setF b F [] = F := by
  rfl

theorem setL_nil {b : Nat} {L : List AObj} : setL b L [] = L := by
  rfl

theorem setF_add {b k : Nat} {F : Hp} {o : AObj} {r : List (Nat × AObj)} : setF b F ((b + k, o) :: r) = setF b F r := by
  rw [setF, if_neg (by omega)]

theorem setL_add {b k : Nat} {L : List AObj} {o : AObj} {r : List (Nat × AObj)} : setL b L ((b + k, o) :: r) = setL b (L.set k o) r := by
  rw [setL, if_neg (by omega)]; congr 2; omega

theorem toL_none  : (none : Option AObj).toList = [] := by
  rfl

theorem toL_some {o : AObj} : (some o).toList = [o] := by
  rfl

theorem wids_none {n : Nat} {l : List (Nat × AObj)} : wids n l none = l.map (·.1) := by
  rfl

theorem wids_some {n : Nat} {l : List (Nat × AObj)} {o : AObj} : wids n l (some o) = n :: l.map (·.1) := by
  rfl

theorem runC_f {P : Program} {g : FuncId} {caps args : List AVal} {F : Hp} {b : Nat} {L : List AObj} {K : AVal → List (Nat × AObj) → List AObj → List Nat → Prop} {ds : List Nat} {KY : AVal → Hp → List AObj → Prop} : RC P false (.fn (.func g) caps) args F b L ds K KY ⟨⟩ ⟨⟩ = ∃ v sets new, CallE P g (args ++ caps) (hpF F b L) (b + L.length) v sets new ∧ K v sets new [] := by
  rfl

theorem runC_t {P : Program} {g : FuncId} {caps args : List AVal} {F : Hp} {b : Nat} {L : List AObj} {K : AVal → List (Nat × AObj) → List AObj → List Nat → Prop} {ds : List Nat} {KY : AVal → Hp → List AObj → Prop} : RC P true (.fn (.func g) caps) args F b L ds K KY ⟨⟩ ⟨⟩ = ∃ v need sets, CallS P g (args ++ caps) need v sets ∧ (∀ p ∈ need, hpF F b L p.1 = some p.2) ∧ (∀ p ∈ sets, p.1 ∈ need.map (·.1)) ∧ K v sets [] (need.map (·.1)) := by
  rfl

theorem runC_y {P : Program} {l : Nat} {args : List AVal} {F : Hp} {b : Nat} {B : AObj} {Ll : List AObj} {ds : List Nat} {K : AVal → List (Nat × AObj) → List AObj → List Nat → Prop} {KY : AVal → Hp → List AObj → Prop} : RC P false (.fn (.yield l) []) args F b (B :: Ll) ds K KY ⟨⟩ ⟨⟩ = (ds = [] ∧ Ll.all AObj.soft = true ∧ WF (b + 1) (hpF F b [B]) ∧ ∃ R, YieldR P l args F b B Ll R ∧ ∀ v F' B', R v F' B' → KY v F' (B' :: Ll.map fun _ => .dead)) := by
  rfl

theorem walk :
    (∀ {P : Program} {T : Tb} {E : Eq'} {b : Nat} {dr : Bool} {i : Nat} {s : AS} {acc : Acc} {K : AS → Acc → Prop} {d : Option Nat} {ty : TypeId} {po : String} {af : Array Edge} {g : Option (Nat × Bool)} {x : Operand}, RO P T E b dr i ⟨d, .move x, ty, po, af, g⟩ s acc K ⟨⟩ ⟨⟩ = (finV dr i d s acc K ⟨⟩ [] (some (evA s.tm x)))) ∧
    (∀ {P : Program} {T : Tb} {E : Eq'} {b : Nat} {dr : Bool} {i : Nat} {s : AS} {acc : Acc} {K : AS → Acc → Prop} {d : Option Nat} {ty : TypeId} {po : String} {af : Array Edge} {g : Option (Nat × Bool)} {x : Operand}, RO P T E b dr i ⟨d, .assign x, ty, po, af, g⟩ s acc K ⟨⟩ ⟨⟩ = (finV dr i d s acc K ⟨⟩ [] (some (evA s.tm x)))) ∧
    (∀ {P : Program} {T : Tb} {E : Eq'} {b : Nat} {dr : Bool} {i : Nat} {s : AS} {acc : Acc} {K : AS → Acc → Prop} {d : Option Nat} {ty : TypeId} {po : String} {af : Array Edge} {g : Option (Nat × Bool)} {x y z : Operand}, RO P T E b dr i ⟨d, .pick x y z, ty, po, af, g⟩ s acc K ⟨⟩ ⟨⟩ = (finV dr i d s acc K ⟨⟩ [] (pickA (evA s.tm x) (evA s.tm y) (evA s.tm z)))) ∧
    (∀ {P : Program} {T : Tb} {E : Eq'} {b : Nat} {dr : Bool} {i : Nat} {s : AS} {acc : Acc} {K : AS → Acc → Prop} {d : Option Nat} {ty : TypeId} {po : String} {af : Array Edge} {g : Option (Nat × Bool)} {t : TypeId}, RO P T E b dr i ⟨d, .alloc t, ty, po, af, g⟩ s acc K ⟨⟩ ⟨⟩ = (fin b dr i d s acc K ⟨⟩ (evO T E (.alloc t) (evA s.tm) (hpF s.F b s.L) (b + s.L.length)))) ∧
    (∀ {P : Program} {T : Tb} {E : Eq'} {b : Nat} {dr : Bool} {i : Nat} {s : AS} {acc : Acc} {K : AS → Acc → Prop} {d : Option Nat} {ty : TypeId} {po : String} {af : Array Edge} {g : Option (Nat × Bool)} {t : TypeId} {ps : Array (Nat × Operand)}, RO P T E b dr i ⟨d, .build t ps, ty, po, af, g⟩ s acc K ⟨⟩ ⟨⟩ = (finV dr i d s acc K ⟨⟩ [] (buildA T t (ps.toList.map fun p => (p.1, evA s.tm p.2))))) ∧
    (∀ {P : Program} {T : Tb} {E : Eq'} {b : Nat} {dr : Bool} {i : Nat} {s : AS} {acc : Acc} {K : AS → Acc → Prop} {d : Option Nat} {ty : TypeId} {po : String} {af : Array Edge} {g : Option (Nat × Bool)} {t : TypeId} {x : Operand}, RO P T E b dr i ⟨d, .load t x, ty, po, af, g⟩ s acc K ⟨⟩ ⟨⟩ = (finV dr i d s acc K ⟨⟩ (ids (evA s.tm x)) (loadA T t (evA s.tm x) (hpF s.F b s.L)))) ∧
    (∀ {P : Program} {T : Tb} {E : Eq'} {b : Nat} {dr : Bool} {i : Nat} {s : AS} {acc : Acc} {K : AS → Acc → Prop} {d : Option Nat} {ty : TypeId} {po : String} {af : Array Edge} {g : Option (Nat × Bool)} {op : BinOp} {t u : TypeId} {x y : Operand}, RO P T E b dr i ⟨d, .binOp op t x y u, ty, po, af, g⟩ s acc K ⟨⟩ ⟨⟩ = (finV dr i d s acc K ⟨⟩ (ids (evA s.tm x) ++ ids (evA s.tm y)) (binA T E op t (evA s.tm x) (evA s.tm y) (hpF s.F b s.L)))) ∧
    (∀ {P : Program} {T : Tb} {E : Eq'} {b : Nat} {dr : Bool} {i : Nat} {s : AS} {acc : Acc} {K : AS → Acc → Prop} {d : Option Nat} {ty : TypeId} {po : String} {af : Array Edge} {g : Option (Nat × Bool)} {t : TypeId} {x : Operand} {j : Nat}, RO P T E b dr i ⟨d, .fieldAddr t x j, ty, po, af, g⟩ s acc K ⟨⟩ ⟨⟩ = (finV dr i d s acc K ⟨⟩ (ids (evA s.tm x)) (fieldAddrA T t (evA s.tm x) j (hpF s.F b s.L)))) ∧
    (∀ {P : Program} {T : Tb} {E : Eq'} {b : Nat} {dr : Bool} {i : Nat} {s : AS} {acc : Acc} {K : AS → Acc → Prop} {d : Option Nat} {ty : TypeId} {po : String} {af : Array Edge} {g : Option (Nat × Bool)} {t : TypeId} {x : Operand} {j : Nat}, RO P T E b dr i ⟨d, .field t x j, ty, po, af, g⟩ s acc K ⟨⟩ ⟨⟩ = (finV dr i d s acc K ⟨⟩ [] (fieldA T t (evA s.tm x) j))) ∧
    (∀ {P : Program} {T : Tb} {E : Eq'} {b : Nat} {dr : Bool} {i : Nat} {s : AS} {acc : Acc} {K : AS → Acc → Prop} {d : Option Nat} {ty : TypeId} {po : String} {af : Array Edge} {g : Option (Nat × Bool)} {t : TypeId} {x y : Operand}, RO P T E b dr i ⟨d, .indexAddr t x y, ty, po, af, g⟩ s acc K ⟨⟩ ⟨⟩ = (finV dr i d s acc K ⟨⟩ (ids (evA s.tm x)) (indexAddrA T t (evA s.tm x) (evA s.tm y) (hpF s.F b s.L)))) ∧
    (∀ {P : Program} {T : Tb} {E : Eq'} {b : Nat} {dr : Bool} {i : Nat} {s : AS} {acc : Acc} {K : AS → Acc → Prop} {d : Option Nat} {ty : TypeId} {po : String} {af : Array Edge} {g : Option (Nat × Bool)} {t : TypeId} {x y : Operand}, RO P T E b dr i ⟨d, .index t x y, ty, po, af, g⟩ s acc K ⟨⟩ ⟨⟩ = (finV dr i d s acc K ⟨⟩ [] (indexA T t (evA s.tm x) (evA s.tm y)))) ∧
    (∀ {P : Program} {T : Tb} {E : Eq'} {b : Nat} {dr : Bool} {i : Nat} {s : AS} {acc : Acc} {K : AS → Acc → Prop} {d : Option Nat} {ty : TypeId} {po : String} {af : Array Edge} {g : Option (Nat × Bool)} {x : Operand} {j : Nat}, RO P T E b dr i ⟨d, .extract x j, ty, po, af, g⟩ s acc K ⟨⟩ ⟨⟩ = (finV dr i d s acc K ⟨⟩ [] (tupA (evA s.tm x) j))) ∧
    (∀ {P : Program} {T : Tb} {E : Eq'} {b : Nat} {dr : Bool} {i : Nat} {s : AS} {acc : Acc} {K : AS → Acc → Prop} {d : Option Nat} {ty : TypeId} {po : String} {af : Array Edge} {g : Option (Nat × Bool)} {t : TypeId} {x : Operand}, RO P T E b dr i ⟨d, .box t x, ty, po, af, g⟩ s acc K ⟨⟩ ⟨⟩ = (fin b dr i d s acc K ⟨⟩ (evO T E (.box t x) (evA s.tm) (hpF s.F b s.L) (b + s.L.length)))) ∧
    (∀ {P : Program} {T : Tb} {E : Eq'} {b : Nat} {dr : Bool} {i : Nat} {s : AS} {acc : Acc} {K : AS → Acc → Prop} {d : Option Nat} {ty : TypeId} {po : String} {af : Array Edge} {g : Option (Nat × Bool)} {t : TypeId} {n : Nat} {ps : Array (Nat × Operand)}, RO P T E b dr i ⟨d, .buildSlice t n ps, ty, po, af, g⟩ s acc K ⟨⟩ ⟨⟩ = (fin b dr i d s acc K ⟨⟩ (evO T E (.buildSlice t n ps) (evA s.tm) (hpF s.F b s.L) (b + s.L.length)))) ∧
    (∀ {P : Program} {T : Tb} {E : Eq'} {b : Nat} {dr : Bool} {i : Nat} {s : AS} {acc : Acc} {K : AS → Acc → Prop} {d : Option Nat} {ty : TypeId} {po : String} {af : Array Edge} {g : Option (Nat × Bool)} {t : TypeId} {x y : Operand}, RO P T E b dr i ⟨d, .store t x y, ty, po, af, g⟩ s acc K ⟨⟩ ⟨⟩ = (fin b dr i d s acc K ⟨⟩ (evO T E (.store t x y) (evA s.tm) (hpF s.F b s.L) (b + s.L.length)))) ∧
    (∀ {P : Program} {T : Tb} {E : Eq'} {b : Nat} {dr : Bool} {i : Nat} {s : AS} {acc : Acc} {K : AS → Acc → Prop} {d : Option Nat} {ty : TypeId} {po : String} {af : Array Edge} {g : Option (Nat × Bool)} {x : Operand}, RO P T E b dr i ⟨d, .nilCheck x, ty, po, af, g⟩ s acc K ⟨⟩ ⟨⟩ = (fin b dr i d s acc K ⟨⟩ (evO T E (.nilCheck x) (evA s.tm) (hpF s.F b s.L) (b + s.L.length)))) ∧
    (∀ {P : Program} {T : Tb} {E : Eq'} {b : Nat} {dr : Bool} {i : Nat} {s : AS} {acc : Acc} {K : AS → Acc → Prop} {d : Option Nat} {ty : TypeId} {po : String} {af : Array Edge} {g : Option (Nat × Bool)} {op : UnOp} {t : TypeId} {x : Operand}, RO P T E b dr i ⟨d, .unOp op t x, ty, po, af, g⟩ s acc K ⟨⟩ ⟨⟩ = (fin b dr i d s acc K ⟨⟩ (evO T E (.unOp op t x) (evA s.tm) (hpF s.F b s.L) (b + s.L.length)))) ∧
    (∀ {P : Program} {T : Tb} {E : Eq'} {b : Nat} {dr : Bool} {i : Nat} {s : AS} {acc : Acc} {K : AS → Acc → Prop} {d : Option Nat} {ty : TypeId} {po : String} {af : Array Edge} {g : Option (Nat × Bool)} {t u : TypeId} {x : Operand}, RO P T E b dr i ⟨d, .convert t u x, ty, po, af, g⟩ s acc K ⟨⟩ ⟨⟩ = (fin b dr i d s acc K ⟨⟩ (evO T E (.convert t u x) (evA s.tm) (hpF s.F b s.L) (b + s.L.length)))) ∧
    (∀ {P : Program} {T : Tb} {E : Eq'} {b : Nat} {dr : Bool} {i : Nat} {s : AS} {acc : Acc} {K : AS → Acc → Prop} {d : Option Nat} {ty : TypeId} {po : String} {af : Array Edge} {g : Option (Nat × Bool)} {f : Fn} {x y : Array Operand}, RO P T E b dr i ⟨d, .makeFunc f x y, ty, po, af, g⟩ s acc K ⟨⟩ ⟨⟩ = (fin b dr i d s acc K ⟨⟩ (evO T E (.makeFunc f x y) (evA s.tm) (hpF s.F b s.L) (b + s.L.length)))) ∧
    (∀ {P : Program} {T : Tb} {E : Eq'} {b : Nat} {dr : Bool} {i : Nat} {s : AS} {acc : Acc} {K : AS → Acc → Prop} {d : Option Nat} {ty : TypeId} {po : String} {af : Array Edge} {g : Option (Nat × Bool)} {t : TypeId}, RO P T E b dr i ⟨d, .makeMap t none, ty, po, af, g⟩ s acc K ⟨⟩ ⟨⟩ = (fin b dr i d s acc K ⟨⟩ (evO T E (.makeMap t none) (evA s.tm) (hpF s.F b s.L) (b + s.L.length)))) ∧
    (∀ {P : Program} {T : Tb} {E : Eq'} {b : Nat} {dr : Bool} {i : Nat} {s : AS} {acc : Acc} {K : AS → Acc → Prop} {d : Option Nat} {ty : TypeId} {po : String} {af : Array Edge} {g : Option (Nat × Bool)} {t : TypeId} {x y : Operand}, RO P T E b dr i ⟨d, .makeSlice t x y, ty, po, af, g⟩ s acc K ⟨⟩ ⟨⟩ = (fin b dr i d s acc K ⟨⟩ (evO T E (.makeSlice t x y) (evA s.tm) (hpF s.F b s.L) (b + s.L.length)))) ∧
    (∀ {P : Program} {T : Tb} {E : Eq'} {b : Nat} {dr : Bool} {i : Nat} {s : AS} {acc : Acc} {K : AS → Acc → Prop} {d : Option Nat} {ty : TypeId} {po : String} {af : Array Edge} {g : Option (Nat × Bool)} {t : TypeId} {x : Operand} {lo hi : Option Operand}, RO P T E b dr i ⟨d, .slice t x lo hi none, ty, po, af, g⟩ s acc K ⟨⟩ ⟨⟩ = (fin b dr i d s acc K ⟨⟩ (evO T E (.slice t x lo hi none) (evA s.tm) (hpF s.F b s.L) (b + s.L.length)))) ∧
    (∀ {P : Program} {T : Tb} {E : Eq'} {b : Nat} {dr : Bool} {i : Nat} {s : AS} {acc : Acc} {K : AS → Acc → Prop} {d : Option Nat} {ty : TypeId} {po : String} {af : Array Edge} {g : Option (Nat × Bool)} {t : TypeId} {x y : Operand} {ok : Bool}, RO P T E b dr i ⟨d, .lookup t x y ok, ty, po, af, g⟩ s acc K ⟨⟩ ⟨⟩ = (fin b dr i d s acc K ⟨⟩ (evO T E (.lookup t x y ok) (evA s.tm) (hpF s.F b s.L) (b + s.L.length)))) ∧
    (∀ {P : Program} {T : Tb} {E : Eq'} {b : Nat} {dr : Bool} {i : Nat} {s : AS} {acc : Acc} {K : AS → Acc → Prop} {d : Option Nat} {ty : TypeId} {po : String} {af : Array Edge} {g : Option (Nat × Bool)} {t : TypeId} {x y z : Operand}, RO P T E b dr i ⟨d, .mapUpdate t x y z, ty, po, af, g⟩ s acc K ⟨⟩ ⟨⟩ = (fin b dr i d s acc K ⟨⟩ (evO T E (.mapUpdate t x y z) (evA s.tm) (hpF s.F b s.L) (b + s.L.length)))) ∧
    (∀ {P : Program} {T : Tb} {E : Eq'} {b : Nat} {dr : Bool} {i : Nat} {s : AS} {acc : Acc} {K : AS → Acc → Prop} {d : Option Nat} {ty : TypeId} {po : String} {af : Array Edge} {g : Option (Nat × Bool)} {t : TypeId} {x y z : Operand}, RO P T E b dr i ⟨d, .insert t x y z, ty, po, af, g⟩ s acc K ⟨⟩ ⟨⟩ = (fin b dr i d s acc K ⟨⟩ (evO T E (.insert t x y z) (evA s.tm) (hpF s.F b s.L) (b + s.L.length)))) ∧
    (∀ {P : Program} {T : Tb} {E : Eq'} {b : Nat} {dr : Bool} {i : Nat} {s : AS} {acc : Acc} {K : AS → Acc → Prop} {d : Option Nat} {ty : TypeId} {po : String} {af : Array Edge} {g : Option (Nat × Bool)} {bi : Builtin} {args : Array Operand} {ts : Array TypeId}, RO P T E b dr i ⟨d, .call { callee := .builtin bi, args := args, argTypes := ts }, ty, po, af, g⟩ s acc K ⟨⟩ ⟨⟩ = (fin b dr i d s acc K ⟨⟩ (evBuiltin T bi (args.toList.map (evA s.tm)) ts.toList (hpF s.F b s.L) (b + s.L.length)))) ∧
    (∀ {P : Program} {T : Tb} {E : Eq'} {b : Nat} {dr : Bool} {i : Nat} {s : AS} {acc : Acc} {K : AS → Acc → Prop} {d : Option Nat} {ty : TypeId} {po : String} {af : Array Edge} {g : Option (Nat × Bool)} {f : Operand} {args : Array Operand} {ts : Array TypeId}, RO P T E b dr i ⟨d, .call { callee := .value f, args := args, argTypes := ts }, ty, po, af, g⟩ s acc K ⟨⟩ ⟨⟩ = (RC P dr (evA s.tm f) (args.toList.map (evA s.tm)) s.F b s.L s.ds (fun v sets new foot => K { tm := putT s.tm d v, F := setF b s.F sets, L := setL b s.L sets ++ new, ds := s.ds } (accP dr (i, sets.map (·.1), foot) acc)) (fun v F' L' => K { tm := putT (mapT (pl1 [] b) s.tm) d v, F := F', L := L', ds := s.ds } acc) ⟨⟩ ⟨⟩)) ∧
    (∀ {b : Nat} {dr : Bool} {i : Nat} {d : Option Nat} {s : AS} {acc : Acc} {K : AS → Acc → Prop} {p : Prop} {v : AVal} {sets : List (Nat × AObj)} {new : Option AObj} {ft : List Nat}, fin b dr i d s acc K ⟨⟩ (some ⟨p, v, sets, new, ft⟩) = (p ∧ K { tm := putT s.tm d v, F := setF b s.F sets, L := setL b s.L sets ++ new.toList, ds := s.ds } (accP dr (i, wids (b + s.L.length) sets new, ft) acc))) ∧
    (∀ {b : Nat} {dr : Bool} {i : Nat} {d : Option Nat} {s : AS} {acc : Acc} {K : AS → Acc → Prop} {v : AVal} {ft : List Nat}, fin b dr i d s acc K ⟨⟩ (rd v ft) = K { tm := putT s.tm d v, F := s.F, L := s.L, ds := s.ds } (accP dr (i, [], ft) acc)) ∧
    (∀ {dr : Bool} {i : Nat} {d : Option Nat} {s : AS} {acc : Acc} {K : AS → Acc → Prop} {v : AVal} {ft : List Nat}, finV dr i d s acc K ⟨⟩ ft (some v) = K { tm := putT s.tm d v, F := s.F, L := s.L, ds := s.ds } (accP dr (i, [], ft) acc)) ∧
    (∀ {e : Nat × List Nat × List Nat} {acc : Acc}, accP true e acc = e :: acc) ∧
    (∀ {e : Nat × List Nat × List Nat} {acc : Acc}, accP false e acc = acc) ∧
    (∀ {P : Program} {T : Tb} {E : Eq'} {N b : Nat} {dr : Bool} {ds : List (Option Nat)} {i : Nat} {s : AS} {acc : Acc} {K : AS → Acc → Prop}, RL P T E N b dr ds i [] s acc K ⟨⟩ ⟨⟩ = K s acc) ∧
    (∀ {P : Program} {T : Tb} {E : Eq'} {N b : Nat} {dr : Bool} {ds : List (Option Nat)} {i : Nat} {s : AS} {acc : Acc} {K : AS → Acc → Prop} {d : Option Nat} {op : Op} {ty : TypeId} {po : String} {af : Array Edge} {rest : List Oper}, RL P T E N b dr ds i (⟨d, op, ty, po, af, none⟩ :: rest) s acc K ⟨⟩ ⟨⟩ = (dOK N d ∧ RO P T E b dr i ⟨d, op, ty, po, af, none⟩ s acc (fun s' acc' => RL P T E N b dr ds (i + 1) rest s' acc' K ⟨⟩ ⟨⟩) ⟨⟩ ⟨⟩)) ∧
    (∀ {P : Program} {T : Tb} {E : Eq'} {N b : Nat} {dr : Bool} {ds : List (Option Nat)} {i : Nat} {s : AS} {acc : Acc} {K : AS → Acc → Prop} {d : Option Nat} {op : Op} {ty : TypeId} {po : String} {af : Array Edge} {rest : List Oper} {j : Nat} {want : Bool}, RL P T E N b dr ds i (⟨d, op, ty, po, af, some (j, want)⟩ :: rest) s acc K ⟨⟩ ⟨⟩ = (dOK N d ∧ gd (ds[j]?).join s.tm want (RO P T E b dr i ⟨d, op, ty, po, af, none⟩ s acc (fun s' acc' => RL P T E N b dr ds (i + 1) rest s' acc' K ⟨⟩ ⟨⟩) ⟨⟩ ⟨⟩) (RL P T E N b dr ds (i + 1) rest { tm := putT s.tm d (.tup []), F := s.F, L := s.L, ds := s.ds } acc K ⟨⟩ ⟨⟩) ⟨⟩ ⟨⟩)) ∧
    (∀ {dd : Nat} {tm : List (Nat × AVal)} {y n : Prop} {want : Bool}, gd (some dd) tm want y n ⟨⟩ ⟨⟩ = gdv (getT tm dd) want y n ⟨⟩ ⟨⟩) ∧
    (∀ {y n : Prop}, gdv (.v (.bool true)) true y n ⟨⟩ ⟨⟩ = y) ∧
    (∀ {y n : Prop}, gdv (.v (.bool false)) true y n ⟨⟩ ⟨⟩ = n) ∧
    (∀ {y n : Prop}, gdv (.v (.bool true)) false y n ⟨⟩ ⟨⟩ = n) ∧
    (∀ {y n : Prop}, gdv (.v (.bool false)) false y n ⟨⟩ ⟨⟩ = y) ∧
    (∀ {y n : Prop} {want : Bool}, gdv (.tup []) want y n ⟨⟩ ⟨⟩ = n) ∧
    (∀ {N d : Nat}, dOK N (some d) = (d < N)) ∧
    (∀ {N : Nat}, dOK N none = True) ∧
    (∀ {tm : List (Nat × AVal)} {d : Nat} {v : AVal}, putT tm (some d) v = (d, v) :: tm) ∧
    (∀ {tm : List (Nat × AVal)} {v : AVal}, putT tm none v = tm) ∧
    (∀ {k t : Nat} {v : AVal} {r : List (Nat × AVal)}, getT ((k, v) :: r) t = if k = t then v else getT r t) ∧
    (∀ {t : Nat}, getT [] t = .any) ∧
    (∀ {tm : List (Nat × AVal)} {t : Nat}, evA tm (.tmp t) = getT tm t) ∧
    (∀ {tm : List (Nat × AVal)} {v : Value}, evA tm (.const v) = evC v) ∧
    (∀ {tm : List (Nat × AVal)} {f : FuncId}, evA tm (.func f) = .fn (.func f) []) ∧
    (∀ {k : IntKind} {n : Int}, evC (.int k n) = .v (.int k n)) ∧
    (∀ {c : Bool}, evC (.bool c) = .v (.bool c)) ∧
    (∀ {a : Option Addr} {n k : Nat}, evC (.slice a n k) = .v (.slice a n k)) ∧
    (∀ {a : Option Addr}, evC (.pointer a) = .v (.pointer a)) ∧
    (∀ {a : Option Nat}, evC (.map a) = .v (.map a)) ∧
    (evC .nilFunc = .v .nilFunc) ∧
    (∀ {F : Hp} {b k : Nat} {L : List AObj}, hpF F b L (b + k) = L[k]?) ∧
    (∀ {b : Nat} {F : Hp}, setF b F [] = F) ∧
    (∀ {b : Nat} {L : List AObj}, setL b L [] = L) ∧
    (∀ {b k : Nat} {F : Hp} {o : AObj} {r : List (Nat × AObj)}, setF b F ((b + k, o) :: r) = setF b F r) ∧
    (∀ {b k : Nat} {L : List AObj} {o : AObj} {r : List (Nat × AObj)}, setL b L ((b + k, o) :: r) = setL b (L.set k o) r) ∧
    ((none : Option AObj).toList = []) ∧
    (∀ {o : AObj}, (some o).toList = [o]) ∧
    (∀ {n : Nat} {l : List (Nat × AObj)}, wids n l none = l.map (·.1)) ∧
    (∀ {n : Nat} {l : List (Nat × AObj)} {o : AObj}, wids n l (some o) = n :: l.map (·.1)) ∧
    (∀ {P : Program} {g : FuncId} {caps args : List AVal} {F : Hp} {b : Nat} {L : List AObj} {K : AVal → List (Nat × AObj) → List AObj → List Nat → Prop} {ds : List Nat} {KY : AVal → Hp → List AObj → Prop}, RC P false (.fn (.func g) caps) args F b L ds K KY ⟨⟩ ⟨⟩ = ∃ v sets new, CallE P g (args ++ caps) (hpF F b L) (b + L.length) v sets new ∧ K v sets new []) ∧
    (∀ {P : Program} {g : FuncId} {caps args : List AVal} {F : Hp} {b : Nat} {L : List AObj} {K : AVal → List (Nat × AObj) → List AObj → List Nat → Prop} {ds : List Nat} {KY : AVal → Hp → List AObj → Prop}, RC P true (.fn (.func g) caps) args F b L ds K KY ⟨⟩ ⟨⟩ = ∃ v need sets, CallS P g (args ++ caps) need v sets ∧ (∀ p ∈ need, hpF F b L p.1 = some p.2) ∧ (∀ p ∈ sets, p.1 ∈ need.map (·.1)) ∧ K v sets [] (need.map (·.1))) ∧
    (∀ {P : Program} {l : Nat} {args : List AVal} {F : Hp} {b : Nat} {B : AObj} {Ll : List AObj} {ds : List Nat} {K : AVal → List (Nat × AObj) → List AObj → List Nat → Prop} {KY : AVal → Hp → List AObj → Prop}, RC P false (.fn (.yield l) []) args F b (B :: Ll) ds K KY ⟨⟩ ⟨⟩ = (ds = [] ∧ Ll.all AObj.soft = true ∧ WF (b + 1) (hpF F b [B]) ∧ ∃ R, YieldR P l args F b B Ll R ∧ ∀ v F' B', R v F' B' → KY v F' (B' :: Ll.map fun _ => .dead))) :=
  ⟨@ro_move, @ro_assign, @ro_pick, @ro_alloc, @ro_build, @ro_load, @ro_bin, @ro_fieldAddr, @ro_field, @ro_indexAddr, @ro_index, @ro_extract, @ro_box, @ro_buildSlice, @ro_store, @ro_nilCheck, @ro_un, @ro_convert, @ro_makeFunc, @ro_makeMap, @ro_makeSlice, @ro_slice, @ro_lookup, @ro_mapUpdate, @ro_insert, @ro_builtin, @ro_call, @fin_some, @fin_rd', @finV_some, @accP_t, @accP_f, @rl_nil, @rl_cons, @rl_guard, @gd_tt, @gdv_tt, @gdv_ft, @gdv_tf, @gdv_ff, @gdv_any, @dOK_some, @dOK_none, @putT_some, @putT_none, @getT_cons, @getT_nil, @evA_tmp, @evA_const, @evA_func, @evC_int, @evC_bool, @evC_slice, @evC_pointer, @evC_map, @evC_nilFunc, @hpF_add, @setF_nil, @setL_nil, @setF_add, @setL_add, @toL_none, @toL_some, @wids_none, @wids_some, @runC_f, @runC_t, @runC_y⟩
attribute [go_sem] ro_move ro_assign ro_pick ro_alloc ro_build ro_load ro_bin ro_fieldAddr ro_field ro_indexAddr ro_index ro_extract ro_box ro_buildSlice ro_store ro_nilCheck ro_un ro_convert ro_makeFunc ro_makeMap ro_makeSlice ro_slice ro_lookup ro_mapUpdate ro_insert ro_builtin ro_call fin_some fin_rd' finV_some accP_t accP_f rl_nil rl_cons rl_guard gd_tt gdv_tt gdv_ft gdv_tf gdv_ff gdv_any dOK_some dOK_none putT_some putT_none getT_cons getT_nil evA_tmp evA_const evA_func evC_int evC_bool evC_slice evC_pointer evC_map evC_nilFunc hpF_add setF_nil setL_nil setF_add setL_add toL_none toL_some wids_none wids_some runC_f runC_t runC_y

section
variable {P : Program} {T : Tb} {E : Eq'} {top : Bool} {N b : Nat}
theorem wpA_reg (hT : Tab P T) (hE : Eqs P E) {id : Nat} {l : List Oper} {Q : Exit → AS → Prop} {s : AS}
    (h : ∀ K : AS → Acc → Prop, (∀ s' acc, Q .normal s' → K s' acc) → RL P T E N b false (l.map (·.dst)) 0 l s [] K ⟨⟩ ⟨⟩) : wpA P top N b (.region id l.toArray false) Q s :=
  wpA_region hT hE (h _ fun _ _ h => h)
theorem wpA_drw (hT : Tab P T) (hE : Eqs P E) (hm : P.follows .mixedOrders = true) {id : Nat} {l : List Oper} {Q : Exit → AS → Prop} {s : AS} (htm : tmpOK l = true)
    (h : ∀ K : AS → List (Nat × Nat) → Prop, (∀ s' ps, allOrd l ps = true → Q .normal s' → K s' ps) → RL P T E N b true (l.map (·.dst)) 0 l s [] (fun s' acc => K s' (conf acc)) ⟨⟩ ⟨⟩) : wpA P top N b (.region id l.toArray true) Q s :=
  wpA_draw hT hE hm htm (h (fun s' ps => allOrd l ps = true ∧ Q .normal s') fun _ _ h1 h2 => ⟨h1, h2⟩)
end
end Go.Av

namespace Go.Av
open Go.RowKit

def tlook : List (Nat × TD) → Nat → Option TD
  | [], _ => none
  | (k, v) :: r, t => if k = t then some v else tlook r t
theorem tlook_mem : ∀ {l : List (Nat × TD)} {t : Nat} {v : TD}, tlook l t = some v → (t, v) ∈ l
  | (k, v) :: r, t, u, h => by
    simp only [tlook] at h
    split at h
    · rename_i hk; cases h; subst hk; exact List.mem_cons_self ..
    · exact List.mem_cons_of_mem _ (tlook_mem h)
end Go.Av
namespace Go.Av
attribute [go_sem] evO evBuiltin evLen evAppend evCopy evSlice evLookup evUpdate bndA elemsA loadA storeA fieldAddrA indexAddrA fieldA indexA buildA fillA buildSliceA mkEl chunkA makeSliceA rdc partA binA intBin eqlA plainCells cellsEq cellEq pickA tupA
  ids AVal.cells AVal.solid AVal.isAgg flat splice ofCells alive zeroA mget mput argT
  List.map_cons List.map_nil List.getElem?_cons_succ List.getElem?_cons_zero List.length_cons List.length_nil List.length_map Option.join_some Option.map_some Option.getD_some Option.getD_none Option.isSome_some Option.isSome_none
  List.all_cons List.all_nil List.take_succ_cons List.take_zero List.drop_succ_cons List.drop_zero List.nil_append List.cons_append List.append_nil List.set_cons_zero List.set_cons_succ
  Value.oneCell' if_true if_false ite_true ite_false true_and and_true Bool.and_true Bool.true_and Bool.and_eq_true decide_true decide_false not_true_eq_false not_false_eq_true List.toList_toArray
  conf conf1 disj memN Bool.not_true Bool.not_false Bool.false_and Bool.and_false beq_self_eq_true Nat.add_left_cancel_iff Int.toNat_natCast List.getElem?_map
end Go.Av
namespace Go.Av
open Go.RowKit
section
variable {P : Program} {T : Tb} {E : Eq'} {top : Bool} {N b : Nat} {Q : Exit → AS → Prop} {s : AS} {code : Code}

theorem wpA_bound (t : Nat) (xs : List AVal) (ht : getT s.tm t = .sl xs) (h : xs.length ≤ 9223372036854775807 → wpA P top N b code Q s) : wpA P top N b code Q s := fun F hF c a hs => by
  have hr := hs.fr t
  rw [ht] at hr
  obtain ⟨A, k, _, h2, h3, _⟩ := hr
  exact h (Nat.le_trans h2 h3) F hF c a hs
theorem relL_bound {c : Cx} {xs : List AVal} : ∀ {cs : List AVal} {ys : List Value}, RelL c cs ys → .sl xs ∈ cs → xs.length ≤ 9223372036854775807
  | x :: cs, ys, h, hm => by
    obtain ⟨y, ys', rfl, h1, h2⟩ := h
    rcases List.mem_cons.1 hm with h3 | h3
    · subst h3
      obtain ⟨A, k, _, h4, h5, _⟩ := h1
      exact Nat.le_trans h4 h5
    · exact relL_bound h2 h3
theorem wpA_boundA (t : Nat) {cs : List AVal} (xs : List AVal) (ht : getT s.tm t = .agg cs) (hm : .sl xs ∈ cs) (h : xs.length ≤ 9223372036854775807 → wpA P top N b code Q s) : wpA P top N b code Q s := fun F hF c a hs => by
  have hr := hs.fr t
  rw [ht] at hr
  obtain ⟨ys, _, h1⟩ := hr
  exact h (relL_bound h1 hm) F hF c a hs
theorem wpA_boundO (id : Nat) {e sz : Nat} {xs : List AVal} (ht : hpF s.F b s.L id = some (.row e sz xs)) (h : xs.length ≤ 9223372036854775807 → wpA P top N b code Q s) : wpA P top N b code Q s := fun F hF c a hs => by
  rcases hs.heap.obj id _ ht with ⟨g, cap, C, h1, h2, h3, h4, h5, h6⟩ | ⟨h1, h2⟩
  · exact h (Nat.le_trans h4 h5) F hF c a hs
  · exact h (by simp [h2]) F hF c a hs
theorem wpA_boundC (id : Nat) {t : Nat} {cs : List AVal} (xs : List AVal) (ht : hpF s.F b s.L id = some (.blk t cs)) (hm : .sl xs ∈ cs) (h : xs.length ≤ 9223372036854775807 → wpA P top N b code Q s) : wpA P top N b code Q s := fun F hF c a hs => by
  obtain ⟨g, C, h1, h2, h3⟩ := hs.heap.obj id _ ht
  exact h (relL_bound h3 hm) F hF c a hs

def keepS (b : Nat) (s : AS) (ks σ : List Nat) : AS := { tm := keepT σ b s.tm ks, F := pullF σ b s.F, L := pullL σ b s.L, ds := [] }
theorem wpA_kp (ks σ : List Nat) (hn : σ.Nodup) (hl : ∀ k ∈ σ, k < s.L.length) (hds : s.ds = []) (h : ∀ K : AS → Prop, (∀ s', wpA P top N b code Q s' → K s') → K (keepS b s ks σ)) : wpA P top N b code Q s :=
  wpA_wk (wk_keep ks σ hn hl hds) (h _ fun _ h => h)
theorem wk_kp (ks σ : List Nat) (hn : σ.Nodup) (hl : ∀ k ∈ σ, k < s.L.length) (hds : s.ds = []) : Wk N b s (keepS b s ks σ) := wk_keep ks σ hn hl hds

theorem wpA_loopI {x : Code} (I : Nat → AS → Prop) (m : Nat) (h0 : I m s)
    (round : ∀ m s, I m s → wpA P top N b x (Th (fun s' => ∃ s'' m', Wk N b s' s'' ∧ I m' s'' ∧ m' < m) Q) s) : wpA P top N b (.loop x) Q s := by
  have key : ∀ m s k, I k s → k < m → ∀ F, Fok top F → ∀ c a, Sim c N b s a → Code.roundsIn F 0 P x (fun e a' w' => ∃ c' s', c'.w = w' ∧ Q e s' ∧ Sim c' N b s' a' ∧ c.leB b c') m a c.w := by
    intro m
    induction m with
    | zero => intro s k _ h; exact absurd h (Nat.not_lt_zero _)
    | succ m ih =>
      intro s k hI hm F hF c a hs
      have := round k s hI F hF c a hs
      simp only [Code.roundsIn]
      refine wpIn_mono this ?_
      rintro e a' w' ⟨c', s', rfl, h2, h3, h4⟩
      cases e with
      | normal =>
        obtain ⟨s'', k', hw, hI', hlt⟩ := h2
        obtain ⟨c1, h5, h6, h7⟩ := hw c' a' h3
        have := ih s'' k' hI' (by omega) F hF c1 a' h6
        rw [h5] at this
        show Code.roundsIn F 0 P x _ m a' c'.w
        have mono : ∀ (m : Nat) (a : Act) (w : World) (Q1 Q2 : Exit → Act → World → Prop), (∀ e a w, Q1 e a w → Q2 e a w) → Code.roundsIn F 0 P x Q1 m a w → Code.roundsIn F 0 P x Q2 m a w := by
          intro m
          induction m with
          | zero => intro a w Q1 Q2 _ h; exact h
          | succ m ihm =>
            intro a w Q1 Q2 hq h
            simp only [Code.roundsIn] at h ⊢
            refine wpIn_mono h ?_
            intro e a w hh
            cases e <;> first | exact ihm _ _ Q1 Q2 hq hh | exact hq _ _ _ hh
        exact mono m _ _ _ _ (fun e a w ⟨c'', s3, h8, h9, h10, h11⟩ => ⟨c'', s3, h8, h9, h10, h4.trans (h7.trans h11)⟩) this
      | exit id => exact ⟨c', s', rfl, h2, h3, h4⟩
      | goto l => exact ⟨c', s', rfl, h2, h3, h4⟩
      | ret => exact ⟨c', s', rfl, h2, h3, h4⟩
      | panic ch => exact ⟨c', s', rfl, h2, h3, h4⟩
      | outgrown => exact ⟨c', s', rfl, h2, h3, h4⟩
  intro F hF c a hs
  exact wpIn_loop_rounds (m + 1) (key _ s m h0 (Nat.lt_succ_self _) F hF c a hs)
end
end Go.Av
namespace Go.Av
theorem rid_add (σ : List Nat) (b k : Nat) : rid σ b (b + k) = (idx σ k).map (b + ·) := by
  unfold rid; rw [if_neg (by omega)]; congr 2; omega
/-- A set of numbers, as a map to true. -/
def mkM (ms : List Int) : List (Int × AVal) := ms.map fun n => (n, .v (.bool true))
theorem mkM_nil : mkM [] = [] := rfl
theorem mget_mkM (n : Int) : ∀ ms : List Int, mget n (mkM ms) = if n ∈ ms then some (.v (.bool true)) else none
  | [] => rfl
  | m :: r => by
    have := mget_mkM n r
    simp only [mkM, List.map_cons, mget] at this ⊢
    by_cases h : m = n
    · subst h; simp
    · have h' : ¬ n = m := fun h' => h h'.symm
      simp only [h, if_false, this, List.mem_cons, h', false_or]
theorem mgetD_mkM (n : Int) (ms : List Int) : (mget n (mkM ms)).getD (.v (.bool false)) = .v (.bool (decide (n ∈ ms))) := by
  rw [mget_mkM]; by_cases h : n ∈ ms <;> simp [h]
theorem mgetS_mkM (n : Int) (ms : List Int) : (mget n (mkM ms)).isSome = decide (n ∈ ms) := by
  rw [mget_mkM]; by_cases h : n ∈ ms <;> simp [h]
theorem mput_mkM (n : Int) : ∀ ms : List Int, n ∉ ms → mput n (.v (.bool true)) (mkM ms) = mkM (ms ++ [n])
  | [], _ => rfl
  | m :: r, h => by
    simp only [List.mem_cons, not_or] at h
    have := mput_mkM n r h.2
    simp only [mkM, List.map_cons, mput, List.cons_append] at this ⊢
    rw [if_neg (fun h' => h.1 h'.symm), this]
theorem sub_mkM (f : AVal → AVal) (ms : List Int) : ((mkM ms).map fun p => (p.1, p.2.sub f)) = mkM ms := by
  simp [mkM, List.map_map, Function.comp_def, AVal.sub]
theorem osub_dead {f : AVal → AVal} : AObj.sub f .dead = .dead := rfl
theorem osub_blk {f : AVal → AVal} {t : Nat} {cs : List AVal} : AObj.sub f (.blk t cs) = .blk t (subL f cs) := rfl
theorem osub_row {f : AVal → AVal} {t s : Nat} {xs : List AVal} : AObj.sub f (.row t s xs) = .row t s (subL f xs) := rfl
theorem osub_map {f : AVal → AVal} {k : IntKind} {es : List (Int × AVal)} : AObj.sub f (.map k es) = .map k (es.map fun p => (p.1, p.2.sub f)) := rfl
theorem osub_raw {f : AVal → AVal} {o : Obj} : AObj.sub f (.raw o) = .raw o := rfl
theorem osub_rawD {f : AVal → AVal} : AObj.sub f rawD = rawD := rfl
theorem osub_rawN {f : AVal → AVal} : AObj.sub f rawN = rawN := rfl
attribute [go_sem] keepS keepT pullL AVal.pull AObj.pull AVal.sub subL osub_dead osub_blk osub_row osub_map osub_raw osub_rawD osub_rawN pl1 rid_add idx sub_mkM List.getD_cons_zero List.getD_cons_succ fz1 mapT List.map_append
end Go.Av
namespace Go.Av
theorem fin_mk {T : Tb} {b : Nat} {rs : List ResultVar} {F : Hp} {v x : AVal} {sets : List (Nat × AObj)} {new : List AObj} {s : AS} {e : Exit} (σ : List Nat) (he : e = .ret ∨ e = .normal) (hm : marksOK b s.ds s.L) (hr : res T s.tm (hpF s.F b (shutL b s.ds s.L)) rs = some x) (hn : σ.Nodup) (hl : ∀ k ∈ σ, k < (shutL b s.ds s.L).length) (hx : (x.pull σ b).nz = v) (hF : pullF σ b s.F = hw F sets) (hL : pullL σ b (shutL b s.ds s.L) = new) : Fin T b rs F v sets new e s :=
  ⟨he, hm, x, σ, hr, hn, hl, hx, hF, hL⟩
theorem fin_pure {T : Tb} {b : Nat} {rs : List ResultVar} {F : Hp} {v x : AVal} {s : AS} {e : Exit} (he : e = .ret ∨ e = .normal) (hds : s.ds = []) (hr : res T s.tm (hpF s.F b s.L) rs = some x) (hx : (x.pull [] b).nz = v) (hF : pullF [] b s.F = F) : Fin T b rs F v [] [] e s :=
  ⟨he, by rw [hds]; trivial, x, [], by rw [hds]; exact hr, List.nodup_nil, fun k h => (nomatch h), hx, hF, rfl⟩
theorem fin_pureM {T : Tb} {b : Nat} {rs : List ResultVar} {F : Hp} {v x : AVal} {s : AS} {e : Exit} (he : e = .ret ∨ e = .normal) (hm : marksOK b s.ds s.L) (hr : res T s.tm (hpF s.F b (shutL b s.ds s.L)) rs = some x) (hx : (x.pull [] b).nz = v) (hF : pullF [] b s.F = F) : Fin T b rs F v [] [] e s :=
  ⟨he, hm, x, [], hr, List.nodup_nil, fun k h => (nomatch h), hx, hF, rfl⟩
theorem marksOK_nil {b : Nat} {L : List AObj} : marksOK b [] L = True := rfl
theorem marksOK_add {b k : Nat} {r : List Nat} {L : List AObj} : marksOK b ((b + k) :: r) L = (L[k]? = some rawD ∧ marksOK b r (L.set k rawN)) := by
  simp [marksOK]
theorem shutL_nil {b : Nat} {L : List AObj} : shutL b [] L = L := rfl
theorem shutL_add {b k : Nat} {r : List Nat} {L : List AObj} : shutL b ((b + k) :: r) L = shutL b r (L.set k rawN) := by
  simp [shutL]
attribute [go_sem] marksOK_nil marksOK_add shutL_nil shutL_add
attribute [go_sem] res resL res1 AVal.nz nzL nz1
end Go.Av
namespace Go.Av
theorem wk_to {N b : Nat} {s s' s'' : AS} (h : Wk N b s s') (e : s' = s'') : Wk N b s s'' := e ▸ h
theorem i64_id {x : Int} (h1 : -9223372036854775808 ≤ x) (h2 : x ≤ 9223372036854775807) : IntKind.i64.wrap x = x := IntWalk.i64_in x ⟨h1, h2⟩
end Go.Av
namespace Go.Av
theorem PureE.call {P : Program} {f : FuncId} {args : List AVal} {need : List (Nat × AObj)} {v : AVal} (h : PureE P f args need v) {F : Hp} {b : Nat} (hn : ∀ p ∈ need, F p.1 = some p.2) : CallE P f args F b v [] [] := h F b hn
section
variable {P : Program} {top : Bool} {N b : Nat} {Q : Exit → AS → Prop} {s : AS}
/-- A loop that counts: the state is told by the number of the round. -/
theorem wpA_for {x : Code} (n : Nat) (st : Nat → AS) (I : Nat → Prop) (hs : s = st 0) (h0 : I 0)
    (round : ∀ i, i < n → I i → wpA P top N b x (Th (fun s' => Wk N b s' (st (i + 1)) ∧ I (i + 1)) Q) (st i))
    (done : I n → wpA P top N b x (Th (fun _ => False) Q) (st n)) : wpA P top N b (.loop x) Q s := by
  refine wpA_loopI (fun m s => ∃ i, i + m = n ∧ I i ∧ s = st i) n ⟨0, by simp, h0, hs⟩ ?_
  rintro m s ⟨i, hi, hI, rfl⟩
  by_cases h : i < n
  · refine wpA_mono (round i h hI) fun e s' hq => ?_
    cases e with
    | normal => exact ⟨_, m - 1, hq.1, ⟨i + 1, by omega, hq.2, rfl⟩, by omega⟩
    | _ => exact hq
  · have : i = n := by omega
    subst this
    refine wpA_mono (done hI) fun e s' hq => ?_
    cases e with
    | normal => exact hq.elim
    | _ => exact hq
/-- The same, with something besides that the state is told by. -/
theorem wpA_forG {x : Code} {γ : Type} (n : Nat) (st : Nat → γ → AS) (I : Nat → γ → Prop) (g0 : γ) (hs : s = st 0 g0) (h0 : I 0 g0)
    (round : ∀ i g, i < n → I i g → wpA P top N b x (Th (fun s' => ∃ g', Wk N b s' (st (i + 1) g') ∧ I (i + 1) g') Q) (st i g))
    (done : ∀ g, I n g → wpA P top N b x (Th (fun _ => False) Q) (st n g)) : wpA P top N b (.loop x) Q s := by
  refine wpA_loopI (fun m s => ∃ i g, i + m = n ∧ I i g ∧ s = st i g) n ⟨0, g0, by simp, h0, hs⟩ ?_
  rintro m s ⟨i, g, hi, hI, rfl⟩
  by_cases h : i < n
  · refine wpA_mono (round i g h hI) fun e s' hq => ?_
    cases e with
    | normal => obtain ⟨g', h1, h2⟩ := hq; exact ⟨_, m - 1, h1, ⟨i + 1, g', by omega, h2, rfl⟩, by omega⟩
    | _ => exact hq
  · have : i = n := by omega
    subst this
    refine wpA_mono (done g hI) fun e s' hq => ?_
    cases e with
    | normal => exact hq.elim
    | _ => exact hq
end
theorem get_of_lt {α : Type} {l : List α} {i : Nat} (h : i < l.length) : ∃ x, l[i]? = some x ∧ l.drop i = x :: l.drop (i + 1) ∧ l.take (i + 1) = l.take i ++ [x] :=
  ⟨l[i], List.getElem?_eq_getElem h, List.drop_eq_getElem_cons h, by rw [List.take_add_one, List.getElem?_eq_getElem h]; rfl⟩
end Go.Av
namespace Go.Av
theorem flatE_nil : flatE [] = true := rfl
theorem flatE_cons {x : AVal} {xs : List AVal} : flatE (x :: xs) = (flat x.cells && flatE xs) := by simp [flatE]
theorem flatE_app {xs ys : List AVal} : flatE (xs ++ ys) = (flatE xs && flatE ys) := by simp [flatE]
theorem flatE_map {α : Type} {f : α → AVal} (h : ∀ x, flat (f x).cells = true) (l : List α) : flatE (l.map f) = true := by
  simp only [flatE, List.all_map, List.all_eq_true]; intro x _; exact h x
theorem sizesOK_nil {s : Nat} : sizesOK s [] = true := rfl
theorem sizesOK_cons {s : Nat} {x : AVal} {xs : List AVal} : sizesOK s (x :: xs) = (x.cells.length == s && sizesOK s xs) := by simp [sizesOK]
theorem sizesOK_app {s : Nat} {xs ys : List AVal} : sizesOK s (xs ++ ys) = (sizesOK s xs && sizesOK s ys) := by simp [sizesOK]
theorem sizesOK_map {s : Nat} {α : Type} {f : α → AVal} (h : ∀ x, (f x).cells.length = s) (l : List α) : sizesOK s (l.map f) = true := by
  simp only [sizesOK, List.all_map, List.all_eq_true]; intro x _; simp [h x]
attribute [go_sem] flatE_nil flatE_cons flatE_app sizesOK_nil sizesOK_cons sizesOK_app
end Go.Av
namespace Go.Av
/-- At a return, one's own row is given away. -/
theorem wpA_fz {P : Program} {top : Bool} {N b : Nat} {Q : Exit → AS → Prop} {s : AS} (k : Nat) {e sz : Nat} {xs : List AVal} (hk : s.L[k]? = some (.row e sz xs))
    (h : wpA P top N b .ret Q { tm := mapT (fz1 (b + k) xs.length xs) s.tm, F := s.F, L := (s.L.set k .dead).map (AObj.sub (fz1 (b + k) xs.length xs)), ds := s.ds }) : wpA P top N b .ret Q s := by
  have hid : hpF s.F b s.L (b + k) = some (.row e sz xs) := by rw [hpF_add]; exact hk
  refine wpA_wk (wk_freeze (b + k) hid) ?_
  have e1 : setF b s.F [(b + k, .dead)] = s.F := by rw [setF_add, setF_nil]
  have e2 : setL b s.L [(b + k, .dead)] = s.L.set k .dead := by rw [setL_add, setL_nil]
  rw [e1, e2]; exact h
end Go.Av

namespace Go.Av
open Go.RowKit

/-! ### '==' of structs of numbers and bools -/
section
variable {P : Program}
def fieldK (P : Program) (f : Field) (off : Nat) : Option (Option IntKind) :=
  if f.name = "_" then none else if f.offset = off then (match tdOf P f.type, P.underlying f.type with
    | some td, some (.int k) => if td.agg = false then some (some k) else none
    | some td, some .bool => if td.agg = false then some none else none
    | _, _ => none) else none
def fieldsK (P : Program) : List Field → Nat → Option (List (Option IntKind))
  | [], _ => some []
  | f :: r, off => match fieldK P f off, fieldsK P r (off + 1) with
    | some k, some ks => some (k :: ks)
    | _, _ => none

theorem part_one {e : Nat} {td : TD} (h : tdOf P e = some td) (ha : td.agg = false) {C : List Value} {off : Nat} {v : Value} (hv : C[off]? = some v) (w : World) : (part e ⟨C⟩ off).run P w = .ok v w := by
  have hag := run_isAgg_td h w
  rw [ha] at hag
  simp only [part, Sem.run_bind, hag, Result.andThen]
  simp [hv, Sem.run_pure]

theorem eqFields_run {d : Nat} : ∀ {fs : List Field} {off : Nat} {ks : List (Option IntKind)}, fieldsK P fs off = some ks → ∀ {X Y : List Value} (w : World), kindsOK ks (X.drop off) → kindsOK ks (Y.drop off) →
    (Op.eqFields (d + 1) ⟨X⟩ ⟨Y⟩ fs).run P w = .ok (cellsEq (X.drop off) (Y.drop off)) w
  | [], off, ks, h, X, Y, w, hx, hy => by
    cases h
    simp only [kindsOK] at hx hy
    rw [hx]
    simp [Op.eqFields, cellsEq]
  | f :: r, off, ks, h, X, Y, w, hx, hy => by
    simp only [fieldsK] at h
    split at h
    · rename_i k ks' h1 h2
      cases h
      unfold fieldK at h1
      split at h1
      · cases h1
      rename_i hname
      split at h1
      · rename_i hoff
        have head : ∀ {Z : List Value} {z : Value} {zs : List Value}, Z.drop off = z :: zs → Z[off]? = some z ∧ Z.drop (off + 1) = zs := by
          intro Z z zs hz
          refine ⟨?_, ?_⟩
          · have := congrArg (fun l : List Value => l[0]?) hz
            simpa using this
          · have := congrArg List.tail hz
            simpa [List.tail_drop] using this
        split at h1
        · rename_i td kk ht hu
          split at h1
          · rename_i ha
            cases h1
            obtain ⟨n, xs, hx1, hx2⟩ := hx
            obtain ⟨m, ys, hy1, hy2⟩ := hy
            obtain ⟨p1, p2⟩ := head hx1
            obtain ⟨q1, q2⟩ := head hy1
            have ih := eqFields_run (d := d) h2 (X := X) (Y := Y) w (by rw [p2]; exact hx2) (by rw [q2]; exact hy2)
            have e1 := part_one ht ha p1 w
            have e2 := part_one ht ha q1 w
            have e3 : (Op.equalIn (d + 1) f.type (.int kk n) (.int kk m)).run P w = .ok (n == m) w := by
              simp [Op.equalIn, Sem.run_bind, underlying, hu, Sem.run_pure]
            rw [hx1, hy1, Op.eqFields, if_pos hname]
            rw [hoff]
            simp only [Sem.run_bind, e1, e2, e3, Result.andThen]
            rw [p2, q2] at ih
            cases hnm : (n == m) with
            | true => simp only [Bool.not_true, Bool.false_eq_true, if_false, ih, cellsEq, cellEq, hnm, Bool.true_and]
            | false => simp [cellsEq, cellEq, hnm, Sem.run_pure]
          · cases h1
        · rename_i td ht hu
          split at h1
          · rename_i ha
            cases h1
            obtain ⟨n, xs, hx1, hx2⟩ := hx
            obtain ⟨m, ys, hy1, hy2⟩ := hy
            obtain ⟨p1, p2⟩ := head hx1
            obtain ⟨q1, q2⟩ := head hy1
            have ih := eqFields_run (d := d) h2 (X := X) (Y := Y) w (by rw [p2]; exact hx2) (by rw [q2]; exact hy2)
            have e1 := part_one ht ha p1 w
            have e2 := part_one ht ha q1 w
            have e3 : (Op.equalIn (d + 1) f.type (.bool n) (.bool m)).run P w = .ok (n == m) w := by
              simp [Op.equalIn, Sem.run_bind, underlying, hu, Sem.run_pure]
            rw [hx1, hy1, Op.eqFields, if_pos hname]
            rw [hoff]
            simp only [Sem.run_bind, e1, e2, e3, Result.andThen]
            rw [p2, q2] at ih
            cases hnm : (n == m) with
            | true => simp only [Bool.not_true, Bool.false_eq_true, if_false, ih, cellsEq, cellEq, hnm, Bool.true_and]
            | false => simp [cellsEq, cellEq, hnm, Sem.run_pure]
          · cases h1
        · cases h1
      · cases h1
    · cases h

/-- A type whose '==' is told cell by cell. -/
def EqT (P : Program) (t : Nat) (ks : List (Option IntKind)) : Prop :=
  P.underlying t = some (.struct (P.fieldsOf t)) ∧ P.stoodInHeld t = false ∧ P.eqGuardType P.depth t = false ∧ fieldsK P (P.fieldsOf t).toList 0 = some ks

theorem eqs_of {l : List (Nat × List (Option IntKind))} (h : ∀ p ∈ l, EqT P p.1 p.2) : Eqs P (fun t => (l.find? (fun p => p.1 == t)).map (·.2)) := by
  intro t ks hks xs ys hx hy op x y w
  simp only [Option.map_eq_some_iff] at hks
  obtain ⟨p, hp, rfl⟩ := hks
  have hm := List.mem_of_find?_eq_some hp
  have ht : p.1 = t := by have := List.find?_some hp; simpa using this
  subst ht
  obtain ⟨h1, h2, h3, h4⟩ := h p hm
  refine ⟨?_, ?_⟩
  · have hp : ∀ {α : Type} (k : Program → Sem α), (program >>= k).run P w = (k P).run P w := fun k => by simp [program, Sem.run_bind, Sem.run, Result.andThen]
    cases op <;> simp [eqGuard, hp, h3, Sem.run_pure]
  · show (Op.equalIn (9998 + 1 + 1) p.1 (.agg ⟨xs⟩) (.agg ⟨ys⟩)).run P w = _
    rw [run_equalIn_struct w (9998 + 1) p.1 ⟨xs⟩ ⟨ys⟩ h1 h2]
    have := eqFields_run (d := 9998) h4 (X := xs) (Y := ys) w (by simpa using hx) (by simpa using hy)
    simpa using this
end
end Go.Av
namespace Go.Av
theorem wpA_nilS {P : Program} {top : Bool} {N b : Nat} {Q : Exit → AS → Prop} {s : AS} {code : Code} (t : Nat) (ht : getT s.tm t = .sl [])
    (h : ∀ A k, k ≤ 9223372036854775807 → wpA P top N b code Q { tm := (t, .v (.slice A 0 k)) :: s.tm, F := s.F, L := s.L, ds := s.ds }) : wpA P top N b code Q s := fun F hF c a hs => by
  have hr := hs.fr t
  rw [ht] at hr
  obtain ⟨A, k, h1, _, h3, _⟩ := hr
  refine h A k h3 F hF c a ⟨hs.heap, fun u => ?_, hs.size, hs.ds, hs.top⟩
  simp only [getT]
  split
  · rename_i hu; subst hu; exact ⟨h1, rfl⟩
  · exact hs.fr u
end Go.Av

namespace Go.Av
open Go.RowKit

/-! ### A range over a function -/
theorem hpF_app {F : Hp} {b : Nat} {L1 L2 : List AObj} : hpF F b (L1 ++ L2) = hpF (hpF F b L1) (b + L1.length) L2 := by
  funext k
  simp only [hpF]
  by_cases h1 : k < b
  · rw [if_pos h1, if_pos (by omega), if_pos h1]
  · rw [if_neg h1]
    by_cases h2 : k < b + L1.length
    · rw [if_pos h2, if_neg h1, List.getElem?_append_left (by omega)]
    · rw [if_neg h2, List.getElem?_append_right (by omega)]; congr 1; omega
theorem hpF_nil {F : Hp} {b : Nat} (h : topF F b) : hpF F b [] = F := by
  funext k
  simp only [hpF]
  split
  · rfl
  · rw [h k (by omega)]; simp
theorem hpF_upd {F : Hp} {b k : Nat} {L : List AObj} {o : AObj} (h : k < L.length) : hupd (hpF F b L) (b + k) o = hpF F b (L.set k o) := by
  have := hpF_set1 (F := F) (b := b) (L := L) (id := b + k) (o := o) (by omega)
  rw [if_neg (by omega), if_neg (by omega), Nat.add_sub_cancel_left] at this
  exact this.symm
theorem topF_hp {F : Hp} {b : Nat} {L : List AObj} {b' : Nat} (h : b + L.length ≤ b') : topF (hpF F b L) b' := fun id hid => hpF_top id (by omega)

theorem Cx.leB.weak {c c' : Cx} {b b' : Nat} (h : c.leB b' c') (hb : b ≤ b') : c.leB b c' :=
  ⟨fun id p hid hp => h.ι id p (by omega) hp, h.S, h.blk, h.os, h.tape, h.output, h.size⟩

theorem HeapOK.turnRaw {c : Cx} {h : Hp} (H : HeapOK c h) {id g : Nat} (hi : c.ι id = some (.raw g)) (o : Obj) (ao : AObj) (hob : ∀ c' : Cx, c'.w = c.w.putObj g o → c.le c' → c'.ι id = some (.raw g) → ObjOK c' id ao) :
    HeapOK { c with w := c.w.putObj g o } (hupd h id ao) ∧ c.le { c with w := c.w.putObj g o } :=
  H.turn hi (g := g) rfl (c.w.putObj g o) (fun b hb => World.putObj_heap_other hb) (by simp [World.putObj]) rfl rfl rfl ao (fun hle => hob _ rfl hle hi)

theorem kill1 {c : Cx} {h : Hp} (H : HeapOK c h) {id : Nat} {o : AObj} (ho : h id = some o) (hs : o.soft = true) : ∃ c', c'.w = c.w ∧ HeapOK c' (hupd h id .dead) ∧ c.le c' := by
  have hob := H.obj id o ho
  cases o with
  | dead =>
    refine ⟨c, rfl, ?_, Cx.le.refl c⟩
    have : hupd h id .dead = h := by funext k; simp only [hupd]; split; (rename_i hk; rw [hk, ho]); rfl
    rw [this]; exact H
  | blk t cs => obtain ⟨g, C, h1, _⟩ := hob; obtain ⟨H1, h2⟩ := H.freeze h1 (g := g) rfl; exact ⟨_, (by rfl : _ = _), H1, h2⟩
  | row t s xs =>
    rcases hob with ⟨g, cap, C, h1, _⟩ | ⟨h1, _⟩
    · obtain ⟨H1, h2⟩ := H.freeze h1 (g := g) rfl; exact ⟨_, (by rfl : _ = _), H1, h2⟩
    · obtain ⟨H1, h2⟩ := H.kill h1; exact ⟨_, (by rfl : _ = _), H1, h2⟩
  | map k es => obtain ⟨g, E, cl, h1, _⟩ := hob; obtain ⟨H1, h2⟩ := H.freeze h1 (g := g) rfl; exact ⟨_, (by rfl : _ = _), H1, h2⟩
  | raw o => cases hs
  | lp g r t => cases hs

theorem killL {F : Hp} {b : Nat} : ∀ (Ll pre : List AObj) {c : Cx}, HeapOK c (hpF F b (pre ++ Ll)) → Ll.all AObj.soft = true → ∃ c', c'.w = c.w ∧ HeapOK c' (hpF F b (pre ++ Ll.map fun _ => .dead)) ∧ c.le c'
  | [], pre, c, H, _ => ⟨c, rfl, H, Cx.le.refl c⟩
  | o :: r, pre, c, H, hs => by
    simp only [List.all_cons, Bool.and_eq_true] at hs
    have ho : hpF F b (pre ++ o :: r) (b + pre.length) = some o := by
      simp only [hpF]
      rw [if_neg (by omega), Nat.add_sub_cancel_left, List.getElem?_append_right (Nat.le_refl _)]; simp
    obtain ⟨c1, h1, H1, hle1⟩ := kill1 H ho hs.1
    rw [hpF_upd (by simp)] at H1
    have e : (pre ++ o :: r).set pre.length .dead = (pre ++ [.dead]) ++ r := by simp
    rw [e] at H1
    obtain ⟨c2, h2, H2, hle2⟩ := killL r (pre ++ [.dead]) H1 hs.2
    refine ⟨c2, h2.trans h1, ?_, hle1.trans hle2⟩
    have : (pre ++ [.dead]) ++ (r.map fun _ => AObj.dead) = pre ++ ((o :: r).map fun _ => AObj.dead) := by simp
    rwa [this] at H2

/-- A new id that is given up from the start. -/
theorem HeapOK.newDead {c : Cx} {h : Hp} (H : HeapOK c h) {id : Nat} (hn : h id = none) :
    HeapOK { c with ι := iupd c.ι id .dead } (hupd h id .dead) ∧ c.le { c with ι := iupd c.ι id .dead } := by
  have hid : c.ι id = none := H.off id hn
  have hle : c.le { c with ι := iupd c.ι id .dead } := by
    refine ⟨fun k q hk => .inl ?_, fun _ hb => hb, fun b hb => rfl, rfl, rfl, rfl, Nat.le_refl _⟩
    show iupd c.ι id .dead k = some q
    rw [iupd_ne _ _ (fun e => by rw [e, hid] at hk; cases hk)]; exact hk
  have hback : ∀ k q g, iupd c.ι id .dead k = some q → q.block = some g → c.ι k = some q := by
    intro k q g hk hg
    by_cases hkid : k = id
    · subst hkid; rw [iupd_same] at hk; injection hk with hk; subst hk; cases hg
    · rwa [iupd_ne _ _ hkid] at hk
  refine ⟨⟨?_, ?_, ?_, ?_, H.stab⟩, hle⟩
  · intro k ob hk
    by_cases hkid : k = id
    · subst hkid
      simp [hupd] at hk
      subst hk
      exact iupd_same _ _ _
    · simp only [hupd, hkid, if_false] at hk
      exact (H.obj k ob hk).mono hle (iupd_ne _ _ hkid) (fun q g hq hg => rfl)
  · intro k hk
    by_cases hkid : k = id
    · subst hkid; simp [hupd] at hk
    · simp only [hupd, hkid, if_false] at hk
      show iupd c.ι id .dead k = none
      rw [iupd_ne _ _ hkid]; exact H.off k hk
  · intro k k' q q' g hq hq' hg hg'
    exact H.inj k k' q q' g (hback _ _ _ hq hg) (hback _ _ _ hq' hg') hg hg'
  · intro k q g hq hg
    exact H.own k q g (hback _ _ _ hq hg) hg
theorem addDeads {F : Hp} {b : Nat} : ∀ (Ll pre : List AObj) {c : Cx}, HeapOK c (hpF F b pre) → ∃ c', c'.w = c.w ∧ HeapOK c' (hpF F b (pre ++ Ll.map fun _ => .dead)) ∧ c.le c'
  | [], pre, c, H => ⟨c, rfl, by simpa using H, Cx.le.refl c⟩
  | o :: r, pre, c, H => by
    obtain ⟨H1, hle1⟩ := H.newDead (id := b + pre.length) (hpF_top _ (Nat.le_refl _))
    have e : hupd (hpF F b pre) (b + pre.length) .dead = hpF F b (pre ++ [.dead]) := by
      funext k
      simp only [hupd, hpF]
      by_cases hk : k = b + pre.length
      · subst hk; rw [if_pos rfl, if_neg (by omega), Nat.add_sub_cancel_left]; simp
      · rw [if_neg hk]
        by_cases h1 : k < b
        · rw [if_pos h1, if_pos h1]
        · rw [if_neg h1, if_neg h1]
          by_cases h2 : k - b < pre.length
          · rw [List.getElem?_append_left h2]
          · rw [List.getElem?_eq_none (by omega), List.getElem?_eq_none (by simp; omega)]
    rw [e] at H1
    obtain ⟨c2, h2, H2, hle2⟩ := addDeads r (pre ++ [.dead]) H1
    refine ⟨c2, h2, ?_, hle1.trans hle2⟩
    have : (pre ++ [.dead]) ++ (r.map fun _ => AObj.dead) = pre ++ ((o :: r).map fun _ => AObj.dead) := by simp
    rwa [this] at H2

/-- What lies over what is known to speak of itself alone is dropped. -/
theorem dropL {c : Cx} {F : Hp} {b : Nat} {B : AObj} {Ll : List AObj} (H : HeapOK c (hpF F b (B :: Ll))) (hwf : WF (b + 1) (hpF F b [B])) :
    HeapOK (pcx [] (b + 1) c) (hpF F b [B]) := by
  have e : hpF F b (B :: Ll) = hpF (hpF F b [B]) (b + 1) Ll := by
    have := hpF_app (F := F) (b := b) (L1 := [B]) (L2 := Ll)
    simpa using this
  rw [e] at H
  have ht : topF (hpF F b [B]) (b + 1) := topF_hp (by simp)
  have := pull_heap (σ := []) List.nodup_nil (by simp) ht H
  rw [hwf [], show pullL [] (b + 1) Ll = [] from rfl, hpF_nil ht] at this
  exact this

/-! #### Iterators -/
def IterE (P : Program) (g : FuncId) (caps : List AVal) (b n : Nat) (ys : Nat → List AVal) (hs : Nat → Hp) (Bs : Nat → AObj) (I : Nat → Prop) (X : Hp → AObj → Prop) : Prop :=
  Ent P g ∧ ∀ l, (∀ i, i < n → I i → ∀ Ll, Ll.all AObj.soft = true → YieldR P l (ys i) (hs i) b (Bs i) Ll fun v F' B' => WF (b + 1) (hpF F' b [B']) ∧
      ((v = .v (.bool true) ∧ F' = hs (i + 1) ∧ B' = Bs (i + 1) ∧ I (i + 1)) ∨ (v = .v (.bool false) ∧ X F' B'))) → I 0 →
    ∀ c lb, HeapOK c (hpF (hs 0) b [Bs 0]) → topF (hs 0) b → RelL c caps lb →
      Calls P g ⟨.func (.yield l) #[] #[] :: lb⟩ c.w fun e w' => ∃ c' y F' B', c'.w = w' ∧ e = .returned y ∧ ((F' = hs n ∧ B' = Bs n ∧ I n) ∨ X F' B') ∧ topF F' b ∧ HeapOK c' (hpF F' b [B']) ∧ c.leB b c'

def FinI (b n : Nat) (hs : Nat → Hp) (Bs : Nat → AObj) (I : Nat → Prop) (X : Hp → AObj → Prop) (e : Exit) (s : AS) : Prop :=
  (e = .ret ∨ e = .normal) ∧ s.ds = [] ∧ ∃ B' Ll, s.L = B' :: Ll ∧ WF (b + 1) (hpF s.F b [B']) ∧ ((s.F = hs n ∧ B' = Bs n ∧ I n) ∨ X s.F B')

theorem iterE_of {P : Program} {T : Tb} (hT : Tab P T) {g : FuncId} {fn : Func} {code : Code} {caps : List AVal} {b n : Nat} {ys : Nat → List AVal} {hs : Nat → Hp} {Bs : Nat → AObj} {I : Nat → Prop} {X : Hp → AObj → Prop}
    (hf : P.funcs[g]? = some fn) (hnm : (fn.name == "runtime.NumGoroutine") = false) (hb : fn.body = some code) (hres : fn.results = #[]) (hlen : caps.length + 1 ≤ fn.ntmps)
    (h : ∀ l, (∀ i, i < n → I i → ∀ Ll, Ll.all AObj.soft = true → YieldR P l (ys i) (hs i) b (Bs i) Ll fun v F' B' => WF (b + 1) (hpF F' b [B']) ∧
      ((v = .v (.bool true) ∧ F' = hs (i + 1) ∧ B' = Bs (i + 1) ∧ I (i + 1)) ∨ (v = .v (.bool false) ∧ X F' B'))) → WF (b + 1) (hpF (hs 0) b [Bs 0]) → I 0 →
      wpA P true fn.ntmps b code (FinI b n hs Bs I X) { tm := argT 0 (.fn (.yield l) [] :: caps), F := hs 0, L := [Bs 0], ds := [] }) :
    IterE P g caps b n ys hs Bs I X := by
  refine ⟨⟨fn, hf, hnm, by rw [hb]; rfl⟩, fun l hy h0 c lb H htop hr => ?_⟩
  refine (callsIn_wide (n := 0)).1 ?_
  show CallsIn (wide none) 0 P g ⟨.func (.yield l) #[] #[] :: lb⟩ c.w _
  have hargs : RelL c (.fn (.yield l) [] :: caps) (.func (.yield l) #[] #[] :: lb) := ⟨_, _, rfl, ⟨[], rfl, rfl⟩, hr⟩
  have hwf0 : WF (b + 1) (hpF (hs 0) b [Bs 0]) := wf_of H (topF_hp (by simp))
  refine callsIn_of_wp hf hb trivial ?_
  have hcl : lb.length = caps.length := hr.length
  have hsim : Sim c fn.ntmps b { tm := argT 0 (.fn (.yield l) [] :: caps), F := hs 0, L := [Bs 0], ds := [] }
      { tmps := (⟨.func (.yield l) #[] #[] :: lb⟩ : Array Value) ++ Array.replicate (fn.ntmps - (⟨.func (.yield l) #[] #[] :: lb⟩ : Array Value).size) undef, defers := [] } := by
    refine ⟨H, fun t => ?_, by simp; omega, rfl, htop⟩
    rw [argT_get]
    simp only [Nat.zero_le, if_true, Nat.sub_zero]
    cases hx : (AVal.fn (.yield l) [] :: caps)[t]? with
    | none => trivial
    | some x =>
      obtain ⟨y, hy, hxy⟩ := hargs.get hx
      have hlt : t < (Value.func (.yield l) #[] #[] :: lb).length := by
        rcases Nat.lt_or_ge t (Value.func (.yield l) #[] #[] :: lb).length with h | h
        · exact h
        · rw [List.getElem?_eq_none h] at hy; cases hy
      simp only [Option.getD_some, Array.getD_eq_getD_getElem?]
      rw [Array.getElem?_append_left (by simpa using hlt)]
      simpa [hy] using hxy
  refine wpIn_mono (h l hy hwf0 h0 (wide none) ⟨none, rfl, fun _ => rfl⟩ c _ hsim) ?_
  rintro e a' w' ⟨c', s', rfl, hfin, hs', hle⟩
  obtain ⟨he, hds, B', Ll, hL, hwf, hend⟩ := hfin
  have hd : a'.defers = [] := by have := hs'.ds; rw [hds] at this; exact this
  have hheap := hs'.heap
  rw [hL] at hheap
  have hrun : (results fn a'.tmps).run P c'.w = .ok (.tuple #[]) c'.w := by
    rw [results_eq, hres, Array.mapM_eq_mapM_toList]
    simp [Sem.run_bind, Sem.run_pure, Result.andThen]
  have hfinal : ∃ c'' y F' B'', c''.w = c'.w ∧ Ending.returned (.tuple #[]) = .returned y ∧ ((F' = hs n ∧ B'' = Bs n ∧ I n) ∨ X F' B'') ∧ topF F' b ∧ HeapOK c'' (hpF F' b [B'']) ∧ c.leB b c'' :=
    ⟨pcx [] (b + 1) c', _, s'.F, B', rfl, rfl, hend, hs'.top, dropL hheap hwf, hle.trans ((pcx_leB [] (b + 1) c').weak (by omega))⟩
  rcases he with rfl | rfl
  · exact ⟨hd, _, hrun, hfinal⟩
  · exact ⟨hd, _, hrun, hfinal⟩

/-! #### The statement -/
def zipT : List Tmp → List AVal → List (Nat × AVal) → List (Nat × AVal)
  | p :: ps, y :: ys, tm => zipT ps ys ((p, y) :: tm)
  | _, _, tm => tm

theorem zipT_rel {c : Cx} : ∀ (ps : List Tmp) (ys : List AVal) (vs : List Value) (tm : List (Nat × AVal)) (tmps : Array Value), RelL c ys vs → (∀ t, Rel c (getT tm t) (tmps.getD t undef)) → (∀ p ∈ ps, p < tmps.size) →
    (∀ t, Rel c (getT (zipT ps ys tm) t) (((ps.zip vs).foldl (fun t p => t.setIfInBounds p.1 p.2) tmps).getD t undef)) ∧ ((ps.zip vs).foldl (fun t p => t.setIfInBounds p.1 p.2) tmps).size = tmps.size
  | [], ys, vs, tm, tmps, _, h, _ => by simp only [zipT, List.zip_nil_left, List.foldl_nil]; exact ⟨h, trivial⟩
  | p :: ps, [], vs, tm, tmps, hr, h, _ => by cases hr; simp only [zipT, List.zip_nil_right, List.foldl_nil]; exact ⟨h, trivial⟩
  | p :: ps, y :: ys, vs, tm, tmps, hr, h, hp => by
    obtain ⟨v, vs', rfl, h1, h2⟩ := hr
    simp only [zipT, List.zip_cons_cons, List.foldl_cons]
    have := zipT_rel ps ys vs' ((p, y) :: tm) (tmps.setIfInBounds p v) h2 (fun t => ?_) (fun q hq => by simp; exact hp q (List.mem_cons_of_mem _ hq))
    · simpa using this
    · simp only [getT]
      by_cases hpt : p = t
      · subst hpt
        have : p < tmps.size := hp p (List.mem_cons_self ..)
        simp [this, h1]
      · simp only [hpt, if_false]
        have := h t
        simp only [Array.getD_eq_getD_getElem?] at this ⊢
        rw [Array.getElem?_setIfInBounds_ne hpt]
        exact this

def aftR (b : Nat) (s : AS) (A' : List AObj) (rE B' : AObj) : AS :=
  { tm := mapT (pl1 [] (b + s.L.length + 2)) s.tm, F := s.F, L := A' ++ [rawD, rE, B'], ds := (b + s.L.length) :: s.ds }

/-- Where a round must end. -/
def RQ (P : Program) (N b : Nat) (Q : Exit → AS → Prop) (s : AS) (rD rB : AObj) (A1 : List AObj) (B1 : AObj) (I1 : Prop) : Exit → AS → Prop
  | .normal, s' => I1 ∧ Wk N (b + s.L.length + 2) s' { tm := [], F := hpF s.F b (A1 ++ [rD, rB]), L := [B1], ds := [] }
  | .ret, s' => ∃ A' B', A'.length = s.L.length ∧ Wk N (b + s.L.length + 2) s' { tm := [], F := hpF s.F b (A' ++ [rD, rB]), L := [B'], ds := [] } ∧ ∀ rE, wpA P true N b .ret Q (aftR b s A' rE B')
  | .exit id, s' => ∃ A' B', A'.length = s.L.length ∧ Wk N (b + s.L.length + 2) s' { tm := [], F := hpF s.F b (A' ++ [rD, rB]), L := [B'], ds := [] } ∧ ∀ rE, wpA P true N b (.exit id) Q (aftR b s A' rE B')
  | _, _ => False

theorem updLp {F : Hp} {b m : Nat} {A L1 : List AObj} {rD rR o : AObj} (h : A.length = m) : hupd (hpF (hpF F b (A ++ [rD, rR])) (b + m + 2) L1) (b + m + 1) o = hpF (hpF F b (A ++ [rD, o])) (b + m + 2) L1 := by
  have e : A ++ [rD, o] = (A ++ [rD, rR]).set (m + 1) o := by subst h; simp
  rw [e, ← hpF_upd (by simp; omega)]
  funext k
  simp only [hupd, hpF]
  by_cases hk : k = b + m + 1
  · subst hk; rw [if_pos rfl, if_pos (by omega), if_pos (by omega)]
  · rw [if_neg hk]
    by_cases h1 : k < b + m + 2
    · rw [if_pos h1, if_pos h1, if_neg (show ¬ k = b + (m + 1) by omega)]
    · rw [if_neg h1, if_neg h1]
theorem getLp {F : Hp} {b m : Nat} {A L1 : List AObj} {rD rR : AObj} (h : A.length = m) : hpF (hpF F b (A ++ [rD, rR])) (b + m + 2) L1 (b + m + 1) = some rR := by
  subst h
  simp only [hpF]
  rw [if_pos (by omega), if_neg (by omega), show b + A.length + 1 - b = A.length + 1 by omega]
  simp
theorem turnLp {c : Cx} {F : Hp} {b m : Nat} {A L1 : List AObj} {rD : AObj} {l : Nat} {r : Loop} {tmf : Nat → AVal} (h : A.length = m) (H : HeapOK c (hpF (hpF F b (A ++ [rD, .lp l r tmf])) (b + m + 2) L1)) (r' : Loop) (hr : r'.tmps = r.tmps) :
    c.w.heap[l]? = some (.loop r) ∧ HeapOK { c with w := c.w.putObj l (.loop r') } (hpF (hpF F b (A ++ [rD, .lp l r' tmf])) (b + m + 2) L1) ∧ c.le { c with w := c.w.putObj l (.loop r') } := by
  obtain ⟨h1, h2, h3⟩ := H.obj _ _ (getLp h)
  have := H.turnRaw h1 (.loop r') (.lp l r' tmf) (fun c' hw hle hι => ⟨hι, by rw [hw]; exact World.putObj_heap_same (H.own _ _ l h1 rfl).1, fun t => by rw [hr]; exact Rel.mono hle _ _ (h3 t)⟩)
  rw [updLp h] at this
  exact ⟨h2, this⟩

section
variable {P : Program} {N b : Nat} {Q : Exit → AS → Prop} {s : AS} {ps : Array Tmp} {assign body : Code}

def tmfS (b : Nat) (s : AS) : Nat → AVal := fun t => getT (mapT (pl1 [] (b + s.L.length + 2)) s.tm) t
def hsR (b : Nat) (s : AS) (A : Nat → List AObj) (l : Nat) (r : Loop) (i : Nat) : Hp := hpF s.F b (A i ++ [rawD, .lp l r (tmfS b s)])
def stopX (P : Program) (N b : Nat) (Q : Exit → AS → Prop) (s : AS) (l : Nat) (r : Loop) (F' : Hp) (B' : AObj) : Prop :=
  ∃ code A', A'.length = s.L.length ∧ F' = hpF s.F b (A' ++ [rawD, .lp l { r with state := .done, pending := some code } (tmfS b s)]) ∧ ∀ rE, wpA P true N b code Q (aftR b s A' rE B')

theorem yield_round {ys : Nat → List AVal} {A : Nat → List AObj} {B : Nat → AObj} {I : Nat → Prop} {r : Loop} {l i : Nat} (hA : ∀ i, (A i).length = s.L.length)
    (hr : r.state = .ready) (hpe : r.pending = none) (hparams : r.params = ps) (hassign : r.assign = assign) (hbody : r.body = body) (hsz : r.tmps.size = N) (hps : ∀ p ∈ ps.toList, p < N) (hstop : topF s.F b)
    (hlen : (ys i).length = ps.size) (hcl : subL (pl1 [] (b + s.L.length + 3)) (ys i) = ys i)
    (hround : ∀ rR, wpA P false N (b + s.L.length + 2) assign (fun e s3 => e = .normal ∧ s3.F = hpF s.F b (A i ++ [rawD, rR]) ∧ s3.ds = [] ∧ ∀ rB, (∀ σ, AObj.sub (pl1 σ (b + s.L.length + 2)) rB = rB) →
        wpA P false N (b + s.L.length + 2) body (RQ P N b Q s rawD rB (A (i + 1)) (B (i + 1)) (I (i + 1))) { tm := s3.tm, F := hpF s.F b (A i ++ [rawD, rB]), L := s3.L, ds := [] })
      { tm := zipT ps.toList (ys i) (mapT (pl1 [] (b + s.L.length + 2)) s.tm), F := hpF s.F b (A i ++ [rawD, rR]), L := [B i], ds := [] })
    (Ll : List AObj) (hsoft : Ll.all AObj.soft = true) :
    YieldR P l (ys i) (hsR b s A l r i) (b + s.L.length + 2) (B i) Ll fun v F' B' => WF (b + s.L.length + 2 + 1) (hpF F' (b + s.L.length + 2) [B']) ∧
      ((v = .v (.bool true) ∧ F' = hsR b s A l r (i + 1) ∧ B' = B (i + 1) ∧ I (i + 1)) ∨ (v = .v (.bool false) ∧ stopX P N b Q s l r F' B')) := by
  intro c cargs H htop hargs hwf
  have H0 := H.obj (b + s.L.length + 1) _ (getLp (hA i))
  obtain ⟨hl1, hl2, hl3⟩ := H0
  have hcs : cargs.length = (ys i).length := hargs.length
  refine ⟨r.fn, _, r.assign, r.body, run_yield hl2 (by rw [hparams, ← hlen]; simpa using hcs), fun ro => ?_⟩
  -- the iterator's own objects are given up; what is left speaks of nothing over it
  obtain ⟨c1, hw1, H1, hle1⟩ := killL Ll [B i] H hsoft
  have H2 := dropL H1 hwf
  obtain ⟨c2, hc2⟩ : ∃ c2, pcx [] (b + s.L.length + 2 + 1) c1 = c2 := ⟨_, rfl⟩
  have hw2 : c2.w = c.w := by rw [← hc2]; exact hw1
  have hle2 : c.leB (b + s.L.length + 3) c2 := by rw [← hc2]; exact (hle1.toB _).trans (pcx_leB [] _ c1)
  rw [hc2] at H2
  have H3 := (H2.obj (b + s.L.length + 1) _ (getLp (hA i))).2.2
  have hargs2 : RelL c2 (ys i) cargs := by
    have : RelL c2 (subL (pl1 [] (b + s.L.length + 3)) (ys i)) cargs := by
      have h1 : RelL (pcx [] (b + s.L.length + 3) c) (subL (pl1 [] (b + s.L.length + 3)) (ys i)) cargs := sub_relL (pull_ok [] _ c) _ _ hargs
      exact RelL.mono (pcx_le hle2) _ _ h1
    rwa [hcl] at this
  have hz := zipT_rel ps.toList (ys i) cargs (mapT (pl1 [] (b + s.L.length + 2)) s.tm) r.tmps hargs2 H3 (fun p hp => by rw [hsz]; exact hps p hp)
  have efold : (r.params.zip (⟨cargs⟩ : Array Value)).foldl (fun tmps (t, a) => tmps.setIfInBounds t a) r.tmps = (ps.toList.zip cargs).foldl (fun t p => t.setIfInBounds p.1 p.2) r.tmps := by
    rw [hparams, ← Array.foldl_toList, Array.toList_zip]
  rw [efold, hassign, hbody]
  have hsim : Sim c2 N (b + s.L.length + 2) { tm := zipT ps.toList (ys i) (mapT (pl1 [] (b + s.L.length + 2)) s.tm), F := hsR b s A l r i, L := [B i], ds := [] }
      { tmps := (ps.toList.zip cargs).foldl (fun t p => t.setIfInBounds p.1 p.2) r.tmps, defers := [] } :=
    ⟨H2, hz.1, hz.2.trans hsz, rfl, htop⟩
  rw [← hw2]
  refine roundIn_of_wpIn (F := wide ro) trivial ?_
  refine wpIn_mono (hround _ (wide (some l)) ⟨_, rfl, by simp⟩ c2 _ hsim) ?_
  rintro e a3 w3 ⟨c3, ⟨tm1, F3, L1, ds3⟩, rfl, ⟨rfl, hF3, hds3, hbo⟩, hs3, hle3⟩
  simp only at hF3 hds3
  subst hF3 hds3
  -- the round begins
  have H4 := turnLp (hA i) hs3.heap { r with state := .busy } rfl
  refine ⟨_, run_beginRound H4.1 hr, ?_⟩
  have hsim4 : Sim { c3 with w := c3.w.putObj l (.loop { r with state := .busy }) } N (b + s.L.length + 2) { tm := tm1, F := hpF s.F b (A i ++ [rawD, .lp l { r with state := .busy } (tmfS b s)]), L := L1, ds := [] } a3 :=
    ⟨H4.2.1, fun t => Rel.mono H4.2.2 _ _ (hs3.fr t), hs3.size, hs3.ds, topF_hp (by simp [hA i]; omega)⟩
  refine wpIn_mono (hbo (.lp l { r with state := .busy } (tmfS b s)) (fun σ => by
    simp only [AObj.sub]
    congr 1
    funext t
    simp only [tmfS, getT_map]
    exact pl1_pl1 (Nat.le_refl _) _) (wide (some l)) ⟨_, rfl, by simp⟩ _ _ hsim4) ?_
  rintro e a5 w5 ⟨c5, s5, rfl, hq, hs5, hle5⟩
  have chain : c.leB (b + s.L.length + 2) c5 := ((hle2.weak (by omega)).trans hle3).trans ((H4.2.2.toB _).trans hle5)
  -- the round's end
  have fin : ∀ (A1 : List AObj) (B1 : AObj) (jump : Option Code), A1.length = s.L.length → Wk N (b + s.L.length + 2) s5 { tm := [], F := hpF s.F b (A1 ++ [rawD, .lp l { r with state := .busy } (tmfS b s)]), L := [B1], ds := [] } →
      ∃ c7 : Cx, (Instr.endRound l jump).run P c5.w = .ok (.bool jump.isNone) c7.w ∧ topF (hpF s.F b (A1 ++ [rawD, .lp l { r with state := if jump.isNone then .ready else .done, pending := jump } (tmfS b s)])) (b + s.L.length + 2) ∧
        HeapOK c7 (hpF (hpF s.F b (A1 ++ [rawD, .lp l { r with state := if jump.isNone then .ready else .done, pending := jump } (tmfS b s)])) (b + s.L.length + 2) (B1 :: Ll.map fun _ => .dead)) ∧
        WF (b + s.L.length + 2 + 1) (hpF (hpF s.F b (A1 ++ [rawD, .lp l { r with state := if jump.isNone then .ready else .done, pending := jump } (tmfS b s)])) (b + s.L.length + 2) [B1]) ∧ c.leB (b + s.L.length + 2) c7 := by
    intro A1 B1 jump hA1 hwk
    obtain ⟨c6, hw6, hs6, hle6⟩ := hwk c5 a5 hs5
    have H6 := turnLp hA1 hs6.heap { r with state := if jump.isNone then .ready else .done, pending := jump } rfl
    obtain ⟨c7, hw7, H7, hle7⟩ := addDeads Ll [B1] H6.2.1
    have hend := run_endRound (P := P) jump H6.1
    refine ⟨c7, ?_, topF_hp (by simp [hA1]; omega), H7, wf_of H6.2.1 (topF_hp (by simp)), chain.trans (hle6.trans ((H6.2.2.toB _).trans (hle7.toB _)))⟩
    rw [← hw6, hw7]; exact hend
  cases e with
  | normal =>
    obtain ⟨hq0, hq⟩ := hq
    obtain ⟨c7, h1, h2, h3, h4, h5⟩ := fin _ _ none (hA (i + 1)) hq
    have er : ({ r with state := .ready, pending := none } : Loop) = r := by cases r; simp_all
    simp only [Option.isNone_none, if_true, er] at h1 h2 h3 h4
    exact ⟨_, _, h1, c7, _, .v (.bool true), _, _, rfl, rfl, ⟨h4, .inl ⟨rfl, rfl, rfl, hq0⟩⟩, h2, h3, ⟨rfl, rfl⟩, h5⟩
  | ret =>
    obtain ⟨A1, B1, hA1, hwk, hk⟩ := hq
    obtain ⟨c7, h1, h2, h3, h4, h5⟩ := fin A1 B1 (some .ret) hA1 hwk
    exact ⟨_, _, h1, c7, _, .v (.bool false), _, _, rfl, rfl, ⟨h4, .inr ⟨rfl, .ret, A1, hA1, rfl, hk⟩⟩, h2, h3, ⟨rfl, rfl⟩, h5⟩
  | exit id =>
    obtain ⟨A1, B1, hA1, hwk, hk⟩ := hq
    obtain ⟨c7, h1, h2, h3, h4, h5⟩ := fin A1 B1 (some (.exit id)) hA1 hwk
    exact ⟨_, _, h1, c7, _, .v (.bool false), _, _, rfl, rfl, ⟨h4, .inr ⟨rfl, .exit id, A1, hA1, rfl, hk⟩⟩, h2, h3, ⟨rfl, rfl⟩, h5⟩
  | goto t => exact hq.elim
  | panic ch => exact hq.elim
  | outgrown => exact hq.elim
end
end Go.Av

namespace Go.Av
open Go.RowKit

theorem DefOK.monoB {c c' : Cx} {b : Nat} (h : c.leB b c') (hb : ∀ id, c.ι id ≠ none → id < b) : ∀ (ids : List Nat) (l : List Deferred), DefOK c ids l → DefOK c' ids l
  | [], _, hd => hd
  | id :: ids, l, hd => by
    obtain ⟨g, l', h1, h2, h3⟩ := hd
    refine ⟨g, l', ?_, h2, DefOK.monoB h hb ids l' h3⟩
    rcases h.ι id _ (hb id (by rw [h1]; simp)) h1 with h4 | h4
    · exact h4
    · simp [Pl.isRaw] at h4

theorem HeapOK.lt {c : Cx} {F : Hp} {b : Nat} {L : List AObj} (H : HeapOK c (hpF F b L)) {id : Nat} (h : c.ι id ≠ none) : id < b + L.length := by
  rcases Nat.lt_or_ge id (b + L.length) with h1 | h1
  · exact h1
  · exact absurd (H.off id (hpF_top id h1)) h

section
variable {P : Program} {N b : Nat} {Q : Exit → AS → Prop} {s : AS} {g : Operand} {ps : Array Tmp} {assign body : Code}

/-- **'for .. := range f { .. }'**: f's contract; one round. -/
theorem wpA_rangeF {gf : FuncId} {caps : List AVal} (hg : evA s.tm g = .fn (.func gf) caps) (n : Nat) (ys : Nat → List AVal) (A : Nat → List AObj) (B : Nat → AObj) (I : Nat → Prop) (hI0 : I 0)
    (hcaps : subL (pl1 [] (b + s.L.length + 2)) caps = caps)
    (hA : ∀ i, (A i).length = s.L.length)
    (hps : ∀ p ∈ ps.toList, p < N)
    (hys : ∀ i, i < n → (ys i).length = ps.size ∧ subL (pl1 [] (b + s.L.length + 3)) (ys i) = ys i)
    (hent : ∀ rD rR, Wk N (b + s.L.length + 2) { tm := s.tm, F := hpF s.F b (s.L ++ [rD, rR]), L := [], ds := [] } { tm := [], F := hpF s.F b (A 0 ++ [rD, rR]), L := [B 0], ds := [] })
    (hit : ∀ rD rR X, IterE P gf caps (b + s.L.length + 2) n ys (fun i => hpF s.F b (A i ++ [rD, rR])) B I X)
    (hround : ∀ i, i < n → I i → ∀ rR, wpA P false N (b + s.L.length + 2) assign (fun e s3 => e = .normal ∧ s3.F = hpF s.F b (A i ++ [rawD, rR]) ∧ s3.ds = [] ∧ ∀ rB, (∀ σ, AObj.sub (pl1 σ (b + s.L.length + 2)) rB = rB) →
        wpA P false N (b + s.L.length + 2) body (RQ P N b Q s rawD rB (A (i + 1)) (B (i + 1)) (I (i + 1))) { tm := s3.tm, F := hpF s.F b (A i ++ [rawD, rB]), L := s3.L, ds := [] })
      { tm := zipT ps.toList (ys i) (mapT (pl1 [] (b + s.L.length + 2)) s.tm), F := hpF s.F b (A i ++ [rawD, rR]), L := [B i], ds := [] })
    (hdone : I n → ∀ rE, Q .normal (aftR b s (A n) rE (B n))) :
    wpA P true N b (.rangeFunc g ps assign body) Q s := by
  rintro F ⟨ro, rfl, hro⟩ c a hs
  have hro := hro rfl
  subst hro
  refine wpIn_rangeFunc ?_
  intro fn hfn
  obtain ⟨r, hr⟩ : ∃ r : Loop, r = { state := .ready, pending := none, fn, tmps := a.tmps, params := ps, assign, body, defers := c.w.heap.size } := ⟨_, rfl⟩
  have hrt : r.tmps = a.tmps := by rw [hr]
  -- the two records are laid
  obtain ⟨H1, hle1⟩ := hs.heap.new (id := b + s.L.length) (hpF_top _ (Nat.le_refl _)) (.deferred (some [])) (.raw c.w.heap.size) rfl rawD
    (fun _ => ⟨c.w.heap.size, iupd_same _ _ _, World.alloc_heap_new _ _⟩)
  obtain ⟨c1, hc1⟩ : ∃ c1 : Cx, { ι := iupd c.ι (b + s.L.length) (.raw c.w.heap.size), S := c.S, w := c.w.alloc (.deferred (some [])) } = c1 := ⟨_, rfl⟩
  rw [hc1] at H1 hle1
  have hw1 : c1.w = c.w.alloc (.deferred (some [])) := by rw [← hc1]
  have hi1 : c1.ι (b + s.L.length) = some (.raw c.w.heap.size) := by rw [← hc1]; exact iupd_same _ _ _
  have e1 : hupd (hpF s.F b s.L) (b + s.L.length) rawD = hpF s.F b (s.L ++ [rawD]) := by
    have := hpF_new (F := s.F) (b := b) (L := s.L) (sets := []) (new := some rawD) (by simp)
    simpa [hnew, hw, setF, setL] using this
  rw [e1] at H1
  have hsz1 : c1.w.heap.size = c.w.heap.size + 1 := by rw [hw1]; exact World.size_alloc _ _
  have hfr1 : ∀ t, Rel c1 (getT s.tm t) (a.tmps.getD t undef) := fun t => Rel.mono hle1 _ _ (hs.fr t)
  have htm : ∀ (c' : Cx), c.leB (b + s.L.length + 2) c' → ∀ t, Rel c' (getT (mapT (pl1 [] (b + s.L.length + 2)) s.tm) t) (a.tmps.getD t undef) := fun c' h t => by
    rw [getT_map]; exact pull_mono h (hs.fr t)
  obtain ⟨H2, hle2⟩ := H1.new (id := b + s.L.length + 1) (hpF_top _ (by simp; omega)) (.loop r) (.raw (c.w.heap.size + 1)) (by rw [← hsz1]; rfl) (.lp (c.w.heap.size + 1) r (tmfS b s))
    (fun hle => ⟨iupd_same _ _ _, by rw [← hsz1]; exact World.alloc_heap_new _ _, fun t => by
      rw [hrt]; exact htm _ ((hle1.toB _).trans (hle.toB _)) t⟩)
  obtain ⟨c2, hc2⟩ : ∃ c2 : Cx, { ι := iupd c1.ι (b + s.L.length + 1) (.raw (c.w.heap.size + 1)), S := c1.S, w := c1.w.alloc (.loop r) } = c2 := ⟨_, rfl⟩
  rw [hc2] at H2 hle2
  have hw2 : c2.w = (c.w.alloc (.deferred (some []))).alloc (.loop r) := by rw [← hc2, hw1]
  have e2 : hupd (hpF s.F b (s.L ++ [rawD])) (b + s.L.length + 1) (.lp (c.w.heap.size + 1) r (tmfS b s)) = hpF s.F b (s.L ++ [rawD, .lp (c.w.heap.size + 1) r (tmfS b s)]) := by
    have := hpF_new (F := s.F) (b := b) (L := s.L ++ [rawD]) (sets := []) (new := some (.lp (c.w.heap.size + 1) r (tmfS b s))) (by simp)
    simpa [hnew, hw, setF, setL, Nat.add_assoc] using this
  rw [e2] at H2
  have hi2 : c2.ι (b + s.L.length) = some (.raw c.w.heap.size) := by
    rw [← hc2]
    show iupd c1.ι _ _ _ = _
    rw [iupd_ne _ _ (by omega)]; exact hi1
  have hle02 : c.le c2 := hle1.trans hle2
  -- entering
  have htop2 : topF (hpF s.F b (s.L ++ [rawD, .lp (c.w.heap.size + 1) r (tmfS b s)])) (b + s.L.length + 2) := topF_hp (by simp; omega)
  have hsim2 : Sim c2 N (b + s.L.length + 2) { tm := s.tm, F := hpF s.F b (s.L ++ [rawD, .lp (c.w.heap.size + 1) r (tmfS b s)]), L := [], ds := [] } { tmps := a.tmps, defers := [] } :=
    ⟨by rw [hpF_nil htop2]; exact H2, fun t => Rel.mono hle02 _ _ (hs.fr t), hs.size, rfl, htop2⟩
  obtain ⟨c3, hw3, hs3, hle3⟩ := hent _ _ c2 _ hsim2
  have hle03 : c.leB (b + s.L.length + 2) c3 := (hle02.toB _).trans hle3
  -- the function that is ranged over
  have hgv := evA_rel hs g
  rw [hg] at hgv
  obtain ⟨cs, hgv1, hgv2⟩ := hgv
  have hcs3 : RelL c3 caps cs := by
    have h1 : RelL (pcx [] (b + s.L.length + 2) c) (subL (pl1 [] (b + s.L.length + 2)) caps) cs := sub_relL (pull_ok [] _ c) _ _ hgv2
    rw [hcaps] at h1
    exact RelL.mono (pcx_le hle03) _ _ h1
  obtain ⟨⟨gfn, g1, g2, g3⟩, hcall⟩ := hit rawD (.lp (c.w.heap.size + 1) r (tmfS b s)) (stopX P N b Q s (c.w.heap.size + 1) r)
  have hcall := hcall (c.w.heap.size + 1) (fun i hi hIi Ll hsoft => yield_round hA (by rw [hr]) (by rw [hr]) (by rw [hr]) (by rw [hr]) (by rw [hr]) (by rw [hr]; exact hs.size) hps hs.top (hys i hi).1 (hys i hi).2 (hround i hi hIi) Ll hsoft) hI0
    c3 cs hs3.heap (topF_hp (by simp [hA 0]; omega)) hcs3
  refine ⟨c.w.heap.size + 1, [{ target := .collected c.w.heap.size, args := #[] }], c2.w, { target := .fn (.func gf) ⟨cs⟩, args := #[.func (.yield (c.w.heap.size + 1)) #[] #[]] }, c2.w, gf, ⟨.func (.yield (c.w.heap.size + 1)) #[] #[] :: cs⟩, c3.w, ?_, ?_, ?_, ?_, ?_, ?_⟩
  · rw [hw2, hr]; exact run_enterLoop_outer _ _ _ _ _
  · simp only [resolve, hgv1]
    simp [go_sem]
  · intro f' _; trivial
  · have : (callFunc gf ⟨.func (.yield (c.w.heap.size + 1)) #[] #[] :: cs⟩).run P c2.w = .ok (.enter gf ⟨.func (.yield (c.w.heap.size + 1)) #[] #[] :: cs⟩) c2.w := by
      have e3' : gfn.body ≠ none := fun h => by rw [h] at g3; cases g3
      have e2' : gfn.name ≠ "runtime.NumGoroutine" := fun h => by rw [h] at g2; cases g2
      simp [callFunc, Sem.run_bind, program, g1, e2', e3', Sem.run_pure, Sem.run, Result.andThen]
    rw [hw3]
    simpa [invoke, go_sem] using this
  · intro h; simp [wide, Fence.wide] at h
  refine CallsIn.mono ((callsIn_wide (n := 0 - 1)).2 hcall) ?_
  rintro e w' ⟨c4, y, F', B', rfl, rfl, hend, htop', H4, hle4⟩
  have hle04 : c.leB (b + s.L.length + 2) c4 := hle03.trans hle4
  have hle24 : c2.leB (b + s.L.length + 2) c4 := hle3.trans hle4
  -- behind it
  have fin : ∀ (A1 : List AObj) (r' : Loop), A1.length = s.L.length → r'.tmps = r.tmps → r'.state ≠ .busy → F' = hpF s.F b (A1 ++ [rawD, .lp (c.w.heap.size + 1) r' (tmfS b s)]) →
      ∃ (c5 : Cx) (rE : AObj), (Instr.endLoop (c.w.heap.size + 1)).run P c4.w = .ok r'.pending c5.w ∧ Sim c5 N b (aftR b s A1 rE B') { tmps := a.tmps, defers := [{ target := .collected c.w.heap.size, args := #[] }] ++ a.defers } ∧ c.leB b c5 := by
    intro A1 r' hA1 ht hst hF'
    subst hF'
    have H5 := turnLp hA1 H4 { r' with state := .exhausted } rfl
    refine ⟨_, .lp (c.w.heap.size + 1) { r' with state := .exhausted } (tmfS b s), run_endLoop H5.1 hst, ⟨?_, ?_, hs.size, ?_, hs.top⟩, ((hle04.trans (H5.2.2.toB _)).weak (by omega))⟩
    · have e5 := hpF_app (F := s.F) (b := b) (L1 := A1 ++ [rawD, .lp (c.w.heap.size + 1) { r' with state := .exhausted } (tmfS b s)]) (L2 := [B'])
      have e6 : b + (A1 ++ [rawD, .lp (c.w.heap.size + 1) { r' with state := .exhausted } (tmfS b s)]).length = b + s.L.length + 2 := by simp [hA1]; omega
      rw [e6] at e5
      have := H5.2.1
      rw [← e5] at this
      simpa [aftR, rawD] using this
    · exact htm _ (hle04.trans (H5.2.2.toB _))
    · refine ⟨c.w.heap.size, a.defers, ?_, rfl, ?_⟩
      · have h5 : c4.ι (b + s.L.length) = some (.raw c.w.heap.size) := by
          rcases hle24.ι _ _ (by omega) hi2 with h | h
          · exact h
          · simp [Pl.isRaw] at h
        exact h5
      · refine DefOK.monoB (hle04.trans (H5.2.2.toB _)) (fun id hid => ?_) _ _ hs.ds
        have := hs.heap.lt hid
        omega
  rcases hend with ⟨hF', hB', hIn⟩ | ⟨code, A1, hA1, hF', hk⟩
  · obtain ⟨c5, rE, h1, h2, h3⟩ := fin (A n) r (hA n) rfl (by rw [hr]; simp) hF'
    refine ⟨none, c5.w, by rw [h1, hr], ?_⟩
    exact ⟨c5, _, rfl, hB' ▸ hdone hIn rE, hB' ▸ h2, h3⟩
  · obtain ⟨c5, rE, h1, h2, h3⟩ := fin A1 { r with state := .done, pending := some code } hA1 rfl (by simp) hF'
    refine ⟨some code, c5.w, h1, ?_⟩
    refine wpIn_mono (hk rE (wide none) ⟨none, rfl, fun _ => rfl⟩ c5 _ h2) ?_
    rintro e a' w' ⟨c6, s6, h4, h5, h6, h7⟩
    exact ⟨c6, s6, h4, h5, h6, h3.trans h7⟩
end
end Go.Av
namespace Go.Av
theorem pl1_0 (b : Nat) : pl1 [] (b + 1) = pl1 [0] b := by
  have hr : ∀ id, rid [] (b + 1) id = rid [0] b id := by
    intro id
    simp only [rid, idx]
    by_cases h1 : id < b
    · rw [if_pos h1, if_pos (by omega)]
    · rw [if_neg h1]
      by_cases h2 : id = b
      · subst h2; simp
      · rw [if_neg (by omega), if_neg (by omega)]; rfl
  funext x
  cases x <;> simp only [pl1, hr]
theorem WF.keep0 {F : Hp} {b : Nat} {B : AObj} (h : WF (b + 1) (hpF F b [B])) (ht : topF F b) : pullF [0] b F = F ∧ AObj.pull [0] b B = B := by
  have h0 := h []
  have hp : ∀ o, AObj.pull [] (b + 1) o = AObj.pull [0] b o := fun o => by simp only [AObj.pull, pl1_0]
  constructor
  · funext id
    have := congrFun h0 id
    simp only [pullF, hpF] at this ⊢
    by_cases hb : id < b
    · rw [if_pos hb] at this
      cases hF : F id with
      | none => rfl
      | some o => rw [hF] at this; simpa [hp] using this
    · rw [ht id (by omega)]; rfl
  · have := congrFun h0 b
    simp only [pullF, hpF] at this
    simp [hp] at this
    exact this
theorem hpF_lt {F : Hp} {b : Nat} {L : List AObj} {id : Nat} (h : id < b) : hpF F b L id = F id := by simp [hpF, h]
theorem some_lt {F : Hp} {b : Nat} {id : Nat} {o : AObj} (ht : topF F b) (h : F id = some o) : id < b := by
  rcases Nat.lt_or_ge id b with h1 | h1
  · exact h1
  · rw [ht id h1] at h; cases h
theorem need_hp {F : Hp} {b : Nat} {L : List AObj} {need : List (Nat × AObj)} (ht : topF F b) (h : ∀ p ∈ need, F p.1 = some p.2) : ∀ p ∈ need, hpF F b L p.1 = some p.2 := fun p hp => by
  rw [hpF_lt (some_lt ht (h p hp))]; exact h p hp
/-- A function's value that tells a bool of each element. -/
structure PredE {α : Type} (P : Program) (g : FuncId) (caps : List AVal) (need : List (Nat × AObj)) (enc : α → AVal) (p : α → Bool) : Prop where
  run : ∀ y, PureE P g (enc y :: caps) need (.v (.bool (p y)))
  cl : ∀ F b, (∀ q ∈ need, F q.1 = some q.2) → topF F b → ∀ σ, subL (pl1 σ b) caps = caps
end Go.Av
namespace Go.Av
theorem wrap1 {i n : Nat} (h : i < n) (hn : n ≤ 9223372036854775807) : IntKind.i64.wrap ((i : Int) + 1) = ((i + 1 : Nat) : Int) := by
  rw [IntWalk.i64_in _ (by constructor <;> omega)]; omega
theorem wrapP {i n : Nat} (h : i < n) (h0 : 0 < i) (hn : n ≤ 9223372036854775807) : IntKind.i64.wrap ((i : Int) - 1) = ((i - 1 : Nat) : Int) := by
  rw [IntWalk.i64_in _ (by constructor <;> omega)]; omega
theorem all_take {α : Type} {l : List α} {i : Nat} {x : α} {R : α → Prop} (hx : l[i]? = some x) (hp : ∀ y ∈ l.take i, R y) (h : R x) : ∀ y ∈ l.take (i + 1), R y := by
  intro y hy
  rw [List.take_add_one, hx] at hy
  rcases List.mem_append.1 hy with h1 | h1
  · exact hp y h1
  · simp at h1; exact h1 ▸ h
/-- Where the first stands of which it holds; -1: of none. -/
def idxF {α : Type} (p : α → Bool) (l : List α) : Int := match l.findIdx? p with | some i => i | none => -1
theorem idxF_some {α : Type} {p : α → Bool} {l : List α} {i : Nat} {x : α} (hx : l[i]? = some x) (h : p x = true) (hp : ∀ y ∈ l.take i, p y = false) : idxF p l = i := by
  have hi : i < l.length := (List.getElem?_eq_some_iff.1 hx).1
  have hxe : l[i] = x := (List.getElem?_eq_some_iff.1 hx).2
  rw [idxF, (List.findIdx?_eq_some_iff_getElem (p := p)).2 ⟨hi, by rw [hxe]; exact h, fun j hj => ?_⟩]
  rw [hp (l[j]'(by omega)) ?_]; · simp
  refine List.mem_of_getElem? (i := j) ?_
  rw [List.getElem?_take, if_pos hj]
  exact List.getElem?_eq_getElem _
theorem idxF_none {α : Type} {p : α → Bool} {l : List α} (hp : ∀ y ∈ l, p y = false) : idxF p l = -1 := by
  rw [idxF, List.findIdx?_eq_none_iff.2 (by simpa using hp)]
theorem idxF_nonneg {α : Type} {p : α → Bool} {l : List α} : decide (idxF p l ≥ 0) = l.any p := by
  unfold idxF
  cases h : l.findIdx? p with
  | none =>
    rw [List.findIdx?_eq_none_iff] at h
    have : l.any p = false := by rw [List.any_eq_false]; simpa using h
    rw [this]; rfl
  | some i =>
    have h2 := (List.findIdx?_eq_some_iff_getElem (p := p)).1 h
    obtain ⟨hi, h3, _⟩ := h2
    have : l.any p = true := List.any_eq_true.2 ⟨l[i], List.getElem_mem _, h3⟩
    rw [this]; simp
end Go.Av
namespace Go.Av
theorem rng : (List.range 0 = []) ∧ (List.range 1 = [0]) ∧ (List.range 2 = [0, 1]) ∧ (List.range 3 = [0, 1, 2]) ∧ (List.range 4 = [0, 1, 2, 3]) ∧ (List.range 5 = [0, 1, 2, 3, 4]) ∧ (List.range 6 = [0, 1, 2, 3, 4, 5]) ∧ (List.range 7 = [0, 1, 2, 3, 4, 5, 6]) ∧ (List.range 8 = [0, 1, 2, 3, 4, 5, 6, 7]) ∧ (List.range 9 = [0, 1, 2, 3, 4, 5, 6, 7, 8]) ∧ (List.range 10 = [0, 1, 2, 3, 4, 5, 6, 7, 8, 9]) ∧ (List.range 11 = [0, 1, 2, 3, 4, 5, 6, 7, 8, 9, 10]) ∧ (List.range 12 = [0, 1, 2, 3, 4, 5, 6, 7, 8, 9, 10, 11]) ∧ (List.range 13 = [0, 1, 2, 3, 4, 5, 6, 7, 8, 9, 10, 11, 12]) ∧ (List.range 14 = [0, 1, 2, 3, 4, 5, 6, 7, 8, 9, 10, 11, 12, 13]) ∧ (List.range 15 = [0, 1, 2, 3, 4, 5, 6, 7, 8, 9, 10, 11, 12, 13, 14]) ∧ (List.range 16 = [0, 1, 2, 3, 4, 5, 6, 7, 8, 9, 10, 11, 12, 13, 14, 15]) ∧ (List.range 17 = [0, 1, 2, 3, 4, 5, 6, 7, 8, 9, 10, 11, 12, 13, 14, 15, 16]) ∧ (List.range 18 = [0, 1, 2, 3, 4, 5, 6, 7, 8, 9, 10, 11, 12, 13, 14, 15, 16, 17]) ∧ (List.range 19 = [0, 1, 2, 3, 4, 5, 6, 7, 8, 9, 10, 11, 12, 13, 14, 15, 16, 17, 18]) ∧ (List.range 20 = [0, 1, 2, 3, 4, 5, 6, 7, 8, 9, 10, 11, 12, 13, 14, 15, 16, 17, 18, 19]) ∧ (List.range 21 = [0, 1, 2, 3, 4, 5, 6, 7, 8, 9, 10, 11, 12, 13, 14, 15, 16, 17, 18, 19, 20]) ∧ (List.range 22 = [0, 1, 2, 3, 4, 5, 6, 7, 8, 9, 10, 11, 12, 13, 14, 15, 16, 17, 18, 19, 20, 21]) ∧ (List.range 23 = [0, 1, 2, 3, 4, 5, 6, 7, 8, 9, 10, 11, 12, 13, 14, 15, 16, 17, 18, 19, 20, 21, 22]) ∧ (List.range 24 = [0, 1, 2, 3, 4, 5, 6, 7, 8, 9, 10, 11, 12, 13, 14, 15, 16, 17, 18, 19, 20, 21, 22, 23]) := ⟨rfl, rfl, rfl, rfl, rfl, rfl, rfl, rfl, rfl, rfl, rfl, rfl, rfl, rfl, rfl, rfl, rfl, rfl, rfl, rfl, rfl, rfl, rfl, rfl, rfl⟩
attribute [go_sem] rng fillA chunkA mkEl List.getD_cons_zero List.getD_cons_succ
end Go.Av

namespace Go.Av
open Go.RowKit

/-! ### Within a round: what lies below the base is told by a list -/
theorem hpF_lo {G : Hp} {b m k : Nat} {L : List AObj} (h : k < m) : hpF G (b + m) L (b + k) = G (b + k) := by
  simp only [hpF]; rw [if_pos (by omega)]
theorem setF_lo {F : Hp} {b m k : Nat} {L : List AObj} {o : AObj} {r : List (Nat × AObj)} (h : k < m) (hl : k < L.length) : setF (b + m) (hpF F b L) ((b + k, o) :: r) = setF (b + m) (hpF F b (L.set k o)) r := by
  rw [setF, if_pos (by omega), hpF_upd hl]
theorem setL_lo {b m k : Nat} {L : List AObj} {o : AObj} {r : List (Nat × AObj)} (h : k < m) : setL (b + m) L ((b + k, o) :: r) = setL (b + m) L r := by
  rw [setL, if_pos (by omega)]
theorem rid_lo {σ : List Nat} {b m k : Nat} (h : k < m) : rid σ (b + m) (b + k) = some (b + k) := by
  simp only [rid]; rw [if_pos (by omega)]

theorem pullF_hp {σ : List Nat} {F : Hp} {b m : Nat} {L : List AObj} (h : WF b F) : pullF σ (b + m) (hpF F b L) = hpF F b (L.map (AObj.sub (pl1 σ (b + m)))) := by
  funext id
  have h0 := congrFun (h.up (Nat.le_add_right b m) σ) id
  simp only [pullF, hpF] at h0 ⊢
  split
  · exact h0
  · rw [List.getElem?_map]; rfl
theorem wk_dead {N b : Nat} {tm : List (Nat × AVal)} {F : Hp} : Wk N b { tm := tm, F := F, L := [], ds := [] } { tm := [], F := F, L := [.dead], ds := [] } := fun c a hs => by
  obtain ⟨c', h1, H1, h2⟩ := addDeads (F := F) (b := b) [.dead] [] hs.heap
  exact ⟨c', h1, ⟨by simpa using H1, fun t => trivial, hs.size, by have := hs.ds; exact this, hs.top⟩, h2.toB b⟩
theorem hw_nil {F : Hp} : hw F [] = F := rfl
attribute [go_sem] hpF_lo setF_lo setL_lo rid_lo hw_nil zipT Array.size_empty List.set_cons_zero List.set_cons_succ aftR
theorem mapT_nil {f : AVal → AVal} : mapT f [] = [] := rfl
theorem mapT_cons {f : AVal → AVal} {k : Nat} {v : AVal} {r : List (Nat × AVal)} : mapT f ((k, v) :: r) = (k, v.sub f) :: mapT f r := rfl
attribute [go_sem] mapT_nil mapT_cons
/-- The sum of the first values of a function. -/
def sumTo (f : Nat → Int) : Nat → Int
  | 0 => 0
  | n + 1 => sumTo f n + f n

section
variable {P : Program} {N b : Nat} {Q : Exit → AS → Prop} {s : AS} {g : Operand} {ps : Array Tmp} {assign body : Code}
def aftM (b m : Nat) (s : AS) (A' : List AObj) (rE B' : AObj) : AS :=
  { tm := mapT (pl1 [] (b + m)) s.tm, F := s.F, L := A' ++ [rawD, rE, B'], ds := (b + s.L.length) :: s.ds }
/-- Where a round must end. -/
def RQM (P : Program) (N b m : Nat) (Q : Exit → AS → Prop) (s : AS) (rD rB : AObj) (A1 : List AObj) (B1 : AObj) (I1 : Prop) : Exit → AS → Prop
  | .normal, s' => I1 ∧ Wk N (b + m) s' { tm := [], F := hpF s.F b (A1 ++ [rD, rB]), L := [B1], ds := [] }
  | .ret, s' => ∃ A' B', A'.length = s.L.length ∧ Wk N (b + m) s' { tm := [], F := hpF s.F b (A' ++ [rD, rB]), L := [B'], ds := [] } ∧ ∀ rE, wpA P true N b .ret Q (aftM b m s A' rE B')
  | .exit id, s' => ∃ A' B', A'.length = s.L.length ∧ Wk N (b + m) s' { tm := [], F := hpF s.F b (A' ++ [rD, rB]), L := [B'], ds := [] } ∧ ∀ rE, wpA P true N b (.exit id) Q (aftM b m s A' rE B')
  | _, _ => False

theorem wpA_rgF {gf : FuncId} {caps : List AVal} (m : Nat) (hg : evA s.tm g = .fn (.func gf) caps) (n : Nat) (ys : Nat → List AVal) (A : Nat → List AObj) (B : Nat → AObj) (I : Nat → Prop) (hI0 : I 0) (hm : m = s.L.length + 2)
    (hcaps : subL (pl1 [] (b + m)) caps = caps)
    (hA : ∀ i, (A i).length = s.L.length)
    (hps : ∀ p ∈ ps.toList, p < N)
    (hys : ∀ i, i < n → (ys i).length = ps.size ∧ subL (pl1 [] (b + (m + 1))) (ys i) = ys i)
    (hent : ∀ rD rR, Wk N (b + m) { tm := s.tm, F := hpF s.F b (s.L ++ [rD, rR]), L := [], ds := [] } { tm := [], F := hpF s.F b (A 0 ++ [rD, rR]), L := [B 0], ds := [] })
    (hit : ∀ rD rR X, IterE P gf caps (b + m) n ys (fun i => hpF s.F b (A i ++ [rD, rR])) B I X)
    (hround : ∀ i, i < n → I i → ∀ rR, wpA P false N (b + m) assign (fun e s3 => e = .normal ∧ s3.F = hpF s.F b (A i ++ [rawD, rR]) ∧ s3.ds = [] ∧ ∀ rB, (∀ σ, AObj.sub (pl1 σ (b + m)) rB = rB) →
        wpA P false N (b + m) body (RQM P N b m Q s rawD rB (A (i + 1)) (B (i + 1)) (I (i + 1))) { tm := s3.tm, F := hpF s.F b (A i ++ [rawD, rB]), L := s3.L, ds := [] })
      { tm := zipT ps.toList (ys i) (mapT (pl1 [] (b + m)) s.tm), F := hpF s.F b (A i ++ [rawD, rR]), L := [B i], ds := [] })
    (hdone : I n → ∀ rE, Q .normal (aftM b m s (A n) rE (B n))) :
    wpA P true N b (.rangeFunc g ps assign body) Q s := by
  subst hm
  refine wpA_rangeF hg n ys A B I hI0 hcaps hA hps hys hent hit (fun i hi hIi rR => wpA_mono (hround i hi hIi rR) fun e s3 hq => ?_) hdone
  obtain ⟨h1, h2, h3, h4⟩ := hq
  refine ⟨h1, h2, h3, fun rB hrB => wpA_mono (h4 rB hrB) fun e s' hq => ?_⟩
  cases e <;> exact hq
end
theorem hpF_hi {G : Hp} {b m k : Nat} {L : List AObj} (h : m ≤ k) : hpF G (b + m) L (b + k) = L[k - m]? := by
  simp only [hpF]; rw [if_neg (by omega)]; congr 1; omega
attribute [go_sem] aftM hpF_hi

theorem wpA_K {P : Program} {top : Bool} {N b : Nat} {Q : Exit → AS → Prop} {s : AS} {code : Code} (h : ∀ K : AS → Prop, (∀ s', wpA P top N b code Q s' → K s') → K s) : wpA P top N b code Q s := h _ fun _ h => h

theorem need_hp2 {F : Hp} {b m : Nat} {L L2 : List AObj} {need : List (Nat × AObj)} (ht : topF F b) (h : ∀ p ∈ need, F p.1 = some p.2) : ∀ p ∈ need, hpF (hpF F b L) (b + m) L2 p.1 = some p.2 := fun p hp => by
  have h1 := some_lt ht (h p hp)
  rw [hpF_lt (by omega), hpF_lt h1]; exact h p hp

/-- The first number of which it holds. -/
def firstI (p : Nat → Bool) (n : Nat) : Option Nat := (List.range n).find? p
theorem firstI_some {p : Nat → Bool} {n i : Nat} (hi : i < n) (h : p i = true) (hp : ∀ j, j < i → p j = false) : firstI p n = some i := by
  unfold firstI
  rw [List.find?_range_eq_some]
  exact ⟨h, by simpa using hi, fun j hj => by simp [hp j hj]⟩
theorem firstI_none {p : Nat → Bool} {n : Nat} (hp : ∀ j, j < n → p j = false) : firstI p n = none := by
  unfold firstI
  rw [List.find?_eq_none]
  intro j hj
  simp [hp j (by simpa using hj)]
theorem below_succ {p : Nat → Bool} {i : Nat} (h : ∀ j, j < i → p j = false) (hi : p i = false) : ∀ j, j < i + 1 → p j = false := fun j hj => by
  rcases Nat.lt_or_ge j i with h1 | h1
  · exact h j h1
  · have : j = i := by omega
    subst this; exact hi

section
variable {P : Program} {N b m : Nat} {Q : Exit → AS → Prop} {s s' : AS} {rD rB : AObj} {A1 : List AObj} {B1 : AObj} {I1 : Prop}
theorem RQM.ret' (A' : List AObj) (B' : AObj) (h1 : A'.length = s.L.length) (h2 : Wk N (b + m) s' { tm := [], F := hpF s.F b (A' ++ [rD, rB]), L := [B'], ds := [] }) (h3 : ∀ rE, wpA P true N b .ret Q (aftM b m s A' rE B')) : RQM P N b m Q s rD rB A1 B1 I1 .ret s' := ⟨A', B', h1, h2, h3⟩
theorem RQM.ret (A' : List AObj) (B' : AObj) (h1 : A'.length = s.L.length) (h2 : Wk N (b + m) s' { tm := [], F := hpF s.F b (A' ++ [rD, rB]), L := [B'], ds := [] }) (h3 : ∀ rE, wpA P true N b .ret Q (aftM b m s A' rE B')) : RQM P N b m Q s rD rB [] .dead True .ret s' := ⟨A', B', h1, h2, h3⟩
theorem RQM.nrm (h1 : I1) (h2 : Wk N (b + m) s' { tm := [], F := hpF s.F b (A1 ++ [rD, rB]), L := [B1], ds := [] }) : RQM P N b m Q s rD rB A1 B1 I1 .normal s' := ⟨h1, h2⟩
end

theorem i64_def (x : Int) : IntKind.i64.wrap x = (x + 9223372036854775808) % 18446744073709551616 - 9223372036854775808 := by
  simp only [IntKind.wrap, IntKind.signed, IntKind.bits]; simp; omega
theorem u64_def (x : Int) : IntKind.u64.wrap x = x % 18446744073709551616 := by
  simp only [IntKind.wrap, IntKind.signed, IntKind.bits]; simp
theorem u32_def (x : Int) : IntKind.u32.wrap x = x % 4294967296 := by
  simp only [IntKind.wrap, IntKind.signed, IntKind.bits]; simp

/-- A variable's cell that holds a nil row: the row is the round's own from now on. -/
theorem wk_nilF {N b m : Nat} {tm : List (Nat × AVal)} {F : Hp} {L : List AObj} (htop : topF F b) (k j e sz : Nat) {t : Nat} {cs : List AVal} (hk : L[k]? = some (.blk t cs)) (hj : cs[j]? = some (.v (.slice none 0 0))) (hm : L.length = m) :
    Wk N (b + m) { tm := tm, F := hpF F b L, L := [], ds := [] } { tm := [], F := hpF F b (L.set k (.blk t (cs.set j (.own (b + m) 0)))), L := [.row e sz []], ds := [] } := fun c a hs => by
  subst hm
  have hs' : Sim c N b { tm := tm, F := F, L := L, ds := [] } a := ⟨by have := hs.heap; rw [hpF_nil (topF_hp (Nat.le_refl _))] at this; exact this, hs.fr, hs.size, hs.ds, htop⟩
  obtain ⟨c', h1, h2, h3⟩ := nilC_le k j e sz hk hj c a hs'
  have hh := h2.heap
  rw [hpF_app] at hh
  simp only [List.length_set] at hh
  exact ⟨c', h1, ⟨hh, fun t => trivial, h2.size, h2.ds, topF_hp (by simp)⟩, h3.toB _⟩
theorem take_map_len {α β : Type} (f : α → β) (l : List α) : (l.map f).take l.length = l.map f := by
  rw [← List.length_map (f := f), List.take_length]
attribute [go_sem] take_map_len Nat.le_refl

theorem subL_append {f : AVal → AVal} {xs ys : List AVal} : subL f (xs ++ ys) = subL f xs ++ subL f ys := by simp [subL_map]
attribute [go_sem] subL_append

/-- One's own row is given away, at any place. -/
theorem wk_fz {N b : Nat} {s : AS} (k : Nat) {e sz : Nat} {xs : List AVal} (hk : s.L[k]? = some (.row e sz xs)) :
    Wk N b s { tm := mapT (fz1 (b + k) xs.length xs) s.tm, F := s.F, L := (s.L.set k .dead).map (AObj.sub (fz1 (b + k) xs.length xs)), ds := s.ds } := by
  have hid : hpF s.F b s.L (b + k) = some (.row e sz xs) := by rw [hpF_add]; exact hk
  have := wk_freeze (N := N) (b + k) hid
  have e1 : setF b s.F [(b + k, .dead)] = s.F := by rw [setF_add, setF_nil]
  have e2 : setL b s.L [(b + k, .dead)] = s.L.set k .dead := by rw [setL_add, setL_nil]
  rwa [e1, e2] at this
theorem wpA_fzw {P : Program} {top : Bool} {N b : Nat} {Q : Exit → AS → Prop} {s : AS} {code : Code} (k : Nat) {e sz : Nat} {xs : List AVal} (hk : s.L[k]? = some (.row e sz xs))
    (h : ∀ K : AS → Prop, (∀ s', wpA P top N b code Q s' → K s') → K { tm := mapT (fz1 (b + k) xs.length xs) s.tm, F := s.F, L := (s.L.set k .dead).map (AObj.sub (fz1 (b + k) xs.length xs)), ds := s.ds }) : wpA P top N b code Q s :=
  wpA_wk (wk_fz k hk) (h _ fun _ h => h)
/-- A temporary that holds a nil row: its row is one's own from now on. -/
theorem wpA_nilO {P : Program} {top : Bool} {N b : Nat} {Q : Exit → AS → Prop} {s : AS} {code : Code} (t e sz : Nat) (ht : getT s.tm t = .v (.slice none 0 0))
    (h : ∀ K : AS → Prop, (∀ s', wpA P top N b code Q s' → K s') → K { tm := (t, .own (b + s.L.length) 0) :: s.tm, F := s.F, L := s.L ++ [.row e sz []], ds := s.ds }) : wpA P top N b code Q s :=
  wpA_wk (wk_nilT t e sz ht) (h _ fun _ h => h)
theorem wpA_nilOC {P : Program} {top : Bool} {N b : Nat} {Q : Exit → AS → Prop} {s : AS} {code : Code} (k j e sz : Nat) {t : Nat} {cs : List AVal} (hk : s.L[k]? = some (.blk t cs)) (hj : cs[j]? = some (.v (.slice none 0 0)))
    (h : ∀ K : AS → Prop, (∀ s', wpA P top N b code Q s' → K s') → K { tm := s.tm, F := s.F, L := s.L.set k (.blk t (cs.set j (.own (b + s.L.length) 0))) ++ [.row e sz []], ds := s.ds }) : wpA P top N b code Q s :=
  wpA_wk (wk_nilC k j e sz hk hj) (h _ fun _ h => h)

/-- A row of one's own is handed to what reads rows that stay: it is given away. -/
theorem lend {P : Program} {f : FuncId} {args args' : List AVal} {need : List (Nat × AObj)} {v : AVal} {sets : List (Nat × AObj)} (id e s : Nat) (xs : List AVal) (h : CallS P f args need v sets)
    (ha : subL (fz1 id xs.length xs) args' = args) (hid : ∀ p ∈ need, p.1 ≠ id) : CallS P f args' ((id, .row e s xs) :: need) v ((id, .dead) :: sets) := by
  intro F b hn hlt
  have hrow : F id = some (.row e s xs) := hn (id, .row e s xs) (by simp)
  have hb : id < b := hlt (id, .row e s xs) (by simp)
  have h' := h (hupd F id .dead) b (fun p hp => by
    have := hn p (List.mem_cons_of_mem _ hp)
    simp only [hupd]; rw [if_neg (hid p hp)]; exact this) (fun p hp => hlt p (List.mem_cons_of_mem _ hp))
  refine ⟨h'.1, fun p hp => ?_, fun c cargs H htop hr => ?_⟩
  · rcases List.mem_cons.1 hp with rfl | hp
    · exact hb
    · exact h'.2.1 p hp
  · obtain ⟨c1, hw1, H1, hle1, hsub, hι⟩ := freeze_all H hrow
    have hr1 : RelL c1 args cargs := by rw [← ha]; exact sub_relL hsub _ _ hr
    have := h'.2.2 c1 cargs H1 (fun k hk => by simp only [hupd]; rw [if_neg (by omega)]; exact htop k hk) hr1
    rw [hw1] at this
    refine this.mono ?_
    rintro e w' ⟨c', y, h1, h2, h3, h4, h5⟩
    exact ⟨c', y, h1, h2, h3, h4, hle1.trans h5⟩
theorem CallS.call {P : Program} {f : FuncId} {args : List AVal} {need : List (Nat × AObj)} {v : AVal} {sets : List (Nat × AObj)} (h : CallS P f args need v sets) {F : Hp} {b : Nat} {L : List AObj} (ht : topF F b) (hn : ∀ p ∈ need, hpF F b L p.1 = some p.2) : CallE P f args (hpF F b L) (b + L.length) v sets [] :=
  h _ _ hn fun p hp => hpF_some ht (hn p hp)
end Go.Av

namespace Go.Av
open Go.RowKit Go.ChangeShapes Go.WideShapes Go.ChangeAt Go.Deep

/-! ### From the claim's reading of what comes in to what the walks speak of -/
def topCx (w : World) : Cx := { ι := fun _ => none, S := fun b => b < w.heap.size, w := w }
theorem topHeap (w : World) : HeapOK (topCx w) (fun _ => none) :=
  { obj := fun _ _ h => by cases h
    off := fun _ _ => rfl
    inj := fun _ _ _ _ _ h => by cases h
    own := fun _ _ _ h => by cases h
    stab := fun _ h => h }

def Reads {α : Type} (P : Program) (w : World) (t : TypeId) (f : α → AVal) (g : α → Prop) : Prop :=
  ∀ (H : Type) (enc : TypeId × Value → H) (spare : Nat → Bool) (held : Bool) (fuel : Nat) (cs : List Value) (x : DataW H × List MemPlace), DataW.trod enc P w 0 spare held fuel t cs = some x → ∃ a, g a ∧ RelL (topCx w) (f a).cells cs

section
variable {P : Program} {w : World}
theorem reads_int {t : TypeId} {k : IntKind} (ht : P.underlying t = some (.int k)) : Reads P w t (fun n : Int => .v (.int k n)) (fun n => (Lit.int k n).wf = true) := by
  intro H enc spare held fuel cs x h
  obtain ⟨n, rfl, _, hw⟩ := DataW.trod_int ht h
  exact ⟨n, hw, _, [], rfl, ⟨rfl, rfl⟩, rfl⟩
theorem reads_bool {t : TypeId} (ht : P.underlying t = some .bool) : Reads P w t (fun n : Bool => .v (.bool n)) (fun _ => True) := by
  intro H enc spare held fuel cs x h
  obtain ⟨n, rfl, _⟩ := DataW.trod_bool ht h
  exact ⟨n, trivial, _, [], rfl, ⟨rfl, rfl⟩, rfl⟩

theorem relE_of {c : Cx} {s : Nat} : ∀ (l : List AVal) (ad : Addr), (∀ i x, l[i]? = some x → x.cells.length = s ∧ RelC c x.cells (ad.add (i * s))) → RelE c s l ad
  | [], _, _ => trivial
  | x :: l, ad, h => by
    have h0 := h 0 x rfl
    refine RelE.of_cons h0.1 (by simpa [add_zero'] using h0.2) (relE_of l _ fun i y hy => ?_)
    have := h (i + 1) y (by simpa using hy)
    rw [add_add', Nat.add_comm s, ← Nat.succ_mul]
    exact this

theorem reads_slice {α : Type} {f : α → AVal} {g : α → Prop} {t e : TypeId} (ht : P.underlying t = some (.slice e)) (hs : 0 < P.cellsOf e) (he : Reads P w e f g) :
    Reads P w t (fun l : List α => .sl (l.map f)) (fun l => ∀ x ∈ l, g x) := by
  intro H enc spare held fuel cs x h
  rcases open_slice ht h with ⟨rfl, _⟩ | ⟨a, len, cap, m, n, D, Pl, rfl, hb, hl, hm, hmm, hx, hel⟩
  · exact ⟨[], by simp, _, [], rfl, ⟨none, 0, rfl, Nat.le_refl _, by simp [maxLen], fun h => absurd h (by simp)⟩, rfl⟩
  have hlm : len ≤ m := by rw [hmm]; split <;> omega
  have key : ∀ i, i < len → ∃ y : α, g y ∧ (f y).cells.length = P.cellsOf e ∧ RelC (topCx w) (f y).cells (a.add (i * P.cellsOf e)) ∧ a.block < w.heap.size := by
    intro i hi
    obtain ⟨cs', h1, h2⟩ := hel i (by omega)
    obtain ⟨y, hy, hr⟩ := he H enc spare held n cs' _ h2
    obtain ⟨_, hlen, hcell⟩ := World.cells?_some h1
    have hat : At w (a.add (i * P.cellsOf e)) cs' := fun j v hv => by
      have hj : j < P.cellsOf e := by
        rw [← hlen]
        rcases Nat.lt_or_ge j cs'.length with h | h
        · exact h
        · rw [List.getElem?_eq_none h] at hv; cases hv
      rw [hcell j hj]; exact hv
    refine ⟨y, hy, by rw [← hr.length, hlen], RelC.of_at hr hat, ?_⟩
    have h0 := hcell 0 hs
    rw [add_zero'] at h0
    have : ∃ v, cs'[0]? = some v := ⟨cs'[0]'(by omega), List.getElem?_eq_getElem _⟩
    obtain ⟨v, hv⟩ := this
    rw [hv] at h0
    unfold World.cell? at h0
    rw [add_block] at h0
    cases hh : w.heap[a.block]? with
    | none => simp [hh] at h0
    | some o => exact (Array.getElem?_eq_some_iff.1 hh).1
  have hsz := key
  obtain ⟨A, hA⟩ : ∃ A : Nat → Option α, ∀ i, i < len → ∃ y, A i = some y ∧ g y ∧ (f y).cells.length = P.cellsOf e ∧ RelC (topCx w) (f y).cells (a.add (i * P.cellsOf e)) := by
    refine ⟨fun i => if h : i < len then some (Classical.choose (key i h)) else none, fun i hi => ?_⟩
    have := Classical.choose_spec (key i hi)
    exact ⟨_, dif_pos hi, this.1, this.2.1, this.2.2.1⟩
  obtain ⟨l, hl1, hl2⟩ : ∃ l : List α, l.length = len ∧ ∀ i, i < len → l[i]? = A i := by
    have : ∀ k, k ≤ len → ∃ l : List α, l.length = k ∧ ∀ i, i < k → l[i]? = A i := by
      intro k
      induction k with
      | zero => intro _; exact ⟨[], rfl, fun i hi => absurd hi (Nat.not_lt_zero _)⟩
      | succ k ih =>
        intro hk
        obtain ⟨l, h1, h2⟩ := ih (by omega)
        obtain ⟨y, hy, _⟩ := hA k (by omega)
        refine ⟨l ++ [y], by simp [h1], fun i hi => ?_⟩
        rcases Nat.lt_or_ge i k with h | h
        · rw [List.getElem?_append_left (by omega)]; exact h2 i h
        · have : i = k := by omega
          subst this
          rw [List.getElem?_append_right (by omega), h1]; simp [hy]
    exact this len (Nat.le_refl _)
  refine ⟨l, fun x hx => ?_, _, [], rfl, ⟨some a, cap, by rw [List.length_map, hl1], by rw [List.length_map, hl1]; exact hl, hm, fun h0 => ⟨a, P.cellsOf e, rfl, ?_, ?_⟩⟩, rfl⟩
  · obtain ⟨i, hi⟩ := List.getElem?_of_mem hx
    have hil : i < len := by
      rw [← hl1]
      rcases Nat.lt_or_ge i l.length with h | h
      · exact h
      · rw [List.getElem?_eq_none h] at hi; cases hi
    obtain ⟨y, hy, hg, _⟩ := hA i hil
    rw [hl2 i hil, hy] at hi
    cases hi; exact hg
  · have : 0 < len := by rw [← hl1]; simpa using h0
    obtain ⟨_, _, _, _, hb⟩ := key 0 this
    exact hb
  · refine relE_of _ _ fun i x hx => ?_
    rw [List.getElem?_map, Option.map_eq_some_iff] at hx
    obtain ⟨y, hy, rfl⟩ := hx
    have hil : i < len := by
      rw [← hl1]
      rcases Nat.lt_or_ge i l.length with h | h
      · exact h
      · rw [List.getElem?_eq_none h] at hy; cases hy
    obtain ⟨z, hz, _, h1, h2⟩ := hA i hil
    rw [hl2 i hil, hz] at hy
    cases hy; exact ⟨h1, h2⟩

theorem reads_struct2 {α β γ : Type} {f0 : α → AVal} {g0 : α → Prop} {f1 : β → AVal} {g1 : β → Prop} {t : TypeId} {F0 F1 : Field} (mk : α → β → γ) (f : γ → AVal) (g : γ → Prop) (ht : P.underlying t = some (.struct #[F0, F1]))
    (ho : F0.offset = 0 ∧ F1.offset = P.cellsOf F0.type ∧ P.cellsOf t = P.cellsOf F0.type + P.cellsOf F1.type)
    (h0 : Reads P w F0.type f0 g0) (h1 : Reads P w F1.type f1 g1) (hf : ∀ a b, (f (mk a b)).cells = (f0 a).cells ++ (f1 b).cells) (hg : ∀ a b, g0 a → g1 b → g (mk a b)) : Reads P w t f g := by
  intro H enc spare held fuel cs x h
  obtain ⟨xs, n, _, rfl, hl, hlen, hfi⟩ := DataW.trod_struct ht h
  match xs, hlen with
  | [y0, y1], _ =>
    obtain ⟨a, ga, ra⟩ := h0 H enc spare held n _ _ (by simpa using hfi 0 F0 rfl)
    obtain ⟨b, gb, rb⟩ := h1 H enc spare held n _ _ (by simpa using hfi 1 F1 rfl)
    refine ⟨mk a b, hg a b ga gb, ?_⟩
    rw [hf]
    rw [ho.1, List.drop_zero] at ra
    rw [ho.2.1, List.take_of_length_le (by rw [List.length_drop]; omega)] at rb
    rw [← List.take_append_drop (P.cellsOf F0.type) cs]
    exact ra.append rb
theorem reads_struct3 {α β δ γ : Type} {f0 : α → AVal} {g0 : α → Prop} {f1 : β → AVal} {g1 : β → Prop} {f2 : δ → AVal} {g2 : δ → Prop} {t : TypeId} {F0 F1 F2 : Field} (mk : α → β → δ → γ) (f : γ → AVal) (g : γ → Prop) (ht : P.underlying t = some (.struct #[F0, F1, F2]))
    (ho : F0.offset = 0 ∧ F1.offset = P.cellsOf F0.type ∧ F2.offset = P.cellsOf F0.type + P.cellsOf F1.type ∧ P.cellsOf t = P.cellsOf F0.type + P.cellsOf F1.type + P.cellsOf F2.type)
    (h0 : Reads P w F0.type f0 g0) (h1 : Reads P w F1.type f1 g1) (h2 : Reads P w F2.type f2 g2) (hf : ∀ a b d, (f (mk a b d)).cells = (f0 a).cells ++ ((f1 b).cells ++ (f2 d).cells)) (hg : ∀ a b d, g0 a → g1 b → g2 d → g (mk a b d)) : Reads P w t f g := by
  intro H enc spare held fuel cs x h
  obtain ⟨xs, n, _, rfl, hl, hlen, hfi⟩ := DataW.trod_struct ht h
  match xs, hlen with
  | [y0, y1, y2], _ =>
    obtain ⟨a, ga, ra⟩ := h0 H enc spare held n _ _ (by simpa using hfi 0 F0 rfl)
    obtain ⟨b, gb, rb⟩ := h1 H enc spare held n _ _ (by simpa using hfi 1 F1 rfl)
    obtain ⟨d, gd, rd⟩ := h2 H enc spare held n _ _ (by simpa using hfi 2 F2 rfl)
    refine ⟨mk a b d, hg a b d ga gb gd, ?_⟩
    rw [hf]
    rw [ho.1, List.drop_zero] at ra
    rw [ho.2.1] at rb
    rw [ho.2.2.1, List.take_of_length_le (by rw [List.length_drop]; omega), ← List.drop_drop] at rd
    have e1 := List.take_append_drop (P.cellsOf F0.type) cs
    have e2 := List.take_append_drop (P.cellsOf F1.type) (cs.drop (P.cellsOf F0.type))
    rw [← e1, ← e2]
    exact ra.append (rb.append rd)

theorem rel_agg {r : Reach} {b0 : Nat} {t : TypeId} {fs : Array Field} {v : Value} {xs : List AVal} (ht : P.underlying t = some (.struct fs)) (hv : Value.okWide P w r b0 t v) (h : RelL (topCx w) xs v.cells.toList) : Rel (topCx w) (.agg xs) v := by
  obtain ⟨cs, rfl, _⟩ := okWide_struct ht hv
  exact ⟨cs.toList, rfl, h⟩
theorem rel_one {c : Cx} {x : AVal} {v : Value} (h1 : v.cells.toList = [v]) (h : RelL c [x] v.cells.toList) : Rel c x v := by
  rw [h1] at h
  obtain ⟨y, ys, e, hr, _⟩ := h
  cases e; exact hr

/-! ### Behind the call -/
theorem trodAll_carry {H : Type} {enc : TypeId × Value → H} {w' : World} {spare : Nat → Bool} {held : Bool} : ∀ {ts : List TypeId} {vs : List Value} {ds : List (DataW H)} {ps : List MemPlace},
    DataW.TrodAll enc P w 0 spare held ts vs ds ps → (∀ p ∈ ps, w.sameAt w' p) → DataW.TrodAll enc P w' 0 spare held ts vs ds ps
  | [], [], [], _, h, _ => h
  | _ :: _, _ :: _, _ :: _, _, ⟨p, q, ⟨n, h1⟩, h2, e⟩, hs =>
    ⟨p, q, ⟨n, DataW.trod_carry n _ _ _ h1 fun x hx => hs x (by rw [e]; exact List.mem_append_left _ hx)⟩, trodAll_carry h2 (fun x hx => hs x (by rw [e]; exact List.mem_append_right _ hx)), e⟩

theorem post_law {H : Type} {enc : TypeId × Value → H} {f : Func} {s : ChangeSpec} {apart fresh : Bool} {args : Array Value} {ds gs : List (DataW H)} {before : List MemPlace} {c' : Cx} {tb : TypeId}
    (hl : laidOutB P = true) (hm : mapsRowed P = true) (hz : ((List.range P.types.size).all fun t => match P.underlying t with | some (.slice e) => decide (0 < P.cellsOf e) | _ => true) = true)
    (hts : ∀ t ∈ f.params.toList, t < P.types.size) (hW : DataW.Whole enc P f.params.toList s.vars apart w args.toList ds gs before) (hle : (topCx w).le c') (hb : P.underlying tb = some .bool) (hres : f.resultTypes = #[tb])
    (hvars : s.vars = []) (hfn : gs = [] → s.fn H (ds ++ gs) = { results := [.lit (.bool true)], args := ds }) : s.post enc P f apart fresh false false w args (.bool true) c'.w := by
  have hW' := hW
  obtain ⟨p, q, hA, hV, rfl, hfz, hnd⟩ := hW
  rw [hvars] at hV
  obtain ⟨rfl, rfl⟩ := trodVars_none hV
  have hheap : ∀ i, i < w.heap.size → c'.w.heap[i]? = w.heap[i]? := fun i hi => hle.blk i hi
  have hlt := DataW.TrodAll.lt hA
  have hsame : ∀ x ∈ p, w.sameAt c'.w x := fun x hx => by
    have := hheap _ (hlt x hx)
    cases x with
    | cell b off => exact cell_of_blk (ad := ⟨b, off, none⟩) this
    | map b => exact this
  have hA2 := DataW.TrodAll.respare (spare' := fun b => decide (b < w.heap.size)) (kids_rows hl hm) (slices_full_of P hz) hts hA (fun x hx => by simpa using hlt x hx)
  have hfn := hfn rfl
  refine ⟨ds, [], p ++ [], [], p, [], hW', ?_, ?_, ?_, ?_, fun h => by cases h⟩
  · rw [hfn, hres]
    exact trodAll_cons_mk (shut_bool hb _) trodAll_mk0
  · rw [hfn]; exact trodAll_carry hA2 hsame
  · rw [hfn, hvars]; rfl
  · refine ⟨hle.os, hle.output, fun i hi => ?_⟩
    rw [hheap i hi]
    cases w.heap[i]? with
    | none => rfl
    | some o => cases o <;> first | rfl | exact ⟨rfl, rfl, rfl, fun _ _ => rfl⟩ | exact .inr ⟨rfl, rfl⟩
end
end Go.Av
