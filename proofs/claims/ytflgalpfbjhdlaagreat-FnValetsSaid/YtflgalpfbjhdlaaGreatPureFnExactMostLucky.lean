/- The pure statement of the law FnExactMostLucky: the program's MostLucky and the reference's one answer alike; no condition beside the row's own. -/
import Derived.Test.YtflgalpfbjhdlaaGreatPAllx2
import Derived.Test.YtflgalpfbjhdlaaGreatPAllx4
import Derived.Test.YtflgalpfbjhdlaaGreatBaseX
import Derived.Test.YtflgalpfbjhdlaaGreatHandE
import Derived.Test.YtflgalpfbjhdlaaGreatBaseB
import Derived.Test.YtflgalpfbjhdlaaGreatBaseK
namespace Go.Proofs.YtflgalpfbjhdlaaGreat.Pure
open Go.RowKit Go.Proofs.YtflgalpfbjhdlaaGreatW.PrintWords Go.Proofs.YtflgalpfbjhdlaaGreatW.PrintLast Go.Proofs.YtflgalpfbjhdlaaGreat.Hand Go.Proofs.YtflgalpfbjhdlaaGreat.PAll Go.Proofs.YtflgalpfbjhdlaaGreat.Plain
set_option linter.unusedVariables false
namespace MostLucky
theorem sorted_eq (l : List Int) (hs : l.length ≤ 1099511627776) : impl_sorted.f l = some (srt l) := by
  unfold impl_sorted.f
  rw [if_pos hs]
  rfl
def all (l : List Int) (p : Int) : Bool := good l p && !decide ((-1 : Int) ∈ sdrive p [] l)
theorem doPark_ev (l : List Int) (p : Int) : Ev (fun k => impl_doPark.f k l p) (all l p) := by
  unfold impl_doPark.f impl_DriveCars.f all
  cases h : good l p with
  | false =>
    refine Ev.bind (a := ([], false)) (Ev.bindc (areFav_eq l p) ?_) (Ev.now _)
    rw [h]
    exact Ev.neg (by decide) (Ev.now _)
  | true =>
    have hp := good_places h
    have h8 := good_cars h
    have hd := drive_ev l p (by omega) (by omega) (by omega) (fun x hx => by have := good_in h x hx; omega)
    by_cases hm : (-1 : Int) ∈ sdrive p [] l
    · rw [if_pos hm] at hd
      rw [decide_eq_true hm]
      refine Ev.bind (a := ([], false)) (Ev.bindc (areFav_eq l p) ?_) (Ev.now _)
      rw [h]
      exact Ev.pos rfl (Ev.bind hd (Ev.now _))
    · rw [if_neg hm] at hd
      rw [decide_eq_false hm]
      refine Ev.bind (a := (sdrive p [] l, true)) (Ev.bindc (areFav_eq l p) ?_) (Ev.now _)
      rw [h]
      exact Ev.pos rfl (Ev.bind hd (Ev.now _))
/-- A number put into an increasing list, if it is not there. -/
theorem put_ev (out : List Int) (x : Int) (hl : out.length ≤ 1000) (hs : out.Pairwise (· < ·)) : ∃ r : List Int, Ev (fun k => spec_l1Put.f k out x) r ∧ r.Pairwise (· < ·) ∧ (∀ y, y ∈ r ↔ y ∈ out ∨ y = x) ∧ r.length ≤ out.length + 1 := by
  have split : ∀ j : Nat, j ≤ out.length → (∀ y ∈ out.take j, y < x) → (∀ y ∈ out.drop j, x < y) → ((out.take j ++ [x]) ++ out.drop j).Pairwise (· < ·) ∧ (∀ y, y ∈ (out.take j ++ [x]) ++ out.drop j ↔ y ∈ out ∨ y = x) ∧ ((out.take j ++ [x]) ++ out.drop j).length ≤ out.length + 1 := by
    intro j hj h1 h2
    have hp := hs
    rw [← List.take_append_drop j out, List.pairwise_append] at hp
    refine ⟨?_, fun y => ?_, by simp; omega⟩
    · rw [List.append_assoc, List.pairwise_append, List.singleton_append, List.pairwise_cons]
      refine ⟨hp.1, ⟨h2, hp.2.1⟩, fun a ha b hb => ?_⟩
      rcases List.mem_cons.1 hb with rfl | hb
      · exact h1 a ha
      · exact hp.2.2 a ha b hb
    · have e : y ∈ out ↔ y ∈ out.take j ∨ y ∈ out.drop j := by rw [← List.mem_append, List.take_append_drop]
      rw [e, List.mem_append, List.mem_append, List.mem_singleton]
      constructor
      · rintro ((h | h) | h)
        · exact .inl (.inl h)
        · exact .inr h
        · exact .inl (.inr h)
      · rintro ((h | h) | h)
        · exact .inl (.inl h)
        · exact .inr h
        · exact .inl (.inr h)
  unfold spec_l1Put.f
  have loop : ∀ (e j : Nat), j + e = out.length → (∀ y ∈ out.take j, y < x) → ∃ r : List Int, Ev (fun k => spec_l1Put.l0 k out x (j : Int)) r ∧ r.Pairwise (· < ·) ∧ (∀ y, y ∈ r ↔ y ∈ out ∨ y = x) ∧ r.length ≤ out.length + 1 := by
    intro e
    induction e with
    | zero =>
      intro j hj hy
      have h2 := split j (by omega) hy (fun y hy2 => by rw [List.drop_eq_nil_of_le (by omega)] at hy2; cases hy2)
      refine ⟨_, Ev.step (f := fun _ => some ((out.take j ++ [x]) ++ out.drop j)) (fun k => ?_) (Ev.now _), h2⟩
      rw [spec_l1Put.l0, if_neg (by omega)]
      simp only [Option.bind_some, List.nil_append, Int.toNat_natCast]
      rw [if_pos (by omega), if_pos (by omega)]
      try simp only [Option.bind_some]
      rw [if_pos (by simp; omega)]
      try simp only [Option.bind_some]
      rw [if_pos (by simp; omega)]
      try simp only [Option.bind_some]
      rw [if_pos (by simp; omega)]
    | succ e ihe =>
      intro j hj hy
      have hj1 : j < out.length := by omega
      rcases Int.lt_trichotomy out[j] x with h | h | h
      · obtain ⟨r, h1, h2⟩ := ihe (j + 1) (by omega) (fun y hy2 => by
          rw [List.take_succ_eq_append_getElem hj1, List.mem_append, List.mem_singleton] at hy2
          rcases hy2 with hy2 | rfl
          · exact hy y hy2
          · exact h)
        refine ⟨r, Ev.step (fun k => ?_) h1, h2⟩
        rw [spec_l1Put.l0, if_pos (by omega), if_pos (by omega), rd_nat out j hj1, if_pos h, wrap_succ j (by omega)]
      · refine ⟨out, Ev.step (f := fun _ => some out) (fun k => ?_) (Ev.now _), hs, fun y => ⟨fun hy2 => .inl hy2, fun hy2 => ?_⟩, by omega⟩
        · rw [spec_l1Put.l0, if_pos (by omega), if_pos (by omega), rd_nat out j hj1, if_neg (by omega), if_pos h]
        · rcases hy2 with hy2 | rfl
          · exact hy2
          · rw [← h]
            exact List.getElem_mem hj1
      · have h2 := split j (by omega) hy (fun y hy2 => by
          have e2 := List.drop_eq_getElem_cons hj1
          have hpd := hs
          rw [← List.take_append_drop j out, List.pairwise_append] at hpd
          have h3 := hpd.2.1
          rw [e2, List.pairwise_cons] at h3
          rw [e2] at hy2
          rcases List.mem_cons.1 hy2 with rfl | hy2
          · exact h
          · exact Int.lt_trans h (h3.1 y hy2))
        refine ⟨_, Ev.step (f := fun _ => some ((out.take j ++ [x]) ++ out.drop j)) (fun k => ?_) (Ev.now _), h2⟩
        rw [spec_l1Put.l0, if_pos (by omega), if_pos (by omega), rd_nat out j hj1, if_neg (by omega), if_neg (by omega)]
        simp only [Option.bind_some, List.nil_append, Int.toNat_natCast]
        rw [if_pos (by omega)]
        try simp only [Option.bind_some]
        rw [if_pos (by simp; omega)]
        try simp only [Option.bind_some]
        rw [if_pos (by simp; omega)]
        try simp only [Option.bind_some]
        rw [if_pos (by simp; omega)]
  exact loop out.length 0 (by omega) (by simp)
theorem count_l0 (l : List Int) (h8 : l.length ≤ 8) : ∀ (d n : Nat) (out : List Int), n + d = l.length → out.length ≤ n → out.Pairwise (· < ·) → (∀ y, y ∈ out ↔ y ∈ l.take n) →
    ∃ r : List Int, Ev (fun k => spec_MostLucky.l0 k out l (l.length : Int) (n : Int)) ((r.length : Int), true) ∧ r.Pairwise (· < ·) ∧ ∀ y, y ∈ r ↔ y ∈ l := by
  intro d
  induction d with
  | zero =>
    intro n out hn ho hs hm
    rw [List.take_of_length_le (by omega)] at hm
    refine ⟨out, Ev.step (f := fun _ => some ((out.length : Int), true)) (fun k => ?_) (Ev.now _), hs, hm⟩
    rw [spec_MostLucky.l0, if_neg (by omega)]
  | succ d ih =>
    intro n out hn ho hs hm
    have h1 : n < l.length := by omega
    obtain ⟨q, q1, q2, q3, q4⟩ := put_ev out l[n] (by omega) hs
    obtain ⟨r, r1, r2⟩ := ih (n + 1) q (by omega) (by omega) q2 (fun y => by rw [q3, hm, List.take_succ_eq_append_getElem h1, List.mem_append, List.mem_singleton])
    refine ⟨r, Ev.step (f := ?f1) (fun k => ?h1) ?g1, r2⟩
    case h1 => rw [spec_MostLucky.l0, if_pos (by omega), if_pos (by omega), if_pos (by omega), rd_nat l n h1, wrap_succ n (by omega)]
    exact Ev.bind q1 r1
/-- Of a sorted list the runs' first ones. -/
theorem compact_sorted (s : List Int) (hs : s.Pairwise (· ≤ ·)) : (Go.Lib.compact s).Nodup ∧ ∀ y, y ∈ Go.Lib.compact s ↔ y ∈ s := by
  have get : ∀ j (h : j < s.length), s.toArray[j]! = s[j] := fun j h => by rw [getElem!_pos _ j (by simpa using h)]; simp
  have main : ∀ m, m ≤ s.length → (Go.Lib.compactUpTo s.toArray m).Pairwise (· < ·) ∧ (∀ y, y ∈ Go.Lib.compactUpTo s.toArray m ↔ y ∈ s.take m) := by
    intro m
    induction m with
    | zero => intro _; simp [Go.Lib.compactUpTo]
    | succ m ih =>
      intro hm
      obtain ⟨h1, h2⟩ := ih (by omega)
      have hlt : m < s.length := by omega
      rw [Go.Lib.compactUpTo_succ, List.take_succ_eq_append_getElem hlt]
      by_cases hk : m = 0 ∨ s[m] ≠ s[m - 1]
      · have e : Go.Lib.keeps s.toArray m = true := by
          unfold Go.Lib.keeps
          rcases hk with hk | hk
          · simp [hk]
          · refine decide_eq_true (.inr ?_)
            rw [get m hlt, get (m - 1) (by omega)]
            exact hk
        rw [if_pos e, get m hlt]
        refine ⟨?_, fun y => by rw [List.mem_append, List.mem_append, h2]⟩
        rw [List.pairwise_append]
        refine ⟨h1, by simp, fun a ha b hb => ?_⟩
        rw [List.mem_singleton] at hb
        subst hb
        have ha2 := (h2 a).1 ha
        obtain ⟨i, hi, rfl⟩ := List.mem_iff_getElem.1 ha2
        rw [List.length_take] at hi
        rw [List.getElem_take]
        have h3 : s[i] ≤ s[m - 1] := by
          rcases Nat.lt_or_ge i (m - 1) with h | h
          · exact (List.pairwise_iff_getElem.1 hs) i (m - 1) (by omega) (by omega) h
          · have : i = m - 1 := by omega
            subst this
            exact Int.le_refl _
        have h4 : s[m - 1] ≤ s[m] := (List.pairwise_iff_getElem.1 hs) (m - 1) m (by omega) hlt (by omega)
        rcases hk with hk | hk
        · omega
        · omega
      · have hm0 : 0 < m := by omega
        have he : s[m] = s[m - 1] := by
          by_cases h : s[m] = s[m - 1]
          · exact h
          · exact absurd (.inr h) hk
        have e : Go.Lib.keeps s.toArray m = false := by
          unfold Go.Lib.keeps
          refine decide_eq_false ?_
          rw [get m hlt, get (m - 1) (by omega)]
          exact hk
        rw [if_neg (by rw [e]; decide), List.append_nil]
        refine ⟨h1, fun y => ?_⟩
        rw [h2, List.mem_append, List.mem_singleton]
        constructor
        · exact .inl
        · rintro (h | rfl)
          · exact h
          · rw [he, List.mem_iff_getElem]
            exact ⟨m - 1, by rw [List.length_take]; omega, by rw [List.getElem_take]⟩
  obtain ⟨h1, h2⟩ := main s.length (Nat.le_refl _)
  rw [List.take_of_length_le (Nat.le_refl _)] at h2
  exact ⟨h1.imp (fun h => by omega), h2⟩
theorem both (l : List Int) (p : Int) : ∃ r : Int × Bool, (Ev (fun k => spec_MostLucky.f k l p) r ∧ Ev (fun k => impl_MostLucky.f k l p) r) ∧ r.2 = all l p ∧ (all l p = true → ∃ q : List Int, r.1 = (q.length : Int) ∧ ∀ y ∈ l, y ∈ q) := by
  have hd := doPark_ev l p
  have hg := paGood_ev l p
  unfold spec_MostLucky.f impl_MostLucky.f
  cases h : good l p with
  | false =>
    have e : all l p = false := by unfold all; rw [h]; rfl
    rw [e] at hd
    rw [h] at hg
    refine ⟨(0, false), ⟨Ev.bind hg (Ev.neg (by decide) (Ev.step (f := fun _ => some (0, false)) (fun k => ?_) (Ev.now _))), Ev.bind hd (Ev.const rfl)⟩, e.symm, fun h => absurd (e.symm.trans h) (by decide)⟩
    rw [spec_MostLucky.j0, if_pos rfl]
  | true =>
    rw [h] at hg
    have hp := good_places h
    have h8 := good_cars h
    have ha : Ev (fun k => spec_paAll.f k l p) (all l p) := by
      unfold spec_paAll.f all
      rw [h, Bool.true_and]
      refine Ev.bind (a := sdrive p [] l) ?_ (Ev.bind (l1Has_ev _ _ (by rw [sdrive_length]; simp; omega)) (Ev.now _))
      unfold spec_paDrive.f
      exact paDrive_l p l (by omega) (by omega) (by omega) l [] 0 rfl rfl (by omega) (fun x hx2 => by have := good_in h x hx2; omega)
    cases h2 : all l p with
    | false =>
      rw [h2] at hd ha
      refine ⟨(0, false), ⟨Ev.bind hg (Ev.pos rfl (Ev.bind ha (Ev.step (f := fun _ => some (0, false)) (fun k => ?_) (Ev.now _)))), Ev.bind hd (Ev.const rfl)⟩, rfl, fun h => absurd h (by decide)⟩
      rw [spec_MostLucky.j0, if_pos (by decide)]
    | true =>
      rw [h2] at hd ha
      obtain ⟨r, r1, r2, r3⟩ := count_l0 l h8 l.length 0 [] (by omega) (by simp) List.Pairwise.nil (by simp)
      have hc := compact_sorted (srt l) (srt_sorted l)
      have hn : r.Nodup := r2.imp (fun h => by omega)
      have e1 := nodup_len r (Go.Lib.compact (srt l)) hn (fun x hx => (hc.2 x).2 ((srt_mem l x).2 ((r3 x).1 hx)))
      have e2 := nodup_len (Go.Lib.compact (srt l)) r hc.1 (fun x hx => (r3 x).2 ((srt_mem l x).1 ((hc.2 x).1 hx)))
      refine ⟨((r.length : Int), true), ⟨Ev.bind hg (Ev.pos rfl (Ev.bind ha (Ev.step (f := ?f1) (fun k => ?h1) ?g1))), Ev.bind hd (Ev.const ?_)⟩, rfl, fun _ => ⟨r, rfl, fun y hy => (r3 y).2 hy⟩⟩
      case h1 => rw [spec_MostLucky.j0, if_neg (by decide)]
      · exact r1
      · simp only [if_true, sorted_eq l (show l.length ≤ 1099511627776 by omega), Option.bind_some]
        rw [show (Go.Lib.compact (srt l)).length = r.length by omega]
noncomputable def res (l : List Int) (p : Int) : Int × Bool := Classical.choose (both l p)
theorem spec_ev (l : List Int) (p : Int) : Ev (fun k => spec_MostLucky.f k l p) (res l p) := (Classical.choose_spec (both l p)).1.1
theorem impl_ev (l : List Int) (p : Int) : Ev (fun k => impl_MostLucky.f k l p) (res l p) := (Classical.choose_spec (both l p)).1.2
theorem res_val (l : List Int) (p : Int) : (res l p).2 = all l p ∧ (all l p = true → ∃ q : List Int, (res l p).1 = (q.length : Int) ∧ ∀ y ∈ l, y ∈ q) := (Classical.choose_spec (both l p)).2
end MostLucky
end Go.Proofs.YtflgalpfbjhdlaaGreat.Pure
