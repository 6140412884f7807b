/- The cars by their favourites: the program's stable sort and the reference's insertion come to one list. Conditions: at most 8 cars, favourites from 0 to 99. -/
import Derived.Test.YtdhfildgjmkgaaaPAllx1
import Derived.Test.YtdhfildgjmkgaaaBaseX
import Derived.Test.YtdhfildgjmkgaaaHandF
namespace Go.Proofs.Ytdhfildgjmkgaaa.Plain
open Go.RowKit Go.Proofs.YtdhfildgjmkgaaaW.PrintWords Go.Proofs.YtdhfildgjmkgaaaW.PrintLast Go.Proofs.Ytdhfildgjmkgaaa.Hand Go.Proofs.Ytdhfildgjmkgaaa.PAll
set_option linter.unusedVariables false
set_option linter.unusedSimpArgs false

/-- A car's favourite and number in one. -/
def code (l : List Int) (i : Int) : Int := rd l i * 8 + i
/-- The cars' numbers by their favourites. -/
def fairS (l : List Int) : List Int := (srt ((iota 0 l.length).map (code l))).map fun c => c % 8
theorem fair_unique (l out : List Int) (h8 : l.length ≤ 8) (hs : (out.map (code l)).Pairwise (· ≤ ·)) (hp : out.Perm (iota 0 l.length)) : out = fairS l := by
  unfold fairS
  rw [← srt_unique (hp.map (code l)) hs, List.map_map]
  have e : out.map ((fun c => c % 8) ∘ code l) = out.map id := by
    refine List.map_congr_left fun i hi => ?_
    have := (iota_mem _ i).1 (hp.mem_iff.1 hi)
    show (rd l i * 8 + i) % 8 = i
    omega
  rw [e, List.map_id]
theorem put_perm (out : List Int) (x : Int) (k : Nat) : ((out.take k ++ [x]) ++ out.drop k).Perm (out ++ [x]) := by
  rw [List.append_assoc]
  refine (List.Perm.append_left _ List.perm_append_comm).trans ?_
  rw [← List.append_assoc, List.take_append_drop]
theorem own_eq (l : List Int) (hs : l.length ≤ 1099511627776) : spec_l1Own.f l = some l := by
  unfold spec_l1Own.f
  simp only [Option.bind_some, List.nil_append]
  rw [if_pos (by simp; omega)]
theorem iota_snoc (n : Nat) : iota 0 n ++ [(n : Int)] = iota 0 (n + 1) := by
  rw [iota_succ]
  congr 2
  omega
theorem vaFair_l (l : List Int) (h8 : l.length ≤ 8) (hx : ∀ x ∈ l, 0 ≤ x ∧ x < 100) : ∀ (d n : Nat) (out : List Int), n + d = l.length → out.length = n → (out.map (code l)).Pairwise (· ≤ ·) → out.Perm (iota 0 n) →
    Ev (fun k => spec_vaFair.l0 k l out l (l.length : Int) (n : Int)) (fairS l) := by
  intro d
  induction d with
  | zero =>
    intro n out hn ho hs hp
    obtain rfl : n = l.length := by omega
    refine Ev.step (f := fun _ => some (fairS l)) (fun k => ?_) (Ev.now _)
    rw [spec_vaFair.l0, if_neg (by omega), fair_unique l out h8 hs hp]
  | succ d ih =>
    intro n out hn ho hs hp
    have h1 : n < l.length := by omega
    have hb := hx l[n] (List.getElem_mem h1)
    have put : ∀ j : Nat, j ≤ out.length → (∀ y ∈ (out.map (code l)).take j, y ≤ code l (n : Int)) → (∀ h : j < (out.map (code l)).length, code l (n : Int) ≤ (out.map (code l))[j]) →
        Ev (fun k => spec_vaFair.l0 k l ((out.take j ++ [(n : Int)]) ++ out.drop j) l (l.length : Int) ((n + 1 : Nat) : Int)) (fairS l) := by
      intro j hj h2 h3
      have h4 := (put_sorted (k := j) (by simpa using hj) hs h2 h3).1
      refine ih (n + 1) _ (by omega) (by simp; omega) ?_ ?_
      · rw [List.map_append, List.map_append, List.map_take, List.map_drop]
        exact h4
      · refine (put_perm out (n : Int) j).trans ?_
        rw [← iota_snoc]
        exact hp.append_right _
    have inner : ∀ (e j : Nat), j + e = out.length → (∀ y ∈ (out.map (code l)).take j, y ≤ code l (n : Int)) → Ev (fun k => spec_vaFair.l1 k l out (n : Int) l[n] (j : Int) l (l.length : Int) (n : Int)) (fairS l) := by
      intro e
      induction e with
      | zero =>
        intro j hj hy
        refine Ev.step (fun k => ?_) (put j (by omega) hy (fun h => absurd h (by simp; omega)))
        rw [spec_vaFair.l1, if_neg (by omega), if_pos (by omega), if_pos (by omega), Int.toNat_natCast, own_eq _ (by simp; omega)]
        simp only [Option.bind_some]
        rw [if_pos (by simp; omega), if_pos (by simp; omega), wrap_succ n (by omega)]
      | succ e ihe =>
        intro j hj hy
        have hj1 : j < out.length := by omega
        have ho1 := (iota_mem _ out[j]).1 (hp.mem_iff.1 (List.getElem_mem hj1))
        obtain ⟨o, hoe⟩ := Int.eq_ofNat_of_zero_le ho1.1
        have hol : o < l.length := by omega
        have hbo := hx l[o] (List.getElem_mem hol)
        have ec : code l out[j] = l[o] * 8 + (o : Int) := by unfold code; rw [hoe, rd_nat l o hol]
        have en : code l (n : Int) = l[n] * 8 + (n : Int) := by unfold code; rw [rd_nat l n h1]
        by_cases hle : l[o] ≤ l[n]
        · refine Ev.step (fun k => ?_) (ihe (j + 1) (by omega) ?_)
          · rw [spec_vaFair.l1, if_pos (by omega), if_pos (by omega), rd_nat out j hj1, hoe, if_pos (by omega), if_pos (by omega), rd_nat l o hol, if_pos hle, wrap_succ j (by omega)]
          · intro y hy2
            rw [List.take_succ_eq_append_getElem (by simpa using hj1), List.mem_append, List.mem_singleton] at hy2
            rcases hy2 with hy2 | rfl
            · exact hy y hy2
            · rw [List.getElem_map, ec, en]
              omega
        · refine Ev.step (fun k => ?_) (put j (by omega) hy (fun h => by rw [List.getElem_map, ec, en]; omega))
          rw [spec_vaFair.l1, if_pos (by omega), if_pos (by omega), rd_nat out j hj1, hoe, if_pos (by omega), if_pos (by omega), rd_nat l o hol, if_neg hle, if_pos (by omega), Int.toNat_natCast, own_eq _ (by simp; omega)]
          simp only [Option.bind_some]
          rw [if_pos (by simp; omega), if_pos (by simp; omega), wrap_succ n (by omega)]
    refine Ev.step (fun k => ?_) (inner out.length 0 (by omega) (by simp))
    rw [spec_vaFair.l0, if_pos (by omega), if_pos (by omega), if_pos (by omega), rd_nat l n h1]
    rfl
theorem vaFair_ev (l : List Int) (h8 : l.length ≤ 8) (hx : ∀ x ∈ l, 0 ≤ x ∧ x < 100) : Ev (fun k => spec_vaFair.f k l) (fairS l) := by
  unfold spec_vaFair.f
  exact vaFair_l l h8 hx l.length 0 [] (by omega) rfl List.Pairwise.nil (by simp [iota])

/-! ### the program's stable sort -/
theorem swp_list {α : Type} [Inhabited α] (Q S : List α) (y x : α) (d : Array α) (hd : d.toList = Q ++ y :: x :: S) : (Go.Sort.swp d (Q.length + 1) Q.length).toList = Q ++ x :: y :: S := by
  have hsz : d.size = Q.length + (S.length + 2) := by rw [← Array.length_toList, hd]; simp
  have h1 : d[Q.length + 1]! = x := by
    rw [getElem!_pos d _ (by omega), ← Array.getElem_toList]
    simp [hd, List.getElem_append]
  have h2 : d[Q.length]! = y := by
    rw [getElem!_pos d _ (by omega), ← Array.getElem_toList]
    simp [hd, List.getElem_append]
  unfold Go.Sort.swp
  simp only [h1, h2, Array.toList_setIfInBounds, hd]
  rw [List.set_append_right _ _ (by omega), Nat.add_sub_cancel_left]
  first
  | (rw [List.set_append_right _ _ (by omega), Nat.sub_self]; rfl)
  | simp
theorem insInner_list {α : Type} [Inhabited α] (lt : α → α → Bool) (x : α) : ∀ (j : Nat) (Q S : List α) (d : Array α), Q.length = j → d.toList = Q ++ x :: S →
    ∃ Q1 Q2, Q = Q1 ++ Q2 ∧ (Go.Sort.insInner lt 0 j d).toList = Q1 ++ x :: (Q2 ++ S) ∧ (∀ y ∈ Q2, lt x y = true) ∧ (Q1 = [] ∨ ∃ Q' z, Q1 = Q' ++ [z] ∧ lt x z = false) := by
  intro j
  induction j with
  | zero =>
    intro Q S d hQ hd
    have e : Q = [] := List.eq_nil_of_length_eq_zero hQ
    subst e
    exact ⟨[], [], rfl, by simpa [Go.Sort.insInner] using hd, by simp, .inl rfl⟩
  | succ j ih =>
    intro Q S d hQ hd
    obtain ⟨Q', y, rfl⟩ : ∃ Q' y, Q = Q' ++ [y] := ⟨Q.dropLast, Q.getLast (by intro e; simp [e] at hQ), (List.dropLast_concat_getLast _).symm⟩
    have hj : Q'.length = j := by simpa using hQ
    subst hj
    have hd' : d.toList = Q' ++ y :: x :: S := by rw [hd]; simp
    have hsz : d.size = Q'.length + (S.length + 2) := by rw [← Array.length_toList, hd']; simp
    have h1 : d[Q'.length + 1]! = x := by
      rw [getElem!_pos d _ (by omega), ← Array.getElem_toList]
      simp [hd', List.getElem_append]
    have h2 : d[Q'.length]! = y := by
      rw [getElem!_pos d _ (by omega), ← Array.getElem_toList]
      simp [hd', List.getElem_append]
    rw [Go.Sort.insInner, h1, h2]
    cases hlt : lt x y with
    | true =>
      rw [if_pos (by simp)]
      obtain ⟨Q1, Q2, e1, e2, e3, e4⟩ := ih Q' (y :: S) (Go.Sort.swp d (Q'.length + 1) Q'.length) rfl (swp_list Q' S y x d hd')
      refine ⟨Q1, Q2 ++ [y], by rw [e1, List.append_assoc], by rw [e2]; simp, fun z hz => ?_, e4⟩
      rw [List.mem_append, List.mem_singleton] at hz
      rcases hz with hz | rfl
      · exact e3 z hz
      · exact hlt
    | false =>
      rw [if_neg (by simp)]
      exact ⟨Q' ++ [y], [], by simp, by rw [hd]; simp, by simp, .inr ⟨Q', y, rfl, hlt⟩⟩

def valF {n : Nat} (x : Fin n) : Int := (x.1 : Int)
theorem lt_iff (l : List Int) (hx : ∀ x ∈ l, 0 ≤ x ∧ x < 100) (x y : Fin l.length) : ltOf (cfF l) x y = true ↔ l[x.1] < l[y.1] := by
  have h1 := hx l[x.1] (List.getElem_mem x.2)
  have h2 := hx l[y.1] (List.getElem_mem y.2)
  unfold ltOf cfF
  rw [wrap64_in _ (by omega) (by omega), decide_eq_true_eq]
  omega
theorem outer_list (l : List Int) (h8 : l.length ≤ 8) (hx : ∀ x ∈ l, 0 ≤ x ∧ x < 100) [Inhabited (Fin l.length)] : ∀ (e i : Nat) (d : Array (Fin l.length)) (P : List (Fin l.length)), i + e = l.length → d.toList = P ++ (List.ofFn fun i : Fin l.length => i).drop i → P.length = i →
    (P.map fun x => code l (valF x)).Pairwise (· ≤ ·) → (P.map valF).Perm (iota 0 i) →
    (((Go.Sort.insOuter (ltOf (cfF l)) 0 l.length i d).toList.map valF).map (code l)).Pairwise (· ≤ ·) ∧ ((Go.Sort.insOuter (ltOf (cfF l)) 0 l.length i d).toList.map valF).Perm (iota 0 l.length) := by
  intro e
  induction e with
  | zero =>
    intro i d P hi hd hl hs hp
    obtain rfl : i = l.length := by omega
    rw [Go.Sort.insOuter, if_neg (by omega), hd, List.drop_eq_nil_of_le (by simp), List.append_nil]
    exact ⟨by rw [List.map_map]; exact hs, hp⟩
  | succ e ih =>
    intro i d P hi hd hl hs hp
    have hil : i < l.length := by omega
    rw [Go.Sort.insOuter, if_pos hil]
    have hdr : (List.ofFn fun i : Fin l.length => i).drop i = ⟨i, hil⟩ :: (List.ofFn fun i : Fin l.length => i).drop (i + 1) := by
      rw [List.drop_eq_getElem_cons (by simpa using hil)]
      simp
    rw [hdr] at hd
    obtain ⟨Q1, Q2, e1, e2, e3, e4⟩ := insInner_list (ltOf (cfF l)) ⟨i, hil⟩ i P _ d hl hd
    have hz : ∀ z ∈ P, z.1 < i := by
      intro z hz
      have := (iota_mem i (valF z)).1 (hp.mem_iff.1 (List.mem_map_of_mem hz))
      unfold valF at this
      omega
    have cz : ∀ z : Fin l.length, code l (valF z) = l[z.1] * 8 + (z.1 : Int) := by
      intro z
      unfold code valF
      rw [rd_nat l z.1 z.2]
    have hs2 := hs
    rw [e1, List.map_append, List.pairwise_append] at hs2
    refine ih (i + 1) _ (Q1 ++ ⟨i, hil⟩ :: Q2) (by omega) (by rw [e2]; simp) (by rw [e1] at hl; simp at hl ⊢; omega) ?_ ?_
    · rw [List.map_append, List.map_cons, List.pairwise_append, List.pairwise_cons]
      refine ⟨hs2.1, ⟨fun b hb => ?_, hs2.2.1⟩, fun a ha b hb => ?_⟩
      · obtain ⟨y, hy, rfl⟩ := List.mem_map.1 hb
        have h1 := (lt_iff l hx ⟨i, hil⟩ y).1 (e3 y hy)
        rw [cz, cz]
        have := y.2
        simp only at h1 ⊢
        omega
      · rcases List.mem_cons.1 hb with rfl | hb
        · rcases e4 with e4 | ⟨Q', z, e4, e5⟩
          · rw [e4] at ha
            simp at ha
          · have h1 : ¬ l[i] < l[z.1] := fun h => by
              have := (lt_iff l hx ⟨i, hil⟩ z).2 h
              rw [e5] at this
              cases this
            have h2 := hz z (by rw [e1, e4]; simp)
            have h3 : code l (valF z) ≤ code l (valF (⟨i, hil⟩ : Fin l.length)) := by
              rw [cz, cz]
              simp only
              omega
            refine Int.le_trans ?_ h3
            have h4 := hs2.1
            rw [e4, List.map_append, List.pairwise_append] at h4
            rw [e4, List.map_append, List.mem_append] at ha
            rcases ha with ha | ha
            · exact h4.2.2 a ha _ (by simp)
            · simp at ha
              rw [ha]
              exact Int.le_refl _
        · exact hs2.2.2 a ha b hb
    · rw [← iota_snoc, List.map_append, List.map_cons]
      refine List.perm_middle.trans ?_
      rw [← List.map_append, ← e1]
      refine (List.perm_append_singleton _ _).symm.trans ?_
      exact hp.append_right _
theorem fairL_eq (l : List Int) (h8 : l.length ≤ 8) (hx : ∀ x ∈ l, 0 ≤ x ∧ x < 100) : fairL l = fairS l := by
  by_cases h0 : 0 < l.length
  · letI : Inhabited (Fin l.length) := ⟨⟨0, h0⟩⟩
    have h1 := outer_list l h8 hx (l.length - 1) 1 (Array.ofFn fun i : Fin l.length => i) [⟨0, h0⟩] (by omega) (by
      rw [Array.toList_ofFn]
      have := List.drop_eq_getElem_cons (l := List.ofFn fun i : Fin l.length => i) (i := 0) (by simpa using h0)
      rw [List.drop_zero] at this
      rw [this]
      simp) rfl (by simp) (by simp [valF, iota])
    have e : fairL l = (Go.Sort.insOuter (ltOf (cfF l)) 0 l.length 1 (Array.ofFn fun i : Fin l.length => i)).toList.map valF := by
      unfold fairL fairA
      rw [dif_pos h0, Array.toList_map]
      rfl
    rw [e]
    exact fair_unique l _ h8 h1.1 h1.2
  · have e : l = [] := List.eq_nil_of_length_eq_zero (by omega)
    subst e
    simp [fairL, fairA, fairS, srt, iota]
theorem fair_ev (l : List Int) (h8 : l.length ≤ 8) (hx : ∀ x ∈ l, 0 ≤ x ∧ x < 100) : impl_fair.f l = some (fairS l) := by
  unfold impl_fair.f
  rw [if_pos h8, fairL_eq l h8 hx]
theorem fairS_perm (l : List Int) (h8 : l.length ≤ 8) (hx : ∀ x ∈ l, 0 ≤ x ∧ x < 100) : (fairS l).Perm (iota 0 l.length) := by
  by_cases h0 : 0 < l.length
  · letI : Inhabited (Fin l.length) := ⟨⟨0, h0⟩⟩
    have h1 := outer_list l h8 hx (l.length - 1) 1 (Array.ofFn fun i : Fin l.length => i) [⟨0, h0⟩] (by omega) (by
      rw [Array.toList_ofFn]
      have := List.drop_eq_getElem_cons (l := List.ofFn fun i : Fin l.length => i) (i := 0) (by simpa using h0)
      rw [List.drop_zero] at this
      rw [this]
      simp) rfl (by simp) (by simp [valF, iota])
    rw [fair_unique l _ h8 h1.1 h1.2] at h1
    exact h1.2
  · have e : l = [] := List.eq_nil_of_length_eq_zero (by omega)
    subst e
    simp [fairS, srt, iota]
end Go.Proofs.Ytdhfildgjmkgaaa.Plain
