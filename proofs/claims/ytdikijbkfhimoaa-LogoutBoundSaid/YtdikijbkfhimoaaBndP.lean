/- All notifications of one session, round after round, plainly. -/
import Derived.Test.YtdikijbkfhimoaaAttP
namespace Go.Proofs.Ytdikijbkfhimoaa
open Go.RowKit Go.Maps

/-- There is the session s alone, begun at t0, with n notifications, each as ok says. -/
structure Bnd (n : Nat) (t0 : Int) (U : Log) (ok : Note → Prop) : Prop where
  st : ∃ x : Ses, alook U sS = some x ∧ (∀ s', s' ≠ sS → alook U s' = none) ∧ x.1 = t0 ∧ x.2.length = n ∧ AUniq x.2 ∧ ∀ p ∈ x.2, ok p.2
theorem Bnd.mono {n : Nat} {t0 : Int} {U : Log} {ok ok' : Note → Prop} (h : Bnd n t0 U ok) (hk : ∀ k, ok k → ok' k) : Bnd n t0 U ok' := by
  obtain ⟨x, h1, h2, h3, h4, h5, h6⟩ := h.st
  exact ⟨x, h1, h2, h3, h4, h5, fun p hp => hk _ (h6 p hp)⟩
theorem bnd_start {cl : List Str} (h : beginE [] sS cl = 0) (now : Int) : Bnd cl.length (lim now) (beginU [] sS cl now) (fun k => k = (0, 0)) := by
  have hcl : listE cl = 0 := by
    unfold beginE at h
    split at h
    · simp [alook] at h
      by_cases hz : listE cl = 0
      · exact hz
      · exact h hz
    · cases h
  unfold beginU
  rw [if_pos h]
  refine ⟨(lim now, freshN cl), by simp [alook], fun s' hs => by simp [alook, Ne.symm hs], rfl, by show (freshN cl).length = _; unfold freshN; exact List.length_map _, freshN_uniq (listE_ok hcl).2.2, fun p hp => ?_⟩
  unfold freshN at hp
  obtain ⟨c, _, rfl⟩ := List.mem_map.1 hp
  rfl
/-- At the beginning of round i of M. -/
def okR (M i : Nat) (k : Note) : Prop := k.1 = 2 ∨ (k.1 = 3 ∧ i = M) ∨ (k = (0, i) ∧ i < M)
/-- While what came out in round i is answered. -/
def okA (M i : Nat) (k : Note) : Prop := k.1 = 2 ∨ k = failN M (1, i) ∨ k = (1, i)
theorem okR_ripe {M i d : Nat} {t0 t : Int} {k : Note} (h : okR M i k) (hr : ripe d t0 t k = true) : k = (0, i) ∧ t0 + (afterN d i : Nat) ≤ t := by
  unfold ripe at hr
  simp at hr
  obtain ⟨h0, hle⟩ := hr
  rcases h with e | ⟨e, _⟩ | ⟨e, _⟩
  · rw [h0] at e; cases e
  · rw [h0] at e; cases e
  · exact ⟨e, by rw [e] at hle; exact hle⟩
/-- Too early: nothing is due, and all stays so. -/
theorem Bnd.early {n M i d : Nat} {t0 t : Int} {U : Log} (h : Bnd n t0 U (okR M i)) (ht : t < t0 + (afterN d i : Nat)) {m : List Pr} (hd : Due d t U m) : m = [] ∧ Bnd n t0 (dueU d t U) (okR M i) := by
  obtain ⟨x, h1, h2, h3, h4, h5, h6⟩ := h.st
  have hnr : ∀ p ∈ x.2, ripe d x.1 t p.2 = false := fun p hp => by
    cases hr : ripe d x.1 t p.2 with
    | false => rfl
    | true =>
      rw [h3] at hr
      have := (okR_ripe (h6 p hp) hr).2
      omega
  constructor
  · refine hd.uniq (NoDue.due ?_)
    rintro s c ⟨y, hy, k, hk, hr⟩
    by_cases hs : s = sS
    · subst hs
      rw [h1] at hy
      injection hy with hy
      subst hy
      rw [hnr _ (alook_some hk)] at hr
      cases hr
    · rw [h2 s hs] at hy
      cases hy
  · refine ⟨dueS d t x, by rw [look_dueU, h1]; rfl, fun s' hs => by rw [look_dueU, h2 s' hs]; rfl, h3, by show (x.2.map _).length = n; rw [List.length_map]; exact h4, auniq_map.2 h5, fun p hp => ?_⟩
    obtain ⟨q, hq, rfl⟩ := List.mem_map.1 hp
    show okR M i (dueN d x.1 t q.2)
    rw [dueN_no (hnr q hq)]
    exact h6 q hq
/-- Of the pairs m that came out in round i, the first j have been answered. -/
structure Mid (n M i : Nat) (t0 : Int) (m : List Pr) (j : Nat) (U : Log) : Prop where
  bnd : Bnd n t0 U (okA M i)
  next : ∀ j' (_ : j ≤ j') (hj : j' < m.length), m[j'].1 = sS ∧ noteAt U m[j'].1 m[j'].2 = some (1, i)
  all : ∀ c, noteAt U sS c = some (1, i) → ∃ j', j ≤ j' ∧ ∃ hj : j' < m.length, m[j'] = (sS, c)
theorem Bnd.due {n M i d : Nat} {t0 : Int} {U : Log} (h : Bnd n t0 U (okR M i)) (hi : i < M) {t : Int} (ht : t = t0 + (afterN d i : Nat)) {m : List Pr} (hd : Due d t U m) : Mid n M i t0 m 0 (dueU d t U) := by
  obtain ⟨x, h1, h2, h3, h4, h5, h6⟩ := h.st
  have hdue : ∀ k, okR M i k → dueN d x.1 t k = if k = (0, i) then (1, i) else k := fun k hk => by
    cases hr : ripe d x.1 t k with
    | true =>
      have hr2 := hr
      rw [h3] at hr2
      obtain ⟨e, _⟩ := okR_ripe hk hr2
      rw [dueN_yes hr, if_pos e, e]
    | false =>
      rw [dueN_no hr]
      by_cases e : k = (0, i)
      · exfalso
        rw [e, h3] at hr
        unfold ripe at hr
        simp at hr
        omega
      · rw [if_neg e]
  have hnote : ∀ c, noteAt (dueU d t U) sS c = (alook x.2 c).map (dueN d x.1 t) := fun c => noteAt_due h1
  refine ⟨⟨dueS d t x, by rw [look_dueU, h1]; rfl, fun s' hs => by rw [look_dueU, h2 s' hs]; rfl, h3, by show (x.2.map _).length = n; rw [List.length_map]; exact h4, auniq_map.2 h5, fun p hp => ?_⟩, fun j' _ hj => ?_, fun c hc => ?_⟩
  · obtain ⟨q, hq, rfl⟩ := List.mem_map.1 hp
    show okA M i (dueN d x.1 t q.2)
    have hk := h6 q hq
    rw [hdue _ hk]
    by_cases e : q.2 = (0, i)
    · rw [if_pos e]; exact .inr (.inr rfl)
    · rw [if_neg e]
      rcases hk with e1 | ⟨_, e2⟩ | ⟨e1, _⟩
      · exact .inl e1
      · omega
      · exact absurd e1 e
  · obtain ⟨y, hy, k, hk, hr⟩ := (hd.2 m[j']).1 (List.getElem_mem hj)
    have hs : m[j'].1 = sS := by
      by_cases hs : m[j'].1 = sS
      · exact hs
      · rw [h2 _ hs] at hy; cases hy
    rw [hs] at hy ⊢
    rw [h1] at hy
    injection hy with hy
    subst hy
    refine ⟨rfl, ?_⟩
    rw [hnote, hk, Option.map_some, dueN_yes hr]
    rw [h3] at hr
    have e : k = (0, i) := (okR_ripe (h6 _ (alook_some hk)) hr).1
    rw [e]
  · rw [hnote, Option.map_eq_some_iff] at hc
    obtain ⟨k, hk, e⟩ := hc
    have hok := h6 _ (alook_some hk)
    rw [hdue _ hok] at e
    have e0 : k = (0, i) := by
      by_cases e0 : k = (0, i)
      · exact e0
      · rw [if_neg e0] at e
        rw [e] at hok
        rcases hok with e1 | ⟨e1, _⟩ | ⟨e1, _⟩
        · cases e1
        · cases e1
        · injection e1 with e1; cases e1
    have hin : (sS, c) ∈ m := by
      rw [hd.2]
      refine ⟨x, h1, k, hk, ?_⟩
      rw [e0, h3]
      unfold ripe
      simp
      omega
    obtain ⟨j', hj, e⟩ := List.getElem_of_mem hin
    exact ⟨j', Nat.zero_le _, hj, e⟩
theorem Mid.answer {n M i : Nat} {t0 : Int} {m : List Pr} {j : Nat} {U : Log} (h : Mid n M i t0 m j U) (hs : m.Pairwise pairLt) (hj : j < m.length) (f : Note → Note) (hf : f (1, i) = failN M (1, i) ∨ (f (1, i)).1 = 2) (hne : f (1, i) ≠ (1, i)) : endE U m[j].1 m[j].2 = 0 ∧ Mid n M i t0 m (j + 1) (endU f U m[j].1 m[j].2) := by
  obtain ⟨e1, hn⟩ := h.next j (Nat.le_refl _) hj
  refine ⟨endE_out hn, ?_⟩
  rw [endU_out hn]
  obtain ⟨x, h1, h2, h3, h4, h5, h6⟩ := h.bnd.st
  rw [e1] at hn ⊢
  have hx : alook x.2 m[j].2 = some (1, i) := by rw [noteAt_some h1] at hn; exact hn
  refine ⟨⟨(x.1, aput x.2 m[j].2 (f (1, i))), by rw [look_setU h1, if_pos rfl], fun s' hs' => by rw [look_setU h1, if_neg (fun e => hs' e.symm)]; exact h2 s' hs', h3, by show (aput x.2 m[j].2 (f (1, i))).length = n; rw [aput_len, hx]; exact h4, aput_uniq h5 _ _, fun p hp => ?_⟩, fun j' hj' hl => ?_, fun c hc => ?_⟩
  · rcases aput_mem3 hp with rfl | ⟨hq, _⟩
    · rcases hf with hf | hf
      · exact .inr (.inl hf)
      · exact .inl hf
    · exact h6 p hq
  · obtain ⟨k1, k2⟩ := h.next j' (by omega) hl
    refine ⟨k1, ?_⟩
    rw [noteAt_set h1, if_neg]
    · exact k2
    · rintro ⟨_, e⟩
      have hlt := List.pairwise_iff_getElem.1 hs j j' hj hl (by omega)
      have ee : m[j] = m[j'] := Prod.ext (e1.trans k1.symm) e
      rw [ee] at hlt
      exact pairLt_irrefl _ hlt
  · rw [noteAt_set h1] at hc
    by_cases e : sS = sS ∧ m[j].2 = c
    · rw [if_pos e] at hc
      injection hc with hc
      exact absurd hc hne
    · rw [if_neg e] at hc
      obtain ⟨j', k1, k2, k3⟩ := h.all c hc
      refine ⟨j', ?_, k2, k3⟩
      have : j' ≠ j := fun e2 => by
        subst e2
        exact e ⟨rfl, by rw [k3]⟩
      omega
theorem Mid.over {n M i : Nat} {t0 : Int} {m : List Pr} {U : Log} (h : Mid n M i t0 m m.length U) (hi : i < M) : Bnd n t0 U (okR M (i + 1)) := by
  obtain ⟨x, h1, h2, h3, h4, h5, h6⟩ := h.bnd.st
  refine ⟨x, h1, h2, h3, h4, h5, fun p hp => ?_⟩
  rcases h6 p hp with e | e | e
  · exact .inl e
  · unfold failN at e
    split at e
    · rename_i hm
      exact .inr (.inl ⟨by rw [e], hm⟩)
    · rename_i hm
      have hm' : ¬ i + 1 = M := hm
      exact .inr (.inr ⟨e, by omega⟩)
  · exfalso
    have hn : noteAt U sS p.1 = some (1, i) := by rw [noteAt_some h1, alook_of_mem h5 (show (p.1, p.2) ∈ x.2 from hp), e]
    obtain ⟨j', k1, k2, _⟩ := h.all p.1 hn
    omega
theorem Bnd.finish {n M : Nat} {t0 : Int} {U : Log} (h : Bnd n t0 U (okR M M)) : (statS U sS).2.2 = 0 ∧ (statS U sS).1 + (statS U sS).2.1 = n ∧ (givenL U sS).length = (statS U sS).2.1 := by
  obtain ⟨x, h1, h2, h3, h4, h5, h6⟩ := h.st
  have hk : ∀ p ∈ x.2, p.2.1 = 2 ∨ p.2.1 = 3 := fun p hp => by
    rcases h6 p hp with e | ⟨e, _⟩ | ⟨_, e⟩
    · exact .inl e
    · exact .inr e
    · omega
  have hsum : ∀ N : Notes, (∀ p ∈ N, p.2.1 = 2 ∨ p.2.1 = 3) → cntS 2 N + cntS 3 N = N.length := by
    intro N hN
    induction N with
    | nil => rfl
    | cons a r ih =>
      have ih := ih (fun p hp => hN p (List.mem_cons_of_mem _ hp))
      unfold cntS at ih ⊢
      rw [List.filter_cons, List.filter_cons]
      rcases hN a (List.mem_cons_self ..) with e | e
      · simp [e]; omega
      · simp [e]; omega
  have hs := hsum x.2 hk
  have hst : statS U sS = (cntS 2 x.2, cntS 3 x.2, x.2.length - cntS 2 x.2 - cntS 3 x.2) := by unfold statS; rw [h1]
  have hg : givenL U sS = delP (notG x.2) (keysS x.2) := by unfold givenL; rw [h1]
  rw [hst, hg, given_len h5]
  refine ⟨by dsimp only; omega, by dsimp only; omega, rfl⟩
theorem len_le_of_sub {α : Type} [DecidableEq α] : ∀ {m L : List α}, m.Pairwise (· ≠ ·) → (∀ x ∈ m, x ∈ L) → m.length ≤ L.length
  | [], _, _, _ => Nat.zero_le _
  | a :: m, L, hp, hs => by
    obtain ⟨h1, h2⟩ := List.pairwise_cons.1 hp
    have ha := hs a (List.mem_cons_self ..)
    have ih := len_le_of_sub (L := L.erase a) h2 (fun x hx => (List.mem_erase_of_ne (h1 x hx).symm).2 (hs x (List.mem_cons_of_mem _ hx)))
    rw [List.length_erase_of_mem ha] at ih
    have : 0 < L.length := List.length_pos_of_mem ha
    rw [List.length_cons]
    omega
theorem Mid.len {n M i : Nat} {t0 : Int} {m : List Pr} {U : Log} (h : Mid n M i t0 m 0 U) (hs : m.Pairwise pairLt) : m.length ≤ n := by
  obtain ⟨x, h1, _, _, h4, _, _⟩ := h.bnd.st
  have hne : m.Pairwise (· ≠ ·) := hs.imp (fun {a b} (hab : pairLt a b) (e : a = b) => pairLt_irrefl b (by rw [e] at hab; exact hab))
  have := len_le_of_sub (L := x.2.map fun q => (sS, q.1)) hne (fun p hp => by
    obtain ⟨j, hj, rfl⟩ := List.getElem_of_mem hp
    obtain ⟨k1, k2⟩ := h.next j (Nat.zero_le _) hj
    rw [k1, noteAt_some h1] at k2
    exact List.mem_map.2 ⟨(m[j].2, (1, i)), alook_some k2, Prod.ext k1.symm rfl⟩)
  rw [List.length_map] at this
  omega
theorem mod_eq (x : Int) (k : Nat) (hk : 0 < k) (hk2 : k ≤ 100000) : ∃ M : Nat, wrap64 (1 + (wrap64 (x.tmod k + k)).tmod k) = (M : Int) ∧ 1 ≤ M ∧ M ≤ k := by
  have hk' : (0 : Int) < k := by omega
  have h1 : x.tmod k < k := Int.tmod_lt_of_pos x hk'
  have h2 : -(k : Int) < x.tmod k := by
    have h := Int.tmod_lt_of_pos (-x) hk'
    rw [Int.neg_tmod] at h
    omega
  have e1 : wrap64 (x.tmod k + k) = x.tmod k + k := by unfold wrap64; omega
  rw [e1]
  have e2 : (x.tmod k + k).tmod k = (x.tmod k + k) % k := Int.tmod_eq_emod_of_nonneg (by omega)
  rw [e2]
  have h3 := Int.emod_nonneg (x.tmod k + k) (show (k : Int) ≠ 0 by omega)
  have h4 := Int.emod_lt_of_pos (x.tmod k + k) hk'
  generalize (x.tmod k + k) % (k : Int) = r at *
  refine ⟨(1 + r).toNat, ?_, by omega, by omega⟩
  unfold wrap64
  omega
end Go.Proofs.Ytdikijbkfhimoaa
