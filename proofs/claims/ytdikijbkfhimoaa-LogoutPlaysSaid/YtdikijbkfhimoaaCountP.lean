/- What the calls leave of one session's numbers, plainly. -/
import Derived.Test.YtdikijbkfhimoaaPlain
namespace Go.Proofs.Ytdikijbkfhimoaa
open Go.RowKit Go.Maps

def mineS : Str := [109, 105, 110, 101]
/-- The session "mine" has n clients. -/
def Mine (n : Nat) (U : Log) : Prop := ∃ x, alook U mineS = some x ∧ x.2.length = n
theorem look_begin {U : Log} {s t : Str} {cl : List Str} {now : Int} {x : Ses} (h : alook U t = some x) : alook (beginU U s cl now) t = some x := by
  unfold beginU
  split
  · rw [alook_app, h]; rfl
  · exact h
theorem endU_look {f : Note → Note} {U : Log} {s c t : Str} {x : Ses} (h : alook U t = some x) : ∃ y, alook (endU f U s c) t = some y ∧ y.2.length = x.2.length ∧ (s ≠ t → y = x) := by
  unfold endU
  cases hn : noteAt U s c with
  | none => exact ⟨x, h, rfl, fun _ => rfl⟩
  | some n =>
    dsimp only
    by_cases h1 : n.1 = 1
    · rw [if_pos h1]
      obtain ⟨z, hz, hc⟩ := noteAt_iff.1 hn
      rw [look_setU hz]
      by_cases hs : s = t
      · subst hs
        rw [if_pos rfl]
        rw [hz] at h
        injection h with h
        subst h
        exact ⟨_, rfl, by show (aput z.2 c (f n)).length = _; rw [aput_len, hc]; rfl, fun e => absurd rfl e⟩
      · rw [if_neg hs]
        exact ⟨x, h, rfl, fun _ => rfl⟩
    · rw [if_neg h1]
      exact ⟨x, h, rfl, fun _ => rfl⟩
theorem Mine.play {n most delay : Nat} {U : Log} (h : Mine n U) (x : OpD) : Mine n (playU most delay U x) := by
  obtain ⟨y, hy, hl⟩ := h
  unfold playU
  split
  · exact ⟨y, look_begin hy, hl⟩
  · split
    · exact ⟨dueS delay (lim x.now) y, by rw [look_dueU, hy]; rfl, by show (y.2.map _).length = n; rw [List.length_map]; exact hl⟩
    · split
      · obtain ⟨z, h1, h2, _⟩ := endU_look (f := doneN) (s := x.id) (c := x.cl) hy
        exact ⟨z, h1, h2.trans hl⟩
      · split
        · obtain ⟨z, h1, h2, _⟩ := endU_look (f := failN most) (s := x.id) (c := x.cl) hy
          exact ⟨z, h1, h2.trans hl⟩
        · exact ⟨y, hy, hl⟩
theorem Mine.other {n most delay : Nat} {U : Log} (h : Mine n U) {x : OpD} (h1 : x.id ≠ mineS) (h2 : x.kind ≠ 1) : statS (playU most delay U x) mineS = statS U mineS := by
  obtain ⟨y, hy, hl⟩ := h
  have key : alook (playU most delay U x) mineS = some y := by
    unfold playU
    split
    · exact look_begin hy
    · split
      · obtain ⟨z, k1, _, k3⟩ := endU_look (f := doneN) (s := x.id) (c := x.cl) hy
        rw [k1, k3 h1]
      · split
        · obtain ⟨z, k1, _, k3⟩ := endU_look (f := failN most) (s := x.id) (c := x.cl) hy
          rw [k1, k3 h1]
        · exact hy
  unfold statS
  rw [key, hy]
theorem Mine.sum {n : Nat} {U : Log} (h : Mine n U) : (statS U mineS).1 + (statS U mineS).2.1 + (statS U mineS).2.2 = n := by
  obtain ⟨y, hy, hl⟩ := h
  have := cntS_two y.2
  unfold statS
  rw [hy]
  dsimp only
  omega
theorem notG_mem {N : Notes} (hu : AUniq N) {q : Str × Note} (hq : q ∈ N) : notG N q.1 = !decide (q.2.1 = 3) := by
  unfold notG
  rw [alook_of_mem hu (show (q.1, q.2) ∈ N from hq)]
theorem given_len {N : Notes} (hu : AUniq N) : (delP (notG N) (keysS N)).length = cntS 3 N := by
  unfold delP
  have hp : (keysS N).Perm (N.map (·.1)) := sortS_perm _
  rw [(hp.filter _).length_eq, List.filter_map, List.length_map]
  unfold cntS
  congr 1
  apply List.filter_congr
  intro q hq
  show (!notG N q.1) = decide (q.2.1 = 3)
  rw [notG_mem hu hq, Bool.not_not]
theorem Mine.given {n most delay : Nat} {U : Log} (h : Mine n U) (hg : Good most delay U) : (givenL U mineS).length = (statS U mineS).2.1 ∧ (givenL U mineS).Pairwise (· < ·) := by
  obtain ⟨y, hy, hl⟩ := h
  have hu := (hg.each _ (alook_some hy)).uniq
  unfold givenL statS
  rw [hy]
  dsimp only
  refine ⟨given_len hu, ?_⟩
  unfold delP
  refine List.Pairwise.filter _ ?_
  have h1 : (keysS y.2).Pairwise (· ≤ ·) := sortS_sorted _
  have h2 : (keysS y.2).Pairwise (· ≠ ·) := by
    have hp : (keysS y.2).Perm (y.2.map (·.1)) := sortS_perm _
    refine (hp.pairwise_iff (fun {_ _} hne => Ne.symm hne)).2 ?_
    rw [List.pairwise_map]
    exact hu
  refine (h1.and h2).imp (fun {a b} hab => ?_)
  exact Decidable.byContradiction fun h => hab.2 (List.le_antisymm hab.1 (List.not_lt.1 h))
theorem mine_start {cl : List Str} (h : beginE [] mineS cl = 0) (now : Int) : Mine cl.length (beginU [] mineS cl now) := by
  unfold beginU
  rw [if_pos h]
  exact ⟨(lim now, freshN cl), by simp [alook, mineS], by show (freshN cl).length = _; unfold freshN; exact List.length_map _⟩
theorem mine_none {cl : List Str} (h : beginE [] mineS cl ≠ 0) (now : Int) : statS (beginU [] mineS cl now) mineS = (0, 0, 0) := by
  unfold beginU
  rw [if_neg h]
  rfl
end Go.Proofs.Ytdikijbkfhimoaa
