/- SessionLimits: names, the plain law. -/
import Derived.Test.YtakccoiecmibcaaSame
namespace Go.Proofs.Ytakccoiecmibcaa
open Go.RowKit Go.Maps

def nameS (i : Nat) : Str := [110, UInt8.ofNat (97 + i / 26 % 26), UInt8.ofNat (97 + i % 26)]
theorem name_inj {i j : Nat} (hi : i < 300) (hj : j < 300) (h : nameS i = nameS j) : i = j := by
  unfold nameS at h
  injection h with _ h
  injection h with h1 h
  injection h with h2 _
  have e1 := congrArg UInt8.toNat h1
  have e2 := congrArg UInt8.toNat h2
  simp at e1 e2
  omega
theorem name_word : ∀ i, i < 300 → wordB (nameS i) = true := by decide +kernel
def x0 : Sess := newX 10 100 zAnn zT [] [(1, 1)] 1
def namesL (k : Nat) : List Str := (List.range k).map nameS
theorem namesL_len (k : Nat) : (namesL k).length = k := by simp [namesL]
theorem namesL_snoc (k : Nat) : namesL (k + 1) = namesL k ++ [nameS k] := by simp [namesL, List.range_succ]
theorem namesL_not {k j : Nat} (hk : k ≤ j) (hj : j < 300) : nameS j ∉ namesL k := by
  intro h
  obtain ⟨i, hi, e⟩ := List.mem_map.1 h
  rw [List.mem_range] at hi
  have := name_inj (by omega) hj e
  omega
/-- The sessions after k starts. -/
def limU (k : Nat) : Sss := (List.range k).map fun i => (nameS i, x0)
theorem limU_len (k : Nat) : (limU k).length = k := by simp [limU]
theorem limU_snoc (k : Nat) : limU (k + 1) = limU k ++ [(nameS k, x0)] := by simp [limU, List.range_succ]
theorem limU_none {k j : Nat} (hk : k ≤ j) (hj : j < 300) : alook (limU k) (nameS j) = none := by
  rw [alook_none]
  intro p hp e
  obtain ⟨i, hi, rfl⟩ := List.mem_map.1 hp
  rw [List.mem_range] at hi
  have := name_inj (by omega) hj e
  omega
theorem lim_start {k : Nat} (hk : k < 300) : startC (limU (min k 256)) (nameS k) zAnn zT [] [(1, 1)] = (if 256 ≤ k then 3 else 0) ∧ startU 10 100 (limU (min k 256)) (nameS k) zAnn zT [] [(1, 1)] 1 = limU (min (k + 1) 256) := by
  have hw := name_word k hk
  have e : startC (limU (min k 256)) (nameS k) zAnn zT [] [(1, 1)] = if 256 ≤ k then 3 else 0 := by
    unfold startC
    rw [hw, limU_none (by omega) hk, limU_len, show addsE [(1, 1)] = 0 by decide, show wordB zAnn = true by decide, show wordB zT = true by decide, show devB [] = true by decide]
    by_cases h : 256 ≤ k
    · rw [if_neg (by simp), if_neg (by simp), if_neg (by simp), if_neg (by simp), if_pos (by omega), if_pos h]
    · rw [if_neg (by simp), if_neg (by simp), if_neg (by simp), if_neg (by simp), if_neg (by omega), if_neg h]
  refine ⟨e, ?_⟩
  unfold startU
  rw [e]
  by_cases h : 256 ≤ k
  · rw [if_pos h, if_neg (by decide), Nat.min_eq_right h, Nat.min_eq_right (by omega)]
  · rw [if_neg h, if_pos rfl, Nat.min_eq_left (by omega), Nat.min_eq_left (by omega), limU_snoc]
    rfl
/-- The sessions after m starts and j joins. -/
def joinsX (j : Nat) : Sess := { x0 with clients := namesL j }
def limJ (m j : Nat) : Sss := (nameS 0, joinsX j) :: ((List.range m).map fun i => (nameS (i + 1), x0))
theorem limJ_zero (m : Nat) : limU (m + 1) = limJ m 0 := by
  unfold limU limJ
  rw [List.range_succ_eq_map, List.map_cons, List.map_map]
  rfl
theorem lim_join {m j : Nat} (hm : m ≤ 255) (hj : j < 300) : joinC (limJ m (min j 256)) (nameS 0) (nameS j) 2 = (if 256 ≤ j then 3 else 0) ∧ joinU (limJ m (min j 256)) (nameS 0) (nameS j) 2 = limJ m (min (j + 1) 256) := by
  have hl : alook (limJ m (min j 256)) (nameS 0) = some (joinsX (min j 256)) := by
    unfold limJ
    rw [alook_cons, if_pos rfl]
  have hf : findC (limJ m (min j 256)) (nameS 0) 2 = 0 := (find_of hl 2).2 ⟨rfl, by show lim 2 < x0.until_; decide⟩
  have hc : clientsOf (limJ m (min j 256)) (nameS 0) = namesL (min j 256) := by unfold clientsOf; rw [hl]; rfl
  have hno : (namesL (min j 256)).any (eqC (nameS j)) = false := by
    rw [List.any_eq_false]
    intro x hx e
    unfold eqC at e
    have := beq_iff_eq.1 e
    rw [this] at hx
    exact namesL_not (by omega) hj hx
  have e : joinC (limJ m (min j 256)) (nameS 0) (nameS j) 2 = if 256 ≤ j then 3 else 0 := by
    unfold joinC
    rw [if_pos hf, if_pos (name_word j hj), hc, hno, namesL_len, if_neg (by simp)]
    by_cases h : 256 ≤ j
    · rw [if_pos (by omega), if_pos h]
    · rw [if_neg (by omega), if_neg h]
  refine ⟨e, ?_⟩
  unfold joinU
  rw [e]
  by_cases h : 256 ≤ j
  · rw [if_pos h, if_neg (by decide), Nat.min_eq_right h, Nat.min_eq_right (by omega)]
  · rw [if_neg h, if_pos rfl]
    unfold updU
    rw [hl]
    show aput (limJ m (min j 256)) (nameS 0) (joinX (nameS j) (joinsX (min j 256))) = _
    have hx : joinX (nameS j) (joinsX (min j 256)) = joinsX (min (j + 1) 256) := by
      unfold joinX
      rw [if_neg (by rw [show (joinsX (min j 256)).clients.any (eqC (nameS j)) = false from hno]; simp)]
      unfold joinsX
      rw [Nat.min_eq_left (by omega), Nat.min_eq_left (by omega), namesL_snoc]
    rw [hx]
    unfold aput
    rw [if_pos (by rw [hl]; rfl)]
    unfold limJ
    rw [List.map_cons, if_pos rfl]
    congr 1
    conv => rhs; rw [← List.map_id ((List.range m).map fun i => (nameS (i + 1), x0))]
    apply List.map_congr_left
    intro p hp
    obtain ⟨i, hi, rfl⟩ := List.mem_map.1 hp
    rw [List.mem_range] at hi
    rw [if_neg (fun e => by have := name_inj (i := i + 1) (j := 0) (by omega) (by omega) e; omega)]
    rfl
structure AllOk (U : Sss) : Prop where
  ok : ∀ p ∈ U, p.2.user = zAnn ∧ p.2.ended = false ∧ p.2.until_ = 11
theorem limU_ok (k : Nat) : AllOk (limU k) := ⟨fun p hp => by obtain ⟨i, _, rfl⟩ := List.mem_map.1 hp; exact ⟨rfl, rfl, show x0.until_ = 11 by decide⟩⟩
theorem limJ_ok (m j : Nat) : AllOk (limJ m j) := ⟨fun p hp => by
  rcases List.mem_cons.1 hp with rfl | hp
  · exact ⟨rfl, rfl, show x0.until_ = 11 by decide⟩
  · obtain ⟨i, _, rfl⟩ := List.mem_map.1 hp; exact ⟨rfl, rfl, show x0.until_ = 11 by decide⟩⟩
theorem ok_len {U : Sss} (h : AllOk U) : lenN U = U.length := by
  unfold lenN
  rw [List.filter_eq_self.2 (fun p hp => by rw [(h.ok p hp).2.1]; rfl)]
theorem ok_of {U : Sss} (h : AllOk U) : (ofL U zAnn 1).length = U.length := by
  unfold ofL
  rw [sortS_len, List.length_map, List.filter_eq_self.2 (fun p hp => by
    obtain ⟨h1, h2, h3⟩ := h.ok p hp
    unfold liveB
    rw [h1, h2, h3]
    decide)]
theorem ok_exp {U : Sss} (h : AllOk U) : (expL U 11).length = U.length := by
  unfold expL
  rw [sortS_len, List.length_map, List.filter_eq_self.2 (fun p hp => by
    obtain ⟨h1, h2, h3⟩ := h.ok p hp
    unfold expB
    rw [h2, h3]
    decide)]
end Go.Proofs.Ytakccoiecmibcaa
