/- StrengthReaches: plain facts: with all needed factors the level is met, with one less it is not. -/
import Derived.Test.YtmipnhdfhgekkaaNeed
namespace Go.Proofs.Ytmipnhdfhgekkaa
open Go.RowKit

/-- Has, count, Level, Needed: off a table of which factors are there. -/
def cntH (h : Int → Bool) : Nat → Int
  | 0 => 0
  | k + 1 => if h ((k : Int) + 1) then cntH h k + 1 else cntH h k
def levelH (h : Int → Bool) : Int := if 0 < cntH h 3 then cntH h 3 else if h 4 then 1 else 0
def needH (h : Int → Bool) (n : Int) : Nat → List Int
  | 0 => []
  | k + 1 => if h ((k : Int) + 1) = false ∧ ((needH h n k).length : Int) < n then needH h n k ++ [(k : Int) + 1] else needH h n k
/-- The needed factors but the one at a place. -/
def lessTo (q : List Int) (wo : Int) : Nat → List Int
  | 0 => []
  | k + 1 => if (k : Int) = wo then lessTo q wo k else lessTo q wo k ++ [q.getD k 0]
theorem lessTo_le (q : List Int) (wo : Int) : ∀ k, (lessTo q wo k).length ≤ k
  | 0 => by simp [lessTo]
  | k + 1 => by
    have := lessTo_le q wo k
    unfold lessTo
    split
    · omega
    · simp; omega
def tab (b1 b2 b3 b4 : Bool) (f : Int) : Bool := if f = 1 then b1 else if f = 2 then b2 else if f = 3 then b3 else if f = 4 then b4 else false

theorem all_tab : ∀ b1 b2 b3 b4 : Bool, ∀ lv ∈ [(0 : Int), 1, 2, 3], levelH (tab b1 b2 b3 b4) < lv →
    lv ≤ levelH (fun f => tab b1 b2 b3 b4 f || (needH (tab b1 b2 b3 b4) (lv - cntH (tab b1 b2 b3 b4) 3) 3).any (· == f)) := by decide +kernel
theorem less_tab : ∀ b1 b2 b3 b4 : Bool, ∀ lv ∈ [(0 : Int), 1, 2, 3], levelH (tab b1 b2 b3 b4) < lv → ∀ wo ∈ [(0 : Int), 1, 2],
    wo < (needH (tab b1 b2 b3 b4) (lv - cntH (tab b1 b2 b3 b4) 3) 3).length →
    levelH (fun f => tab b1 b2 b3 b4 f || (lessTo (needH (tab b1 b2 b3 b4) (lv - cntH (tab b1 b2 b3 b4) 3) 3) wo (needH (tab b1 b2 b3 b4) (lv - cntH (tab b1 b2 b3 b4) 3) 3).length).any (· == f)) < lv := by decide +kernel

theorem cntH_of (l : List Prf) : ∀ k, cntTo l k = cntH (hasL l) k
  | 0 => rfl
  | k + 1 => by unfold cntTo cntH; rw [cntH_of l k]
theorem needH_of (l : List Prf) (n : Int) : ∀ k, needTo l n k = needH (hasL l) n k
  | 0 => rfl
  | k + 1 => by unfold needTo needH; rw [needH_of l n k]
theorem levelH_of (l : List Prf) : levelL l = levelH (hasL l) := by unfold levelL levelH cntL; rw [cntH_of]
theorem cntH_same {h g : Int → Bool} (e1 : h 1 = g 1) (e2 : h 2 = g 2) (e3 : h 3 = g 3) : cntH h 3 = cntH g 3 := by
  simp [cntH, e1, e2, e3]
theorem levelH_same {h g : Int → Bool} (e1 : h 1 = g 1) (e2 : h 2 = g 2) (e3 : h 3 = g 3) (e4 : h 4 = g 4) : levelH h = levelH g := by
  unfold levelH; rw [cntH_same e1 e2 e3, e4]
theorem needH_same {h g : Int → Bool} (n : Int) (e1 : h 1 = g 1) (e2 : h 2 = g 2) (e3 : h 3 = g 3) : needH h n 3 = needH g n 3 := by
  simp [needH, e1, e2, e3]

def mk (now : Int) (q : List Int) : List Prf := q.map fun f => (f, lim now)
theorem has_mk (l : List Prf) (now age : Int) (q : List Int) (f : Int) : hasL (freshL (l ++ mk now q) now age) f = (hasL (freshL l now age) f || q.any (· == f)) := by
  have hf : freshL (mk now q) now age = mk now q := by
    refine List.filter_eq_self.2 (fun x hx => ?_)
    obtain ⟨f, _, rfl⟩ := List.mem_map.1 hx
    have := lim_bd age
    simp [freshB]; omega
  have : hasL (mk now q) f = q.any (· == f) := by
    unfold hasL mk
    rw [List.any_map]
    rfl
  unfold freshL at *
  rw [List.filter_append, hf, ← this]
  exact List.any_append
theorem reach_all (l : List Prf) (level age now : Int) (h1 : 0 ≤ level) (h2 : level ≤ 3) : meetsB (l ++ mk now (needL l level age now)) level age now = true := by
  unfold needL
  rw [if_neg (by omega)]
  by_cases hm : meetsB l level age now
  · rw [if_pos hm]; simpa [mk] using hm
  · rw [if_neg hm]
    unfold meetsB at hm ⊢
    rw [decide_eq_true_eq] at hm ⊢
    rw [levelH_of] at hm ⊢
    rw [needH_of, cntL, cntH_of]
    generalize hg : hasL (freshL l now age) = h at *
    have key := all_tab (h 1) (h 2) (h 3) (h 4) level (by simp; omega)
    have t1 : h 1 = tab (h 1) (h 2) (h 3) (h 4) 1 := rfl
    have t2 : h 2 = tab (h 1) (h 2) (h 3) (h 4) 2 := rfl
    have t3 : h 3 = tab (h 1) (h 2) (h 3) (h 4) 3 := rfl
    have t4 : h 4 = tab (h 1) (h 2) (h 3) (h 4) 4 := rfl
    rw [← levelH_same t1 t2 t3 t4, ← cntH_same t1 t2 t3, ← needH_same _ t1 t2 t3] at key
    have key := key (by omega)
    refine Int.le_trans key (Int.le_of_eq (levelH_same ?_ ?_ ?_ ?_))
    all_goals (rw [has_mk, hg]; rfl)
theorem reach_less (l : List Prf) (level age now wo : Int) (h1 : 0 ≤ level) (h2 : level ≤ 3) (h3 : 0 ≤ wo) (h4 : wo < (needL l level age now).length) :
    meetsB (l ++ mk now (lessTo (needL l level age now) wo (needL l level age now).length)) level age now = false := by
  unfold needL at h4 ⊢
  rw [if_neg (by omega)] at h4 ⊢
  by_cases hm : meetsB l level age now
  · rw [if_pos hm] at h4; simp at h4; omega
  · rw [if_neg hm] at h4 ⊢
    unfold meetsB at hm ⊢
    rw [decide_eq_true_eq] at hm
    rw [decide_eq_false_iff_not]
    rw [levelH_of] at hm ⊢
    have hlen : (needTo (freshL l now age) (level - cntL (freshL l now age)) 3).length ≤ 3 := needTo_le _ _ 3
    rw [needH_of, cntL, cntH_of] at h4 hlen ⊢
    generalize hg : hasL (freshL l now age) = h at *
    have key := less_tab (h 1) (h 2) (h 3) (h 4) level (by simp; omega)
    have t1 : h 1 = tab (h 1) (h 2) (h 3) (h 4) 1 := rfl
    have t2 : h 2 = tab (h 1) (h 2) (h 3) (h 4) 2 := rfl
    have t3 : h 3 = tab (h 1) (h 2) (h 3) (h 4) 3 := rfl
    have t4 : h 4 = tab (h 1) (h 2) (h 3) (h 4) 4 := rfl
    rw [← levelH_same t1 t2 t3 t4, ← cntH_same t1 t2 t3, ← needH_same _ t1 t2 t3] at key
    have key := key (by omega) wo (by simp; omega) h4
    rw [Int.not_le]
    refine Int.lt_of_le_of_lt (Int.le_of_eq (levelH_same ?_ ?_ ?_ ?_)) key
    all_goals (rw [has_mk, hg]; rfl)
end Go.Proofs.Ytmipnhdfhgekkaa
