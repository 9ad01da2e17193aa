/- Insert of the reference: what it answers, the walk. -/
import Derived.Test.YtakccoiecmibcaaRef2
namespace Go.Proofs.Ytakccoiecmibcaa
open Go.RowKit Go.Maps

def stepI (s : Str) (p : List Str × Bool) (y : Str) : List Str × Bool :=
  let q := if !p.2 && !decide (y < s) then (p.1 ++ [s], true) else p
  if y = s then q else (q.1 ++ [y], q.2)
def foldI (s : Str) (l : List Str) : List Str × Bool := l.foldl (stepI s) ([], false)
def insS (l : List Str) (s : Str) : List Str := if (foldI s l).2 then (foldI s l).1 else (foldI s l).1 ++ [s]
theorem foldI_snoc (s : Str) (l : List Str) (k : Nat) (h : k < l.length) : foldI s (l.take (k + 1)) = stepI s (foldI s (l.take k)) l[k] := by
  unfold foldI
  rw [List.take_succ_eq_append_getElem h, List.foldl_append]
  rfl
theorem step_len (s : Str) (p : List Str × Bool) (y : Str) : (stepI s p y).1.length ≤ p.1.length + 2 := by
  unfold stepI
  dsimp only
  split <;> split <;> simp <;> omega
theorem foldI_len (s : Str) (l : List Str) (k : Nat) : (foldI s (l.take k)).1.length ≤ 2 * k := by
  induction k with
  | zero => simp [foldI]
  | succ k ih =>
    by_cases h : k < l.length
    · rw [foldI_snoc s l k h]
      have := step_len s (foldI s (l.take k)) l[k]
      omega
    · rw [List.take_of_length_le (by omega)]
      rw [List.take_of_length_le (by omega)] at ih
      omega
theorem fold_true {s : Str} {l : List Str} (hs : s ∉ l) (out : List Str) : l.foldl (stepI s) (out, true) = (out ++ l, true) := by
  induction l generalizing out with
  | nil => simp
  | cons y r ih =>
    have h1 : y ≠ s := fun e => hs (by rw [e]; simp)
    have h2 : s ∉ r := fun e => hs (by simp [e])
    rw [List.foldl_cons, show stepI s (out, true) y = (out ++ [y], true) by unfold stepI; simp [h1], ih h2]
    simp
theorem fold_false {s : Str} {l : List Str} (hs : s ∉ l) (out : List Str) : (let p := l.foldl (stepI s) (out, false); if p.2 then p.1 else p.1 ++ [s]) = out ++ (l.takeWhile (fun y => decide (y < s)) ++ [s] ++ l.dropWhile (fun y => decide (y < s))) := by
  induction l generalizing out with
  | nil => simp
  | cons y r ih =>
    have h1 : y ≠ s := fun e => hs (by rw [e]; simp)
    have h2 : s ∉ r := fun e => hs (by simp [e])
    rw [List.foldl_cons]
    by_cases hy : y < s
    · rw [show stepI s (out, false) y = (out ++ [y], false) by unfold stepI; simp [h1, hy], ih h2]
      rw [List.takeWhile_cons, List.dropWhile_cons]
      simp [hy]
    · rw [show stepI s (out, false) y = (out ++ [s] ++ [y], true) by unfold stepI; simp [h1, hy], fold_true h2]
      rw [List.takeWhile_cons, List.dropWhile_cons]
      simp [hy]
theorem insS_eq {s : Str} {l : List Str} (hs : s ∉ l) : insS l s = l.takeWhile (fun y => decide (y < s)) ++ [s] ++ l.dropWhile (fun y => decide (y < s)) := by
  have := fold_false hs []
  rw [List.nil_append] at this
  exact this
theorem take_lt (l : List Str) (s : Str) : ∀ x ∈ l.takeWhile (fun y => decide (y < s)), x < s := by
  induction l with
  | nil => simp
  | cons a r ih =>
    intro x hx
    rw [List.takeWhile_cons] at hx
    split at hx
    · rename_i h
      rcases List.mem_cons.1 hx with e | hx
      · rw [e]; simpa using h
      · exact ih x hx
    · cases hx
theorem drop_ge {l : List Str} (h : l.Pairwise fun x y => x ≤ y) (s : Str) : ∀ x ∈ l.dropWhile (fun y => decide (y < s)), s ≤ x := by
  induction l with
  | nil => simp
  | cons a r ih =>
    intro x hx
    obtain ⟨h1, h2⟩ := List.pairwise_cons.1 h
    rw [List.dropWhile_cons] at hx
    split at hx
    · exact ih h2 x hx
    · rename_i hn
      have ha : s ≤ a := List.not_lt.1 (by simpa using hn)
      rcases List.mem_cons.1 hx with e | hx
      · rw [e]; exact ha
      · exact str_le_trans ha (h1 x hx)
theorem ins_sort {l : List Str} {s : Str} (hs : s ∉ l) : insS (sortS l) s = sortS (l ++ [s]) := by
  have hs' : s ∉ sortS l := fun h => hs ((sortS_perm l).mem_iff.1 h)
  have hsrt := sortS_sorted l
  rw [insS_eq hs']
  have htd := List.takeWhile_append_dropWhile (p := fun y => decide (y < s)) (l := sortS l)
  refine sorted_eq ?_ ?_ (sortS_sorted _)
  · refine List.Perm.trans ?_ (sortS_perm (l ++ [s])).symm
    refine List.Perm.trans ?_ ((sortS_perm l).append_right [s])
    conv => rhs; rw [← htd]
    rw [List.append_assoc, List.append_assoc]
    exact (List.perm_append_comm (l₁ := [s])).append_left _
  · rw [← htd] at hsrt
    obtain ⟨p1, p2, p3⟩ := List.pairwise_append.1 hsrt
    rw [htd] at hsrt
    refine List.pairwise_append.2 ⟨List.pairwise_append.2 ⟨p1, by simp, fun x hx y hy => ?_⟩, p2, fun x hx y hy => ?_⟩
    · simp at hy; rw [hy]; exact List.le_of_lt (take_lt _ _ x hx)
    · rcases List.mem_append.1 hx with hx | hx
      · exact p3 x hx y hy
      · simp at hx; rw [hx]; exact drop_ge hsrt s y hy

set_option maxHeartbeats 8000000 in
set_option maxRecDepth 100000 in
theorem insert_any {w : World} {a : Option Addr} {cap : Nat} {l : List Str} (h : StrsAt w a l) (hl : l.length ≤ 256) (s : ByteArray) :
    Calls Try.prog 50 #[.slice a l.length cap, .string s] w fun e w' => ∃ a' c', e = .returned (.slice a' (insS l s.data.toList).length c') ∧ OwnL 9 1 encS w w' a' c' (insS l s.data.toList) := by
  have HH := hid h
  obtain ⟨z, HZ⟩ : ∃ z, Hid (z = s.data.toList) := ⟨_, hid rfl⟩
  rw [← HZ.out]
  clear h
  go_enter Try.func50, Try.ntmps50
  go_wp2_with fail
  go_loopw [5, 6, 7] (fun v d i wr => ∃ (k : Nat) (R : List Str) (b : Bool) (a1 : Option Addr) (c1 : Nat), k ≤ l.length ∧ i = .int .i64 k ∧ v = .slice a1 R.length c1 ∧ d = .bool b ∧ foldI z (l.take k) = (R, b) ∧ OwnL 9 1 encS w wr a1 c1 R) (fun _ _ i _ => l.length - (intOf i).toNat)
  case atStart => exact ⟨0, [], false, none, 0, Nat.zero_le _, rfl, rfl, rfl, rfl, OwnL.start w⟩
  case round =>
    obtain ⟨k, R, b, a1, c1, hk, rfl, rfl, rfl, hf, ho⟩ := hrel
    have HO := hid ho
    have HF := hid hf
    have hRl : R.length ≤ 2 * k := by have := foldI_len z l k; rw [hf] at this; exact this
    have hkb : k ≤ 256 := by omega
    have hk0 : (0 : Int) ≤ k := by omega
    by_cases hlt : k < l.length
    · have hk1 : (k : Int) < l.length := by omega
      obtain ⟨bb, off, e, hbb, hc⟩ := StrsAt.get (HH.out.keptN ho.kept) hlt
      have HCC := hid (fun wq (kq : Kept [] w wq) => (StrsAt.get (HH.out.keptN kq) hlt))
      have HN := hid (show foldI z (l.take (k + 1)) = stepI z (R, b) l[k] by rw [foldI_snoc z l k hlt, hf])
      have HLT := hid hlt
      subst e
      have HCX := hid (fun wq (kq : Kept [] w wq) => show wq.cell? ⟨bb, off + k, none⟩ = some (.string ⟨l[k].toArray⟩) by
        obtain ⟨b2, off2, e2, _, hc2⟩ := HCC.out wq kq
        injection e2 with e2; injection e2 with e2 e3; subst e2; subst e3
        exact hc2)
      unfold sV at hc
      clear ho hf HCC
      generalize l[k] = y at *
      cases b
      · by_cases hy : y < z
        · have hbl : Op.bytesLess y s.toList = true := by rw [ByteArray.toList_eq, ← HZ.out, bytesLess_eq]; simpa using hy
          have hne : y ≠ z := fun e => by rw [e] at hy; exact absurd hy (List.lt_irrefl z)
          have hnb : (y == s.toList) = false := by rw [ByteArray.toList_eq, ← HZ.out]; simpa using hne
          have HS := hid (show stepI z (R, false) y = (R ++ [y], false) by unfold stepI; simp [hy, hne])
          obtain ⟨M, HM⟩ : ∃ M, Hid (M = R ++ [y]) := ⟨_, hid rfl⟩
          clear hy hne
          go_wp2_with (at_builtin; refine wp_appL encSOk Try.underlying31 HM.out (HO.out.later ((Kept.refl [] _).alloc _)) (box_str _ ⟨y.toArray⟩ _) (show R.length + [y].length ≤ 1000000 by simp; omega) rfl _ _ rfl rfl rfl rfl rfl ?_; intro a2 c2 w2 o2 k2 f2)
          go_roundw
          case rel => exact ⟨k + 1, M, false, a2, c2, by have := HLT.out; omega, by go_num, rfl, rfl, by rw [HN.out, HS.out, HM.out], o2⟩
          case measure => simp [intOf]; omega
        · have hbl : Op.bytesLess y s.toList = false := by rw [ByteArray.toList_eq, ← HZ.out, bytesLess_eq]; simpa using hy
          obtain ⟨M, HM⟩ : ∃ M, Hid (M = R ++ [z]) := ⟨_, hid rfl⟩
          by_cases hne : y = z
          · have hnb : (y == s.toList) = true := by rw [ByteArray.toList_eq, ← HZ.out, beq_iff_eq]; exact hne
            have HS := hid (show stepI z (R, false) y = (R ++ [z], true) by unfold stepI; simp [hne])
            clear hy hne
            go_wp2_with (at_builtin; refine wp_appL encSOk Try.underlying31 HM.out (HO.out.later ((Kept.refl [] _).alloc _)) (by rw [HZ.out]; exact box_str _ s _) (show R.length + [z].length ≤ 1000000 by simp; omega) rfl _ _ rfl rfl rfl rfl rfl ?_; intro a2 c2 w2 o2 k2 f2; have hc2 := HCX.out _ o2.kept)
            go_roundw
            case rel => exact ⟨k + 1, M, true, a2, c2, by have := HLT.out; omega, by go_num, rfl, rfl, by rw [HN.out, HS.out, HM.out], o2⟩
            case measure => simp [intOf]; omega
          · have hnb : (y == s.toList) = false := by rw [ByteArray.toList_eq, ← HZ.out]; simpa using hne
            have HS := hid (show stepI z (R, false) y = (R ++ [z] ++ [y], true) by unfold stepI; simp [hy, hne])
            obtain ⟨M2, HM2⟩ : ∃ M2, Hid (M2 = M ++ [y]) := ⟨_, hid rfl⟩
            clear hy hne
            go_wp2_with (first
              | (at_builtin; refine wp_appL encSOk Try.underlying31 HM2.out (o2.later ((Kept.refl [] _).alloc _)) (box_str _ ⟨y.toArray⟩ _) (show M.length + [y].length ≤ 1000000 by rw [HM.out]; simp; omega) rfl _ _ rfl rfl rfl rfl rfl ?_; intro a3 c3 w3 o3 k3 f3)
              | (at_builtin; refine wp_appL encSOk Try.underlying31 HM.out (HO.out.later ((Kept.refl [] _).alloc _)) (by rw [HZ.out]; exact box_str _ s _) (show R.length + [z].length ≤ 1000000 by simp; omega) rfl _ _ rfl rfl rfl rfl rfl ?_; intro a2 c2 w2 o2 k2 f2; have hc2 := HCX.out _ o2.kept))
            go_roundw
            case rel => exact ⟨k + 1, M2, true, a3, c3, by have := HLT.out; omega, by go_num, rfl, rfl, by rw [HN.out, HS.out, HM2.out, HM.out], o3⟩
            case measure => simp [intOf]; omega
      · by_cases hne : y = z
        · have hnb : (y == s.toList) = true := by rw [ByteArray.toList_eq, ← HZ.out, beq_iff_eq]; exact hne
          have HS := hid (show stepI z (R, true) y = (R, true) by unfold stepI; simp [hne])
          clear hne
          go_wp2_with fail
          go_roundw
          case rel => exact ⟨k + 1, R, true, a1, c1, by have := HLT.out; omega, by go_num, rfl, rfl, by rw [HN.out, HS.out], HO.out⟩
          case measure => simp [intOf]; omega
        · have hnb : (y == s.toList) = false := by rw [ByteArray.toList_eq, ← HZ.out]; simpa using hne
          have HS := hid (show stepI z (R, true) y = (R ++ [y], true) by unfold stepI; simp [hne])
          obtain ⟨M, HM⟩ : ∃ M, Hid (M = R ++ [y]) := ⟨_, hid rfl⟩
          clear hne
          go_wp2_with (at_builtin; refine wp_appL encSOk Try.underlying31 HM.out (HO.out.later ((Kept.refl [] _).alloc _)) (box_str _ ⟨y.toArray⟩ _) (show R.length + [y].length ≤ 1000000 by simp; omega) rfl _ _ rfl rfl rfl rfl rfl ?_; intro a2 c2 w2 o2 k2 f2)
          go_roundw
          case rel => exact ⟨k + 1, M, true, a2, c2, by have := HLT.out; omega, by go_num, rfl, rfl, by rw [HN.out, HS.out, HM.out], o2⟩
          case measure => simp [intOf]; omega
    · have HE := hid (show foldI z l = (R, b) by rw [← HF.out, List.take_of_length_le (by omega)])
      have hk1 : ¬ ((k : Int) < l.length) := by omega
      clear ho hf
      cases b
      · have HI := hid (show insS l z = R ++ [z] by unfold insS; rw [HE.out]; rfl)
        obtain ⟨M, HM⟩ : ∃ M, Hid (M = R ++ [z]) := ⟨_, hid rfl⟩
        go_wp2_with (at_builtin; refine wp_appL encSOk Try.underlying31 HM.out (HO.out.later ((Kept.refl [] _).alloc _)) (by rw [HZ.out]; exact box_str _ s _) (show R.length + [z].length ≤ 1000000 by simp; omega) rfl _ _ rfl rfl rfl rfl rfl ?_; intro a2 c2 w2 o2 k2 f2)
        go_ret
        rw [HI.out, ← HM.out]
        exact ⟨a2, c2, rfl, o2⟩
      · have HI := hid (show insS l z = R by unfold insS; rw [HE.out]; rfl)
        go_wp2_with fail
        go_ret
        rw [HI.out]
        exact ⟨a1, c1, rfl, HO.out⟩
end Go.Proofs.Ytakccoiecmibcaa
