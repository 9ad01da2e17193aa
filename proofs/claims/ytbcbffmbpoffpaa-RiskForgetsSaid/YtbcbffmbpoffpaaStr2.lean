/- moved, of the program and of the reference. -/
import Derived.Test.YtbcbffmbpoffpaaStr
namespace Go.Proofs.Ytbcbffmbpoffpaa
open Go.RowKit

/-- A list with a string at its end. -/
def putS (l : List Str) (x : Str) : List Str := delP (eqS x) l ++ [x]
def movedL (l : List Str) (x : Str) : List Str := (putS l x).drop ((putS l x).length - 16)
theorem putS_len (l : List Str) (x : Str) : 1 ≤ (putS l x).length ∧ (putS l x).length ≤ l.length + 1 := by
  have := delP_le (eqS x) l
  simp [putS]; omega
theorem movedL_len (l : List Str) (x : Str) : 1 ≤ (movedL l x).length ∧ (movedL l x).length ≤ 16 := by
  have := putS_len l x
  simp [movedL]; omega

theorem box_str (w : World) (x : ByteArray) (t : TypeId) : StrsAt (w.alloc (.cells #[.string x] t (0, 0))) (some ⟨w.heap.size, 0, none⟩) [x.data.toList] :=
  list_box encSOk (heap_alloc_new w _) (by simp [rowV, encS, sV]) (by simp [maxLen])

/-- A list of strings in a block of strings: it stays while no such block is written. -/
def StrsB (w : World) (a : Option Addr) (l : List Str) : Prop := StrsAt w a l ∧ ∀ i ∈ fp a, ∃ cur, w.heap[i]? = some (.cells cur 9 (0, 0))
def NoStr (w : World) (S : List Nat) : Prop := ∀ i ∈ S, ∀ cur, w.heap[i]? ≠ some (.cells cur 9 (0, 0))
theorem StrsB.kept {S : List Nat} {w w' : World} {a : Option Addr} {l : List Str} (h : StrsB w a l) (k : Kept S w w') (hS : NoStr w S) : StrsB w' a l := by
  have hn : ∀ i ∈ fp a, i ∉ S := fun i hi hm => by obtain ⟨cur, hc⟩ := h.2 i hi; exact hS i hm cur hc
  refine ⟨SeqAt.kept h.1 CEnc.lasts k (fun _ x hx => ?_), fun i hi => ?_⟩
  · subst hx; exact hn _ (by simp [fp])
  · obtain ⟨cur, hc⟩ := h.2 i hi
    exact ⟨cur, k.at hc (hn i hi)⟩
theorem StrsB.keptN {w w' : World} {a : Option Addr} {l : List Str} (h : StrsB w a l) (k : Kept [] w w') : StrsB w' a l := h.kept k (by intro i hi; simp at hi)
theorem StrsB.nil (w : World) : StrsB w none [] := ⟨list_nil w none, by simp [fp]⟩
theorem strsB_of {w0 w : World} {a : Option Addr} {cap : Nat} {l : List Str} (h : OwnL 9 1 encS w0 w a cap l) : StrsB w a l := ⟨h.seq encSOk, row_blk h.row⟩
/-- A list of strings is handed back. -/
def Gives (w w' : World) (e : Ending) (l : List Str) : Prop := ∃ a c, e = .returned (.slice a l.length c) ∧ StrsB w' a l ∧ Kept [] w w'
set_option maxHeartbeats 1000000 in
theorem moved_any {w : World} {a : Option Addr} {cap : Nat} {l : List Str} (h : StrsAt w a l) (hlen : l.length ≤ 10000) (s : ByteArray) :
    Calls Try.prog 37 #[.slice a l.length cap, .string s] w fun e w' => Gives w w' e (movedL l s.data.toList) := by
  have hb := heap_alloc_new w (.cells #[.string s] 9 (0, 0))
  have hp1 := h.keptN ((Kept.refl [] w).alloc (.cells #[.string s] 9 (0, 0)))
  have hpb : (w.alloc (.cells #[.string s] 9 (0, 0))).cell? ⟨w.heap.size, 0, none⟩ = some (.string s) := by rw [cell_at hb]; rfl
  have HP2 := hid (fun w2 (k : Kept [] (w.alloc (.cells #[.string s] 9 (0, 0))) w2) => (k.cell (World.block_lt_of_cell? _ _ hpb) (by simp)).trans hpb)
  clear hpb
  have hle := delP_le (eqS s.data.toList) l
  obtain ⟨D, HD⟩ : ∃ D, Hid (D = delP (eqS s.data.toList) l) := ⟨_, hid rfl⟩
  obtain ⟨M, HM⟩ : ∃ M, Hid (M = D ++ [s.data.toList]) := ⟨_, hid rfl⟩
  have hML : M.length = D.length + 1 := by rw [HM.out]; simp
  have HE := hid (show movedL l s.data.toList = M.drop (M.length - 16) by rw [HM.out, HD.out]; rfl)
  have hDl : D.length ≤ 10000 := by rw [HD.out]; omega
  have HML := hid hML
  have hM1 : 1 ≤ M.length ∧ M.length ≤ 10001 := by omega
  clear hML hle
  go_enter Try.func37, Try.ntmps37
  go_wp2_with (first
    | (go_at_call 56; refine (clone_any hp1 (by omega)).mono ?_; rintro e w2 ⟨a2, c2, rfl, o2⟩; have hp2 := HP2.out _ o2.kept)
    | (go_at_call 55; refine (delete_any w.heap.size s o2 (by omega) hp2 (by simp)).mono ?_; rw [← HD.out]; rintro e w3 ⟨a3, c3, rfl, o3⟩; have hp3 := HP2.out _ o3.kept)
    | (at_builtin; refine wp_appL encSOk Try.underlying67 HM.out (o3.later ((Kept.refl [] w3).alloc _)) (box_str w3 s _) (by simp; omega) rfl _ _ rfl rfl rfl rfl rfl ?_; intro a4 c4 w4 o4 k4 f4))
  all_goals
    have hcap := o4.cap
    go_ret
  · exfalso
    have h1 : c4 = (if 16 < (M.length : Int) then (M.length : Int) - 16 else 0).toNat := by assumption
    rw [if_pos (by assumption)] at h1
    omega
  · exfalso
    have h1 : c4 = (if 16 < (M.length : Int) then (M.length : Int) - 16 else 0).toNat := by assumption
    rw [if_neg (by omega)] at h1
    omega
  · have e : ((M.length : Int) - 16).toNat = M.length - 16 := by omega
    have hd := (o4.seq encSOk).drop (k := M.length - 16) (by omega) hcap.1
    rw [if_neg (by omega)] at hd
    rw [HE.out]
    have hbl := row_blk o4.row
    obtain ⟨g, cur, rfl, _⟩ := row_some o4.row (by omega)
    exact ⟨some ⟨g, M.length - 16, none⟩, c4 - (M.length - 16), by simp [e, add_none], ⟨by simpa [add_none] using hd, by simpa [fp] using hbl⟩, ((Kept.refl [] w).alloc _).step o4.kept (by simp)⟩
  · have e : M.length - 16 = 0 := by omega
    rw [HE.out, e, List.drop_zero]
    exact ⟨a4, c4, rfl, strsB_of o4, ((Kept.refl [] w).alloc _).step o4.kept (by simp)⟩

/-- The reference's list: the first one goes if there are more than 16. -/
def rmovedL (l : List Str) (x : Str) : List Str := if 16 < (putS l x).length then (putS l x).drop 1 else putS l x
theorem rmovedL_eq (l : List Str) (x : Str) (h : l.length ≤ 16) : rmovedL l x = movedL l x := by
  have := putS_len l x
  unfold rmovedL movedL
  split
  · rw [show (putS l x).length - 16 = 1 by omega]
  · rw [show (putS l x).length - 16 = 0 by omega, List.drop_zero]

set_option maxHeartbeats 1000000 in
set_option maxRecDepth 100000 in
theorem rmoved_any {w : World} {a : Option Addr} {cap : Nat} {l : List Str} (h : StrsAt w a l) (hlen : l.length ≤ 10000) (s : ByteArray) :
    Calls Try.prog 40 #[.slice a l.length cap, .string s] w fun e w' => Gives w w' e (rmovedL l s.data.toList) := by
  have hf := h.few
  unfold maxLen at hf
  go_enter Try.func40, Try.ntmps40
  go_wp2_with fail
  go_loopw [5, 6] (fun v i wr => ∃ (k : Nat) (a' : Option Addr) (cap' : Nat), k ≤ l.length ∧ i = .int .i64 k ∧ v = .slice a' (delP (eqS s.data.toList) (l.take k)).length cap' ∧ OwnL 9 1 encS w wr a' cap' (delP (eqS s.data.toList) (l.take k))) (fun _ i _ => l.length - (intOf i).toNat)
  case atStart => exact ⟨0, none, 0, Nat.zero_le _, rfl, rfl, OwnL.start w⟩
  case round =>
    obtain ⟨k, a', cap', hk, rfl, rfl, ho⟩ := hrel
    by_cases hlt : k < l.length
    · obtain ⟨b, off, rfl, hb, hc⟩ := StrsAt.get (h.keptN ho.kept) hlt
      unfold sV at hc
      have hb1 : (0 : Int) ≤ k := by omega
      have hb2 : (k : Int) < l.length := by omega
      have hle : (delP (eqS s.data.toList) (l.take k)).length ≤ 10000 := Nat.le_trans (delP_le _ _) (by simp; omega)
      have Hsn := hid (delP_snoc (eqS s.data.toList) l k hlt)
      obtain ⟨D, HD⟩ : ∃ D, Hid (D = delP (eqS s.data.toList) (l.take k)) := ⟨_, hid rfl⟩
      rw [← HD.out] at ho hle ⊢
      cases hp : eqS s.data.toList l[k]
      · obtain ⟨e1, e2⟩ := str_eq _ _ _ hp
        have e3 : (l[k] != s.toList) = true := by simp [bne, e2]
        have HP := hid hp
        clear hp
        obtain ⟨M, HM⟩ : ∃ M, Hid (M = D ++ [l[k]]) := ⟨_, hid rfl⟩
        have hbx := list_box encSOk (l := [l[k]]) (heap_alloc_new wr (.cells #[.string ⟨l[k].toArray⟩] 9 (0, 0))) (by simp [rowV, encS, sV]) (by simp [maxLen])
        go_wp2_with (at_builtin; refine wp_appL encSOk Try.underlying67 HM.out (ho.later ((Kept.refl [] wr).alloc _)) hbx (by simp; omega) rfl _ _ rfl rfl rfl rfl rfl ?_; intro a4 c4 w4 o4 k4 f4)
        go_roundw
        case rel =>
          have e : delP (eqS s.data.toList) (l.take (k + 1)) = M := by rw [Hsn.out, if_neg (by rw [HP.out]; simp), HM.out, HD.out]
          exact ⟨k + 1, a4, c4, by omega, by go_num, by rw [e], by rw [e]; exact o4⟩
        case measure => simp [intOf]; omega
      · obtain ⟨e1, e2⟩ := str_eq _ _ _ hp
        have e3 : (l[k] != s.toList) = false := by simp [bne, e2]
        have HP := hid hp
        clear hp
        go_wp2_with fail
        go_roundw
        case rel =>
          have e : delP (eqS s.data.toList) (l.take (k + 1)) = D := by rw [Hsn.out, if_pos HP.out, HD.out]
          exact ⟨k + 1, a', cap', by omega, by go_num, by rw [e], by rw [e]; exact ho⟩
        case measure => simp [intOf]; omega
    · have e1 : l.take k = l := List.take_of_length_le (by omega)
      have hle : (delP (eqS s.data.toList) l).length ≤ 10000 := Nat.le_trans (delP_le _ _) hlen
      rw [e1] at ho ⊢
      obtain ⟨D, HD⟩ : ∃ D, Hid (D = delP (eqS s.data.toList) l) := ⟨_, hid rfl⟩
      rw [← HD.out] at ho hle ⊢
      obtain ⟨M, HM⟩ : ∃ M, Hid (M = D ++ [s.data.toList]) := ⟨_, hid rfl⟩
      have HML := hid (show M.length = D.length + 1 by rw [HM.out]; simp)
      have HE := hid (show rmovedL l s.data.toList = if 16 < M.length then M.drop 1 else M by rw [HM.out, HD.out]; rfl)
      by_cases h16 : 16 < M.length
      · go_wp2_with (at_builtin; refine wp_appL encSOk Try.underlying67 HM.out (ho.later ((Kept.refl [] wr).alloc _)) (box_str wr s _) (by simp; omega) rfl _ _ rfl rfl rfl rfl rfl ?_; intro a4 c4 w4 o4 k4 f4; have hcap := o4.cap; have hc4 : ¬ c4 = 1 := by omega)
        go_ret
        have hd := (o4.seq encSOk).drop (k := 1) (by omega) hcap.1
        rw [if_neg hc4] at hd
        rw [HE.out, if_pos h16]
        have hbl := row_blk o4.row
        obtain ⟨g, cur, rfl, _⟩ := row_some o4.row (by omega)
        exact ⟨some ⟨g, 1, none⟩, c4 - 1, by simp, ⟨by simpa [Addr.add] using hd, by simpa [fp] using hbl⟩, o4.kept⟩
      · go_wp2_with (at_builtin; refine wp_appL encSOk Try.underlying67 HM.out (ho.later ((Kept.refl [] wr).alloc _)) (box_str wr s _) (by simp; omega) rfl _ _ rfl rfl rfl rfl rfl ?_; intro a4 c4 w4 o4 k4 f4; have hcap := o4.cap)
        go_ret
        rw [HE.out, if_neg h16]
        exact ⟨a4, c4, rfl, strsB_of o4, o4.kept⟩
end Go.Proofs.Ytbcbffmbpoffpaa
