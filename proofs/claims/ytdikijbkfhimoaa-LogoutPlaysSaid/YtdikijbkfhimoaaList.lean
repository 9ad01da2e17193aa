/- listError. -/
import Derived.Test.YtdikijbkfhimoaaNew
import Derived.Test.YtdikijbkfhimoaaWord
import Derived.Test.YtdikijbkfhimoaaHas
namespace Go.Proofs.Ytdikijbkfhimoaa
open Go.RowKit Go.Maps

def listGo (seen : List Str) : List Str → Int
  | [] => 0
  | c :: r => if wordB c = true then (if hasS seen c = true then 7 else listGo (seen ++ [c]) r) else 5
def listE (l : List Str) : Int := if 256 < l.length then 3 else listGo [] l
def ListTo (l : List Str) (k : Nat) : Prop := listGo (l.take k) (l.drop k) = listGo [] l
theorem ListTo.zero (l : List Str) : ListTo l 0 := by simp [ListTo]
theorem ListTo.at {l : List Str} {k : Nat} (h : ListTo l k) (hk : k < l.length) : listGo [] l = if wordB l[k] = true then (if hasS (l.take k) l[k] = true then 7 else listGo (l.take (k + 1)) (l.drop (k + 1))) else 5 := by
  rw [← h, List.drop_eq_getElem_cons hk, listGo, List.take_succ_eq_append_getElem hk]
theorem ListTo.next {l : List Str} {k : Nat} (h : ListTo l k) (hk : k < l.length) (h1 : wordB l[k] = true) (h2 : hasS (l.take k) l[k] = false) : ListTo l (k + 1) := by
  have := h.at hk
  rw [h1, h2] at this
  exact this.symm
theorem ListTo.word {l : List Str} {k : Nat} (h : ListTo l k) (hk : k < l.length) (h1 : wordB l[k] = false) : listGo [] l = 5 := by
  rw [h.at hk, h1]; rfl
theorem ListTo.twice {l : List Str} {k : Nat} (h : ListTo l k) (hk : k < l.length) (h1 : wordB l[k] = true) (h2 : hasS (l.take k) l[k] = true) : listGo [] l = 7 := by
  rw [h.at hk, h1, h2]; rfl
theorem ListTo.all {l : List Str} {k : Nat} (h : ListTo l k) (hk : l.length ≤ k) : listGo [] l = 0 := by
  rw [← h, List.drop_eq_nil_of_le hk]; rfl
theorem hasS_iff (l : List Str) (c : Str) : hasS l c = true ↔ c ∈ l := by
  unfold hasS eqS
  rw [List.any_eq_true]
  exact ⟨fun ⟨x, h1, h2⟩ => by have := beq_iff_eq.1 h2; rw [← this]; exact h1, fun h => ⟨c, h, by simp⟩⟩
theorem listGo_ok : ∀ (l seen : List Str), listGo seen l = 0 → (∀ c ∈ l, wordB c = true) ∧ l.Pairwise (· ≠ ·) ∧ ∀ c ∈ l, c ∉ seen
  | [], _, _ => by simp
  | c :: r, seen, h => by
    unfold listGo at h
    split at h
    · rename_i h1
      split at h
      · cases h
      · rename_i h2
        obtain ⟨i1, i2, i3⟩ := listGo_ok r (seen ++ [c]) h
        rw [hasS_iff] at h2
        refine ⟨fun x hx => ?_, List.pairwise_cons.2 ⟨fun x hx e => i3 x hx (by rw [e]; simp), i2⟩, fun x hx => ?_⟩
        · rcases List.mem_cons.1 hx with rfl | hx
          · exact h1
          · exact i1 x hx
        · rcases List.mem_cons.1 hx with rfl | hx
          · exact h2
          · exact fun hs => i3 x hx (by simp [hs])
    · cases h
theorem sized (c : Str) : (⟨c.toArray⟩ : ByteArray).data.toList = c := rfl

set_option maxHeartbeats 1000000 in
theorem listError_any {w : World} {a : Option Addr} {cap : Nat} {l : List Str} (h : StrsAt w a l) (hz : ∀ c ∈ l, c.length ≤ 1000000) (hcap : l.length ≤ cap) :
    Calls Try.prog 35 #[.slice a l.length cap] w fun e w' => e = .returned (.int .i64 (listE l)) ∧ w = w' := by
  have hf := h.few
  unfold maxLen at hf
  by_cases hlen : 256 < l.length
  · have E := hid (show listE l = 3 by unfold listE; rw [if_pos hlen])
    have i1 : (256 : Int) < l.length := by omega
    go_enter Try.func35, Try.ntmps35
    go_wp2_with fail
    go_ret
    exact ⟨ret_int E.out.symm, rfl⟩
  have E := hid (show listE l = listGo [] l by unfold listE; rw [if_neg hlen])
  have i1 : (l.length : Int) ≤ 256 := by omega
  have i2 : decide ((256 : Int) < l.length) = false := decide_eq_false (by omega)
  go_enter Try.func35, Try.ntmps35
  go_wp2_with fail
  go_loop [3, 4, 10] (fun _ _ i => ∃ k : Nat, k ≤ l.length ∧ i = .int .i64 (k : Int) ∧ Hid (ListTo l k)) (fun _ _ i => l.length - (intOf i).toNat)
  case atStart => exact ⟨0, Nat.zero_le _, rfl, hid (ListTo.zero l)⟩
  case round =>
    obtain ⟨k, hk, rfl, HT⟩ := hrel
    by_cases hlt : k < l.length
    · have hp : StrsAt w a (l.take k) → (l.take k).length = k := fun _ => by rw [List.length_take]; omega
      obtain ⟨b, off, rfl, hb, hc⟩ := h.get hlt
      have htk : StrsAt w (some ⟨b, off, none⟩) (l.take k) := by have := SeqAt.part h 0 k; simpa using this
      have hl := hp htk
      clear hp
      have hz1 := hz _ (List.getElem_mem hlt)
      have HW := hid (word_any ⟨(l[k]).toArray⟩ w (by show l[k].toArray.size ≤ maxLen; simp [maxLen]; omega))
      have HC := hid (contains_any (cap := cap) htk ⟨(l[k]).toArray⟩)
      rw [hl] at HC
      rw [sized] at HW HC
      have HN := hid (fun h1 h2 => HT.out.next hlt h1 h2)
      have H5 := hid (fun h1 => HT.out.word hlt h1)
      have H7 := hid (fun h1 h2 => HT.out.twice hlt h1 h2)
      unfold sV at hc
      have hb1 : (0 : Int) ≤ k := by omega
      have hb2 : (k : Int) < l.length := by omega
      have hb3 : k ≤ cap := by omega
      have hb4 : (k : Int) ≤ (cap : Int) := by omega
      have hb5 : ¬ cap = 0 := by omega
      have hb6 : cap ≠ 0 := hb5
      generalize l[k] = c at *
      clear h hz htk hl
      cases hw : wordB c with
      | false =>
        have HR := hid (H5.out hw)
        rw [hw] at HW
        clear hw
        go_wp2_with (go_at_call 31; refine HW.out.mono ?_; rintro e w' ⟨rfl, rfl⟩)
        go_ret
        exact ⟨ret_int (by rw [E.out, HR.out]), rfl⟩
      | true =>
        rw [hw] at HW
        cases hs : hasS (l.take k) c with
        | true =>
          have HR := hid (H7.out hw hs)
          rw [hs] at HC
          clear hs hw
          go_wp2_with (first
            | (go_at_call 31; refine HW.out.mono ?_; rintro e w' ⟨rfl, rfl⟩)
            | (go_at_call 59; refine HC.out.mono ?_; rintro e w' ⟨rfl, rfl⟩))
          go_ret
          exact ⟨ret_int (by rw [E.out, HR.out]), rfl⟩
        | false =>
          have HR := hid (HN.out hw hs)
          rw [hs] at HC
          clear hs hw
          go_wp2_with (first
            | (go_at_call 31; refine HW.out.mono ?_; rintro e w' ⟨rfl, rfl⟩)
            | (go_at_call 59; refine HC.out.mono ?_; rintro e w' ⟨rfl, rfl⟩))
          go_round
          case rel => exact ⟨k + 1, by omega, by go_num, hid HR.out⟩
          case measure => simp [intOf]; omega
    · have HR := hid (HT.out.all (by omega))
      go_wp2_with fail
      go_ret
      exact ⟨ret_int (by rw [E.out, HR.out]), rfl⟩
end Go.Proofs.Ytdikijbkfhimoaa
