/- Drop of the reference. -/
import Derived.Test.YtbcbffmbpoffpaaRef2
namespace Go.Proofs.Ytbcbffmbpoffpaa
open Go.RowKit Go.Maps

theorem ListAt.take0 {α : Type} {sz : Nat} {enc : α → List Value} {w : World} {a : Option Addr} {l : List α} (h : ListAt sz enc w a l) (k : Nat) : ListAt sz enc w a (l.take k) := by
  refine ⟨?_, Nat.le_trans (by simp; omega) h.few⟩
  rcases h.cells with rfl | ⟨b, off, e, hb, hc⟩
  · exact .inl (by simp)
  · exact .inr ⟨b, off, e, hb, fun i hi => by rw [List.getElem_take]; exact hc i (by simp at hi; omega)⟩
theorem adel_at {U : Users} (hu : AUniq U) {u : Str} {k : Nat} (hk : k < U.length) (h1 : U[k].1 = u) : U.take k ++ U.drop (k + 1) = adel U u := by
  unfold adel
  have e : U = U.take k ++ U[k] :: U.drop (k + 1) := by rw [List.getElem_cons_drop, List.take_append_drop]
  have hp := List.pairwise_iff_getElem.1 hu
  conv => rhs; rw [e]
  rw [List.filter_append, List.filter_cons, if_neg (by simp [h1])]
  congr 1
  · refine (List.filter_eq_self.2 (fun x hx => ?_)).symm
    obtain ⟨i, hi, rfl⟩ := List.getElem_of_mem hx
    have hi' : i < k := by simp at hi; omega
    rw [List.getElem_take]
    have := hp i k (by omega) hk hi'
    rw [h1] at this
    simpa using this
  · refine (List.filter_eq_self.2 (fun x hx => ?_)).symm
    obtain ⟨i, hi, rfl⟩ := List.getElem_of_mem hx
    have hi' : k + 1 + i < U.length := by simp at hi; omega
    rw [List.getElem_drop]
    have := hp k (k + 1 + i) hk hi' (by omega)
    rw [h1] at this
    simpa using fun e => this e.symm
theorem Like.cut {w : World} {X : List Raw} {U : Users} (h : Like w X U) (k : Nat) : Like w (X.take k ++ X.drop (k + 1)) (U.take k ++ U.drop (k + 1)) := by
  have hl := h.len
  refine ⟨by simp [hl], fun i h1 h2 => ?_⟩
  by_cases hi : i < (X.take k).length
  · have hi2 : i < (U.take k).length := by simp at hi ⊢; omega
    rw [List.getElem_append_left hi, List.getElem_append_left hi2, List.getElem_take, List.getElem_take]
    exact h.el i (by simp at hi; omega) (by simp at hi2; omega)
  · have hi2 : ¬ i < (U.take k).length := by simp at hi ⊢; omega
    rw [List.getElem_append_right (by omega), List.getElem_append_right (by omega), List.getElem_drop, List.getElem_drop]
    have e : (X.take k).length = (U.take k).length := by simp [hl]
    have hlen : k + 1 + (i - (X.take k).length) < X.length := by simp at h1 hi; simp; omega
    have := h.el (k + 1 + (i - (X.take k).length)) hlen (by omega)
    simp only [e] at this ⊢
    exact this

theorem drop_out {w w6 : World} {qb : Nat} {a a6 : Option Addr} {cap c6 k : Nat} {X N1 N2 : List Raw} {U : Users} (h : RefR w qb a cap X) (hl : Like w X U) (h1 : N1 = [] ++ X.take k) (h2 : N2 = N1 ++ X.drop (k + 1))
    (o : OwnL 74 4 encR w w6 a6 c6 N2) (hb : w6.heap[qb]? = some (.cells #[.slice a X.length cap, .bool true] 66 (0, 0))) :
    RefOut w (w6.setCell ⟨qb, 0, none⟩ (.slice a6 N2.length c6)) qb a (U.take k ++ U.drop (k + 1)) := by
  subst h1
  subst h2
  have hqb := lt_of_heap h.blk
  have hqa : qb ∉ fp a6 := fun hm => by have := o.new qb hm; omega
  have hs : Kept [qb] w6 (w6.setCell ⟨qb, 0, none⟩ (.slice a6 ([] ++ X.take k ++ X.drop (k + 1)).length c6)) := (Kept.refl [qb] w6).setCell (.inl (by simp)) _
  have hns2 : NoStr w6 [qb] := by
    intro i hi cur hc
    simp at hi
    subst hi
    rw [hb] at hc
    injection hc with hc; injection hc with _ hc _
    exact absurd hc (by decide)
  refine ⟨a6, c6, _, ⟨⟨?_, row_kept o.row hs (fun i hi hm => hqa (by simp at hm; subst hm; exact hi))⟩, ?_, (o.kept.mono (by simp)).setCell (.inl (by simp)) _, fun i hi => .inr (o.new i hi)⟩⟩
  · simp [World.setCell, Array.getElem?_modify, hb]
  · rw [List.nil_append]
    exact ((hl.cut k).kept o.kept (nostr_nil w)).kept hs hns2

set_option maxHeartbeats 1000000 in
set_option maxRecDepth 100000 in
theorem rdrop_any {w : World} {qb : Nat} {a : Option Addr} {cap : Nat} {X : List Raw} {U : Users} (h : RefR w qb a cap X) (hl : Like w X U) (huq : AUniq U) (hlen : U.length ≤ 256) (u : ByteArray) :
    Calls Try.prog 26 #[.pointer (some ⟨qb, 0, none⟩), .string u] w fun e w' => e = .returned (.bool (alook U u.data.toList).isSome) ∧ RefOut w w' qb a (adel U u.data.toList) := by
  obtain ⟨c0, c1⟩ := h.head
  have HAT := hid (rat_any h hl hlen u)
  rcases at_cases huq u.data.toList with ⟨e, hn⟩ | ⟨k, hk, e, hs, h1⟩
  · rw [e] at HAT
    have E := hid (show adel U u.data.toList = U from List.filter_eq_self.2 (fun x hx => by have := alook_none.1 hn x hx; simpa using this))
    have E2 := hid (show (alook U u.data.toList).isSome = false by rw [hn]; rfl)
    clear e hn
    go_enter Try.func26, Try.ntmps26
    go_wp2_with (go_at_call 39; refine HAT.out.mono ?_; rintro e w' ⟨rfl, rfl⟩)
    go_ret
    rw [E.out, E2.out]
    exact ⟨rfl, _, _, _, RefAt.start h hl⟩
  · rw [e] at HAT
    have hkx : k < X.length := by rw [hl.len]; exact hk
    have hxl : X.length ≤ 256 := by rw [hl.len]; exact hlen
    have E := hid (adel_at huq hk h1)
    have E2 := hid (show (alook U u.data.toList).isSome = true by rw [hs]; rfl)
    have hb1 : (0 : Int) ≤ k := by omega
    have hb2 : (k : Int) < X.length := by omega
    have hb3 : (k : Int) ≤ X.length := by omega
    have hcap := (OwnL.of_row h.row).cap
    have hcc : (X.length : Int) ≤ cap := by omega
    have hb4 : (k : Int) + 1 ≤ X.length := by omega
    have hb5 : (k : Int) ≤ cap := by omega
    have hb6 : (k : Int) + 1 ≤ cap := by omega
    have hseq := row_list encROk h.row
    have HT := hid (hseq.take0 k)
    have HD := hid (hseq.drop (k := k + 1) (by omega) hcap.1)
    obtain ⟨g, cur, rfl, hg, _⟩ := row_some h.row (by omega)
    obtain ⟨N1, HN1⟩ : ∃ N, Hid (N = [] ++ X.take k) := ⟨_, hid rfl⟩
    obtain ⟨N2, HN2⟩ : ∃ N, Hid (N = N1 ++ X.drop (k + 1)) := ⟨_, hid rfl⟩
    have HL := hid (show k = (X.take k).length by simp; omega)
    have HL2 := hid (show X.length - (k + 1) = (X.drop (k + 1)).length by simp)
    have HL1 := hid (show N1.length ≤ 256 by rw [HN1.out]; simp; omega)
    have HH := hid h
    have HLK := hid hl
    have hqbl := lt_of_heap h.blk
    have hqg : ¬ qb = g := by have := h.ne; simpa [fp] using this
    clear e hs h1 hseq hcap h hl huq
    by_cases hck : cap = k + 1
    · have HD2 := hid (by have := HD.out; rw [if_pos hck] at this; exact this)
      go_enter Try.func26, Try.ntmps26
      go_wp2_with (first
        | (go_at_call 39; refine HAT.out.mono ?_; rintro e w' ⟨rfl, rfl⟩)
        | (at_builtin; refine wp_appL encROk Try.underlying64 HN2.out o5 (HD2.out.keptN (k5.mono (by simp [fp]))) (by have := HL1.out; simp; omega) rfl _ _ rfl rfl rfl rfl HL2.out ?_; intro a6 c6 w6 o6 k6 f6; have hb6' := (k6.at (k5.at HH.out.blk (by simp [fp])) (fun hm => by have := o5.new _ hm; omega)); have hh6 := cell_at hb6' 0; have ff6 := free_at hb6' 0; simp at hh6)
        | (at_builtin; refine wp_appL encROk Try.underlying64 HN1.out (OwnL.start _) HT.out (by simp; omega) rfl _ _ rfl rfl rfl rfl HL.out ?_; intro a5 c5 w5 o5 k5 f5; have hh5 := (cell_at (k5.at HH.out.blk (by simp [fp])) 0); simp at hh5))
      go_ret
      rw [E2.out, ← E.out]
      exact ⟨rfl, drop_out HH.out HLK.out HN1.out HN2.out o6 hb6'⟩
    · have HD2 : Hid (ListAt 4 encR w (some ⟨g, (k + 1) * 4, none⟩) (X.drop (k + 1))) := by
        have := HD.out
        rw [if_neg hck] at this
        exact hid (by simpa [add_none] using this)
      go_enter Try.func26, Try.ntmps26
      go_wp2_with (first
        | (go_at_call 39; refine HAT.out.mono ?_; rintro e w' ⟨rfl, rfl⟩)
        | (at_builtin; refine wp_appL encROk Try.underlying64 HN2.out o5 (HD2.out.keptN (k5.mono (by simp [fp]))) (by have := HL1.out; simp; omega) rfl _ _ rfl rfl rfl rfl HL2.out ?_; intro a6 c6 w6 o6 k6 f6; have hb6' := (k6.at (k5.at HH.out.blk (by simp [fp])) (fun hm => by have := o5.new _ hm; omega)); have hh6 := cell_at hb6' 0; have ff6 := free_at hb6' 0; simp at hh6)
        | (at_builtin; refine wp_appL encROk Try.underlying64 HN1.out (OwnL.start _) HT.out (by simp; omega) rfl _ _ rfl rfl rfl rfl HL.out ?_; intro a5 c5 w5 o5 k5 f5; have hh5 := (cell_at (k5.at HH.out.blk (by simp [fp])) 0); simp at hh5))
      go_ret
      rw [E2.out, ← E.out]
      exact ⟨rfl, drop_out HH.out HLK.out HN1.out HN2.out o6 hb6'⟩
end Go.Proofs.Ytbcbffmbpoffpaa
