/-
  Rows of texts; the document's Same and Has. Conditions: as stated.
-/
import Derived.Test.YtiffdkagmnpjiaaTbP
set_option maxRecDepth 100000
set_option linter.unusedSimpArgs false
set_option linter.unusedVariables false
namespace Go.Proofs.Ytiffdkagmnpjiaa.TbQ
open Go.RowKit Go.Proofs.Ytiffdkagmnpjiaa.Mem Go.Proofs.Ytiffdkagmnpjiaa.TbA Go.Proofs.Ytiffdkagmnpjiaa.TbB Go.Proofs.Ytiffdkagmnpjiaa.Bytes Go.Proofs.Ytiffdkagmnpjiaa.TbI Go.Proofs.Ytiffdkagmnpjiaa.TbN

theorem drew2 (w : World) (a b : Nat) : (w.drewN a).drewN b = w.drewN (a + b) := by unfold World.drewN; simp [Nat.add_assoc]
theorem strs_len (l : List ByteArray) : (strs l).length = l.length := by simp [strs]
theorem rds_len {w : World} {A : Option Addr} {n c : Nat} {l : List ByteArray} (h : RdS w A n c l) : l.length = n := by have := h.len; rw [strs_len] at this; omega
theorem rds_get {w : World} {A : Option Addr} {n c : Nat} {l : List ByteArray} (h : RdS w A n c l) {i : Nat} {s : ByteArray} (hs : l[i]? = some s) : ∃ p, A = some p ∧ w.cell? (p.add i) = some (.string s) := h.get i _ (by simp [strs, hs])
theorem elS : El Try.prog 32 9 (.string ⟨#[]⟩) 1 16 := by
  obtain ⟨i, h1, h2, h3, h4⟩ := info_parts (show (Try.prog.info? 9).map (fun i => (i.zero, i.size, i.bytes)) = some (some (.string ⟨#[]⟩), 1, 16) by kernel_rfl)
  exact ⟨Try.underlying32, ⟨i, h1, h2, h3, h4⟩, rfl, by decide⟩
/-- A row of texts of the call's own. -/
abbrev OwnS (w : World) (B : Nat) (v : Value) (l : List ByteArray) : Prop := w.ownsRow B 9 1 v l.length (strs l)
theorem rds_own {w : World} {B n c : Nat} {A : Option Addr} {l : List ByteArray} (h : OwnS w B (.slice A n c) l) : RdS w A n c l := by
  have hn := own_n h
  unfold OwnS at h; rw [hn] at h
  exact Rd.of_own h
theorem own_snocS {w : World} {B : Nat} {v : Value} {l : List ByteArray} {x : ByteArray} (h : w.ownsRow B 9 1 v (l.length + 1) (strs l ++ [.string x])) : OwnS w B v (l ++ [x]) := by
  simpa [OwnS, strs] using h
theorem own_putS {w : World} {B g n c : Nat} {l : List ByteArray} (h : OwnS w B (.slice (some ⟨g, 0, none⟩) n c) l) {j : Nat} (x : ByteArray) :
    OwnS (w.setCell ⟨g, j, none⟩ (.string x)) B (.slice (some ⟨g, 0, none⟩) n c) (l.set j x) := by
  have hn : l.length = n := own_n h
  have := (World.ownsRow.stored (w := w) (base := B) (e := 9) (size := 1) (g := g) (n := n) (cap := c) (xs := strs l) (by unfold OwnS at h; rw [hn] at h; exact h) j (.string x)).1
  unfold OwnS
  rw [List.length_set, hn]
  simpa [strs, List.map_set] using this
theorem own_blk {w : World} {B : Nat} {v : Value} {l : List ByteArray} {x : ByteArray} (h : OwnS w B v (l ++ [x])) : ∃ g c, v = .slice (some ⟨g, 0, none⟩) (l ++ [x]).length c ∧ B ≤ g := by
  rcases h.2 with ⟨_, h0⟩ | ⟨g, cap, _, rfl, hb, _⟩
  · simp at h0
  · exact ⟨g, cap, rfl, hb⟩
theorem ownbS {w w' : World} {B : Nat} {v : Value} {l : List ByteArray} (h : OwnS w B v l) (hb : Below w.heap.size w w') : OwnS w' B v l := own_only h (Only.of_below hb) (fun k hk => by have := (h.lt k hk).2; omega)
theorem take_one_ {α : Type} {l : List α} {k : Nat} {x : α} (h : l[k]? = some x) : l.take (k + 1) = l.take k ++ [x] := by
  obtain ⟨hk, e⟩ := List.getElem?_eq_some_iff.1 h
  rw [List.take_succ_eq_append_getElem hk, e]
theorem below_drawn_ {B : Nat} {w w' : World} (h : Below B w w') (n : Nat) : Below B w (w'.drewN n) := h.trans ⟨rfl, rfl, rfl, Nat.le_refl _, fun _ _ => rfl⟩
theorem list_eq_of {α : Type} {a b : List α} (hl : a.length = b.length) (h : ∀ (i : Nat) (x y : α), a[i]? = some x → b[i]? = some y → x = y) : a = b := by
  apply List.ext_getElem hl
  intro i h1 h2
  exact h i _ _ (List.getElem?_eq_getElem h1) (List.getElem?_eq_getElem h2)

set_option maxHeartbeats 1000000 in
theorem sameS_calls (A : Option Addr) (n c : Nat) (l : List ByteArray) (B : Option Addr) (m d : Nat) (k : List ByteArray) (w : World) (ha : RdS w A n c l) (hb : RdS w B m d k) :
    Calls Try.prog 18 #[.slice A n c, .slice B m d] w fun e w' => e = .returned (.bool (decide (l = k))) ∧ ∃ nd, w' = w.drewN nd := by
  obtain rfl := rds_len ha
  obtain rfl := rds_len hb
  have h1 := ha.cap
  have h2 : c ≤ 9223372036854775807 := ha.big
  have h3 := hb.cap
  have h4 : d ≤ 9223372036854775807 := hb.big
  go_enter Try.func18, Try.ntmps18
  by_cases hl : l.length = k.length
  · have HL := Lib.hid hl
    have hbq : ((l.length : Int) == (k.length : Int)) = true := by simp [hl]
    clear hl
    go_wp2_with fail
    go_loopw [5] (fun i wr => ∃ j : Nat, j ≤ l.length ∧ i = .int .i64 j ∧ (∀ i x y, i < j → l[i]? = some x → k[i]? = some y → x = y) ∧ ∃ nd, wr = w.drewN nd) (fun i _ => l.length - (intOf i).toNat)
    case atStart => exact ⟨0, Nat.zero_le _, rfl, fun i x y h => by omega, 0, rfl⟩
    case round =>
      obtain ⟨j, hj, rfl, hin, nd, rfl⟩ := hrel
      have Hin := Lib.hid hin
      clear hin
      by_cases hlt : j < l.length
      · obtain ⟨s, hs⟩ : ∃ s, l[j]? = some s := ⟨_, List.getElem?_eq_getElem hlt⟩
        have hlt2 : j < k.length := by have := HL.out; omega
        obtain ⟨t, ht⟩ : ∃ t, k[j]? = some t := ⟨_, List.getElem?_eq_getElem hlt2⟩
        obtain ⟨p, rfl, cp⟩ := rds_get ha hs
        obtain ⟨q, rfl, cq⟩ := rds_get hb ht
        have Hs := Lib.hid (And.intro hs ht)
        clear hs ht
        cases he : (s.toList == t.toList)
        · have HE := Lib.hid he
          go_wp2_with fail
          go_quiet (fail)
          go_wp2_with fail
          go_ret
          exact ⟨by rw [decide_eq_false (fun e => by rw [e, Hs.out.2] at Hs; have h := Hs.out.1; injection h with h; have := HE.out; rw [h] at this; simp at this)]; rfl, nd + nq, by first | rfl | exact drew2 _ _ _⟩
        · have HE := Lib.hid he
          go_wp2_with fail
          go_quiet (fail)
          go_wp2_with fail
          refine ⟨⟨j + 1, by omega, by go_num, fun i x y hi hx hy => ?_, nd + nq, by first | rfl | exact drew2 _ _ _⟩, by simp [intOf]; omega⟩
          by_cases h : i < j
          · exact Hin.out i x y h hx hy
          · obtain rfl : i = j := by omega
            rw [Hs.out.1] at hx; injection hx with hx; subst hx
            rw [Hs.out.2] at hy; injection hy with hy; subst hy
            have := HE.out
            rw [beq_iff_eq] at this
            exact toL_inj this
      · obtain rfl : j = l.length := by omega
        go_wp2_with fail
        go_ret
        exact ⟨by rw [decide_eq_true (list_eq_of HL.out (fun i x y hx hy => Hin.out i x y (List.getElem?_eq_some_iff.1 hx).1 hx hy))]; rfl, nd, rfl⟩
  · have HL := Lib.hid hl
    have hbq : ((l.length : Int) == (k.length : Int)) = false := by simp; omega
    go_wp2_with fail
    go_ret
    exact ⟨by rw [decide_eq_false (fun e => HL.out (by rw [e]))]; rfl, 0, rfl⟩


set_option maxHeartbeats 1000000 in
theorem has_calls (A : Option Addr) (n c : Nat) (l : List ByteArray) (s : ByteArray) (w : World) (ha : RdS w A n c l) (hm : s ∈ l) :
    Calls Try.prog 20 #[.slice A n c, .string s] w fun e w' => e = .returned (.bool true) ∧ w' = w := by
  obtain rfl := rds_len ha
  have h1 := ha.cap
  have h2 : c ≤ 9223372036854775807 := ha.big
  have hm' : Hid (s ∈ l.drop 0) := hm
  clear hm
  go_enter Try.func20, Try.ntmps20
  go_wp2_with fail
  go_loopw [5] (fun i wr => ∃ j : Nat, j ≤ l.length ∧ i = .int .i64 j ∧ Hid (s ∈ l.drop j) ∧ wr = w) (fun i _ => l.length - (intOf i).toNat)
  case atStart => exact ⟨0, Nat.zero_le _, rfl, hm', rfl⟩
  case round =>
    clear hm'
    obtain ⟨j, hj, rfl, hin, rfl⟩ := hrel
    by_cases hlt : j < l.length
    · obtain ⟨t, ht⟩ : ∃ t, l[j]? = some t := ⟨_, List.getElem?_eq_getElem hlt⟩
      obtain ⟨p, rfl, cp⟩ := rds_get ha ht
      have hd : Hid (l.drop j = t :: l.drop (j + 1)) := by
        obtain ⟨h1, h2⟩ := List.getElem?_eq_some_iff.1 ht
        show _ = _; rw [← h2]; exact List.drop_eq_getElem_cons h1
      clear ht
      cases he : (t.toList == s.toList)
      · have hin2 : Hid (s ∈ l.drop (j + 1)) := by
          have := hin.out
          rw [hd.out] at this
          rcases List.mem_cons.1 this with h | h
          · subst h; simp at he
          · exact h
        clear hin hd
        go_wp2_with fail
        exact ⟨⟨j + 1, by omega, by go_num, hin2, by first | rfl | trivial⟩, by simp [intOf]; omega⟩
      · clear hin hd
        go_wp2_with fail
        go_ret
        exact ⟨rfl, rfl⟩
    · obtain rfl : j = l.length := by omega
      have := hin.out
      rw [List.drop_length] at this
      cases this
end Go.Proofs.Ytiffdkagmnpjiaa.TbQ
