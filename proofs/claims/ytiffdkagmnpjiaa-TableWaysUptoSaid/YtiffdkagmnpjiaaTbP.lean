/-
  The document's Check at an unknown name. Conditions: as stated.
-/
import Derived.Test.YtiffdkagmnpjiaaTbO
import Derived.Test.YtiffdkagmnpjiaaBase
import Derived.Lib.UnsafeStr
import Derived.Lib.BufferRead
set_option maxRecDepth 100000
set_option linter.unusedSimpArgs false
set_option linter.unusedVariables false
namespace Go.Proofs.Ytiffdkagmnpjiaa.TbP
open Go.RowKit Go.Proofs.Ytiffdkagmnpjiaa.Mem Go.Proofs.Ytiffdkagmnpjiaa.TbA Go.Proofs.Ytiffdkagmnpjiaa.TbB Go.Proofs.Ytiffdkagmnpjiaa.Bytes Go.Proofs.Ytiffdkagmnpjiaa.TbI Go.Proofs.Ytiffdkagmnpjiaa.TbJ Go.Proofs.Ytiffdkagmnpjiaa.TbL Go.Proofs.Ytiffdkagmnpjiaa.TbN Go.Proofs.Ytiffdkagmnpjiaa.TbO

theorem elY : El Try.prog 37 5 (.int .u8 0) 1 1 := by
  obtain ⟨i, h1, h2, h3, h4⟩ := info_parts (show (Try.prog.info? 5).map (fun i => (i.zero, i.size, i.bytes)) = some (some (.int .u8 0), 1, 1) by kernel_rfl)
  exact ⟨Try.underlying37, ⟨i, h1, h2, h3, h4⟩, rfl, by decide⟩
/-- A row of bytes of the call's own. -/
abbrev OwnY (w : World) (B : Nat) (v : Value) (l : List UInt8) : Prop := w.ownsRow B 5 1 v l.length (Lib.byteCells l)
theorem byteCells_app (l m : List UInt8) : Lib.byteCells (l ++ m) = Lib.byteCells l ++ Lib.byteCells m := by simp [Lib.byteCells]
/-- append(b, x) of one byte. -/
theorem wpList_app1Y {ops : Array Oper} {rest : List Oper} {o : Oper} {a : Act} {Q : Exit → Act → World → Prop} {w : World} (hgd : o.guard = none) (s x : Operand)
    (ho : o.op = .call { callee := .builtin .append, args := #[s, x], argTypes := #[37, 37] }) (B : Nat) (v : Value) (l : List UInt8) (hs : a.eval s = v) (hown : OwnY w B v l)
    (c : Int) (y : UInt8) (hy : c = y.toNat) (hx : a.eval x = .slice (some ⟨w.heap.size, 0, none⟩) 1 1) (hl : l.length + 1 ≤ 140737488355328) (hB : B ≤ w.heap.size)
    (h : ∀ v' w', OwnY w' B v' (l ++ [y]) → Below B w w' → wpList Try.prog ops Q rest (a.put o.dst v') w') : wpList Try.prog ops Q (o :: rest) a (w.alloc (.cells #[.int .u8 c] 5)) := by
  obtain ⟨i, hi, hz0, hz1, hz2⟩ := elY.info
  subst hy
  refine Base.wpList_append_one hgd s x 37 ho B 5 i (.int .u8 0) 1 elY.ht hi hz0 hz1 hz2 rfl v l.length (Lib.byteCells l) hs hown (.int .u8 y.toNat) rfl hx (by unfold maxLen; omega) (by omega) hB ?_
  intro v' w' h1 h2
  refine h v' w' ?_ h2
  unfold OwnY
  rw [byteCells_app, List.length_append]
  exact h1
def sh (s : ByteArray) (k : Nat) : List UInt8 := (s.data.toList.take k).map shB
theorem sh_len (s : ByteArray) (k : Nat) (h : k ≤ s.size) : (sh s k).length = k := by simp [sh]; omega
theorem sh_succ {s : ByteArray} {k : Nat} {x : UInt8} (hx : s.data.toList[k]? = some x) : sh s (k + 1) = sh s k ++ [shB x] := by
  simp [sh, List.take_add_one, hx]
theorem find_empty : findD ⟨#[]⟩ = none := by kernel_rfl
theorem sh_shown (s : ByteArray) (k : Nat) (h : k = min s.size 32) : (⟨(sh s k).toArray⟩ : ByteArray) = shownD s := by
  unfold sh shownD
  rcases Nat.le_total s.size 32 with h1 | h1
  · rw [h, Nat.min_eq_left h1, List.take_of_length_le (by simp), List.take_of_length_le (by simp; omega)]
  · rw [h, Nat.min_eq_right h1]
set_option maxHeartbeats 2000000 in
theorem checkR_unknown (A : Option Addr) (n c : Nat) (s : ByteArray) (l : List ByteArray) (w : World) (hr : (n = 0 ∧ s = ⟨#[]⟩) ∨ RdS w A n c (s :: l)) (hs : s.size ≤ 281474976710656) (hf : findD s = none) :
    Calls Try.prog 16 #[.slice A n c] w fun e w' => e = .returned (.string (unkn ++ shownD s)) ∧ Below w.heap.size w w' := by
  have hfind : Hid (∀ W, Calls Try.prog 9 #[.string s] W fun e w' => e = .returned (.tuple #[.agg #[.string ⟨#[]⟩, .int .i64 0, .bool false, .bool false, .int .i64 0, .int .i64 0, .int .i64 0], .bool false]) ∧ Below W.heap.size W w') := fun W => by have := findR_calls s W hs; rw [hf] at this; exact this
  have hsh := Lib.hid (sh_shown s)
  clear hf
  go_enter Try.func16, Try.ntmps16
  rcases hr with ⟨rfl, rfl⟩ | hr
  · go_wp2_with fail
    refine (hfind.out _).mono ?_
    rintro e w1 ⟨rfl, b1⟩
    have B1 := Lib.hid (b1.alloc b1.size (.cells #[.string ⟨#[]⟩, .int .i64 0, .bool false, .bool false, .int .i64 0, .int .i64 0, .int .i64 0] 23))
    clear hfind
    go_wp2_with fail
    go_loopw [6, 7] (fun v i wr => v = .slice none 0 0 ∧ i = .int .i64 0 ∧ Below w.heap.size w wr) (fun _ i _ => 0)
    case atStart => exact ⟨rfl, rfl, B1.out⟩
    case round =>
      obtain ⟨rfl, rfl, hb⟩ := hrel
      have hcv := Base.convert_own (P := Try.prog) (w := wr) (B := w.heap.size) (dst := 9) (v := .slice none 0 0) (l := []) elY.ht Try.underlying5 Try.underlying9 (World.ownsRow_nil _ _ _ _)
      go_wp2_with fail
      go_ret
      exact ⟨rfl, hb⟩
  · obtain ⟨p, rfl, x0⟩ := hr.get 0 (.string s) rfl
    rw [show p.add 0 = p from rfl] at x0
    have hn : n = l.length + 1 := by have := hr.len; simp [strs] at this; omega
    have hbig := hr.big
    have hcap := hr.cap
    have hbig' : c ≤ 9223372036854775807 := hbig
    go_wp2_with fail
    refine (hfind.out _).mono ?_
    rintro e w1 ⟨rfl, b1⟩
    have B1 := Lib.hid (b1.alloc b1.size (.cells #[.string ⟨#[]⟩, .int .i64 0, .bool false, .bool false, .int .i64 0, .int .i64 0, .int .i64 0] 23))
    clear hfind
    go_wp2_with fail
    go_loopw [6, 7] (fun v i wr => ∃ k : Nat, k ≤ s.size ∧ k ≤ 32 ∧ i = .int .i64 k ∧ OwnY wr w.heap.size v (sh s k) ∧ Below w.heap.size w wr) (fun _ i _ => 33 - (intOf i).toNat)
    case atStart => exact ⟨0, Nat.zero_le _, Nat.zero_le _, rfl, World.ownsRow_nil _ _ _ _, B1.out⟩
    case round =>
      clear B1
      obtain ⟨k, hk1, hk2, rfl, ho, hb⟩ := hrel
      have hsl := Lib.hid (sh_len s k hk1)
      obtain ⟨A1, c1, rfl⟩ := own_form ho
      by_cases hlt : k < s.size
      · by_cases hlt2 : k < 32
        · have hss : Hid (sh s (k + 1) = sh s k ++ [shB s[k]]) := sh_succ (by
            rw [TbH.bytes_at s k hlt]; rfl)
          go_wp2_with (at_builtin; refine wpList_app1Y rfl (.tmp 41) (.tmp 43) rfl w.heap.size _ (sh s k) rfl ho _ (shB s[k]) (by first | (rw [sh_yes (by omega)]; rfl) | rw [sh_no (by omega)]) rfl (by rw [hsl.out]; omega) hb.size ?_; intro v' w' o' b')
          all_goals exact ⟨⟨k + 1, by omega, by omega, by go_num, by rw [hss.out]; exact o', hb.trans b'⟩, by simp [intOf]; omega⟩
        · obtain rfl : k = 32 := by omega
          have hcv := Base.convert_own (P := Try.prog) (dst := 9) (l := sh s 32) elY.ht Try.underlying5 Try.underlying9 ho
          have hz := hsh.out 32 (by omega)
          rw [hz] at hcv
          have h32 := shown_size s
          clear hz
          go_wp2_with fail
          go_ret
          exact ⟨rfl, hb⟩
      · obtain rfl : k = s.size := by omega
        have hcv := Base.convert_own (P := Try.prog) (dst := 9) (l := sh s s.size) elY.ht Try.underlying5 Try.underlying9 ho
        have hz := hsh.out s.size (by omega)
        rw [hz] at hcv
        have h32 := shown_size s
        clear hz
        go_wp2_with fail
        go_ret
        exact ⟨rfl, hb⟩
set_option maxHeartbeats 2000000 in
theorem checkR_known (A : Option Addr) (n c : Nat) (s : ByteArray) (l : List ByteArray) (x : Sp) (w : World) (hr : RdS w A n c (s :: l)) (hs : s.size ≤ 281474976710656) (hf : findD s = some x) :
    Calls Try.prog 16 #[.slice A n c] w fun e w' => e = .returned (.string (checkD (s :: l))) ∧ Below w.heap.size w w' := by
  obtain ⟨p, rfl, x0⟩ := hr.get 0 (.string s) rfl
  rw [show p.add 0 = p from rfl] at x0
  have hn : n = l.length + 1 := by have := hr.len; simp [strs] at this; omega
  have hbig := hr.big
  have hcap := hr.cap
  have hbig' : c ≤ 9223372036854775807 := hbig
  obtain ⟨hm1, hm2, hm3⟩ := find_mem hf
  have hc : checkD (s :: l) = if bad (l.length + 1) x.ar then ariP ++ x.name else ⟨#[]⟩ := by unfold checkD; simp only [hf]; rfl
  have Hc := Lib.hid hc
  clear hc hr
  obtain ⟨xn, xa, xw, xc, xf, xl, xs⟩ := x
  simp only at hm1 hm2 hm3 Hc
  have hfind : Hid (∀ W, Calls Try.prog 9 #[.string s] W fun e w' => e = .returned (.tuple #[.agg #[.string xn, .int .i64 xa, .bool xw, .bool xc, .int .i64 xf, .int .i64 xl, .int .i64 xs], .bool true]) ∧ Below W.heap.size W w') := fun W => by have := findR_calls s W hs; rw [hf] at this; exact this
  go_enter Try.func16, Try.ntmps16
  go_wp2_with fail
  refine (hfind.out _).mono ?_
  rintro e w1 ⟨rfl, b1⟩
  clear hfind
  go_wp2_with fail
  all_goals (
    go_ret
    refine ⟨?_, b1.alloc b1.size _⟩
    rw [Hc.out]
    first
      | (rw [if_pos (by simp [bad]; omega)]; rfl)
      | (rw [if_neg (by simp [bad]; omega)]; rfl))
end Go.Proofs.Ytiffdkagmnpjiaa.TbP
