/-
  The bytes of effects: the program's Encode. Conditions: as stated.
-/
import Derived.Test.YtgmnnpbbiejbnaaGreatEfA
import Derived.Test.YtgmnnpbbiejbnaaGreatSqE
import Derived.Test.YtgmnnpbbiejbnaaGreatMgK
set_option maxRecDepth 100000
set_option linter.unusedSimpArgs false
set_option linter.unusedVariables false
namespace Go.Proofs.YtgmnnpbbiejbnaaGreat.EfB
open Go.RowKit Go.Proofs.YtgmnnpbbiejbnaaGreat.Mem Go.Proofs.YtgmnnpbbiejbnaaGreat.VaA Go.Proofs.YtgmnnpbbiejbnaaGreat.VaC Go.Proofs.YtgmnnpbbiejbnaaGreat.VaE Go.Proofs.YtgmnnpbbiejbnaaGreat.VaH Go.Proofs.YtgmnnpbbiejbnaaGreat.VaI Go.Proofs.YtgmnnpbbiejbnaaGreat.VaX Go.Proofs.YtgmnnpbbiejbnaaGreat.DuA Go.Proofs.YtgmnnpbbiejbnaaGreat.SpA Go.Proofs.YtgmnnpbbiejbnaaGreat.SpB Go.Proofs.YtgmnnpbbiejbnaaGreat.SpC Go.Proofs.YtgmnnpbbiejbnaaGreat.SpD Go.Proofs.YtgmnnpbbiejbnaaGreat.SpE Go.Proofs.YtgmnnpbbiejbnaaGreat.SpF Go.Proofs.YtgmnnpbbiejbnaaGreat.SpG Go.Proofs.YtgmnnpbbiejbnaaGreat.EfA
open Go.Proofs.YtgmnnpbbiejbnaaGreat.SpS (writeString bText bFresh)
open Go.Proofs.YtgmnnpbbiejbnaaGreat.Builder (writeByte)

/-- The bytes of an effect. -/
def bytesE (e : PE) : List UInt8 :=
  if e.kind = 1 then 1 :: (le e.key.size 8 ++ e.key.data.toList ++ le e.due.toNat 8 ++ encP e.v) else if e.kind = 2 then 2 :: (le e.key.size 8 ++ e.key.data.toList) else if e.kind = 3 then 3 :: (le e.key.size 8 ++ e.key.data.toList ++ le e.due.toNat 8) else [4]
def encL (l : List PE) : List UInt8 := l.flatMap bytesE
def encR (l : List PE) : ByteArray × Int := if l.all mayP then (⟨(encL l).toArray⟩, 0) else (⟨#[]⟩, 160)
theorem encL_snoc (l : List PE) (e : PE) : encL (l ++ [e]) = encL l ++ bytesE e := by simp [encL]
theorem encL_take (l : List PE) (k : Nat) : (encL (l.take k)).length ≤ (encL l).length := by
  conv => rhs; rw [← List.take_append_drop k l]
  unfold encL
  rw [List.flatMap_append, List.length_append]; omega
theorem eight_calls (n : Nat) (w : World) (hn : n ≤ 1000000000000000000) :
    Calls Tryz.prog 31 #[.int .i64 n] w fun e w' => e = .returned (.string ⟨(le n 8).toArray⟩) ∧ Below w.heap.size w w' := by
  have hf := fix_calls n 8 w (by decide) (by decide) (Nat.lt_of_le_of_lt hn (by decide))
  go_enter Tryz.func31, Tryz.ntmps31
  go_wp2_with fail
  refine hf.mono ?_
  clear hf
  rintro e w2 ⟨rfl, b2⟩
  go_wp2_with fail
  go_ret
  exact ⟨rfl, b2⟩
/-- An effect in its box. -/
abbrev EB (bx : Nat) (kd : Int) (key : ByteArray) (x : VV) (due : Int) (w : World) : Prop := w.heap[bx]? = some (.cells #[.int .i64 kd, .string key, .int .i64 x.kind, .string x.text, .slice x.LA x.ln x.lc, .slice x.FA x.fn x.fc, .slice x.KA x.kn x.kc, .int .i64 due] 44 (0, 0)) ∧ w.cell? ⟨bx, 0, none⟩ = some (.int .i64 kd) ∧ w.cell? ⟨bx, 1, none⟩ = some (.string key) ∧ w.cell? ⟨bx, 2, none⟩ = some (.int .i64 x.kind) ∧ w.cell? ⟨bx, 3, none⟩ = some (.string x.text) ∧ w.cell? ⟨bx, 4, none⟩ = some (.slice x.LA x.ln x.lc) ∧ w.cell? ⟨bx, 5, none⟩ = some (.slice x.FA x.fn x.fc) ∧ w.cell? ⟨bx, 6, none⟩ = some (.slice x.KA x.kn x.kc) ∧ w.cell? ⟨bx, 7, none⟩ = some (.int .i64 due)
section
variable {w w' : World} {bx : Nat} {kd due : Int} {key : ByteArray} {x : VV}
theorem eb_of (h : w.heap[bx]? = some (.cells #[.int .i64 kd, .string key, .int .i64 x.kind, .string x.text, .slice x.LA x.ln x.lc, .slice x.FA x.fn x.fc, .slice x.KA x.kn x.kc, .int .i64 due] 44 (0, 0))) : EB bx kd key x due w := by
  refine ⟨h, ?_, ?_, ?_, ?_, ?_, ?_, ?_, ?_⟩ <;> simp [World.cell?, h]
theorem eb_below (h : EB bx kd key x due w) (hb : Below w.heap.size w w') : EB bx kd key x due w' :=
  eb_of ((Only.of_below hb).heap h.1 (by have := (Array.getElem?_eq_some_iff.1 h.1).1; omega))
theorem eb_others {b : Nat} (h : EB bx kd key x due w) (ho : Lib.OthersKept 5 (some b) w w') (hb : b ≠ bx) : EB bx kd key x due w' := by
  refine eb_of (ho bx _ h.1 (fun e' => hb (by injection e' with e'; exact e'.symm)) (fun c fz e' => ?_))
  injection e' with _ e2 _
  exact absurd e2 (by decide)
end
theorem row_len {W : World} {A : Option Addr} {n c : Nat} {es : List EV} (h : Rd W 8 A n c (rows EV.cells es)) : es.length = n := rd_rows_len ev_len (by decide) h
theorem may_all {ps : List PE} {k : Nat} {p : PE} (h : ps[k]? = some p) (hm : mayP p = false) : ps.all mayP = false := by
  rw [List.all_eq_false]
  exact ⟨p, List.mem_of_getElem? h, by rw [hm]; decide⟩
theorem bytes_sz (l : List UInt8) : (⟨l.toArray⟩ : ByteArray).size = l.length := by show l.toArray.size = _; simp
set_option maxHeartbeats 16000000 in
theorem encode_calls (A : Option Addr) (n c : Nat) (es : List EV) (w : World) (hr : Rd w 8 A n c (rows EV.cells es)) (hok : ∀ e ∈ es, RdV w e.x ∧ Sm e.x ∧ e.key.size ≤ 100000000) (hsz : (encL (es.map peOf)).length ≤ 1000000000000) :
    Calls Tryz.prog 9 #[.slice A n c] w fun e w' => e = .returned (.tuple #[.string (encR (es.map peOf)).1, .int .i64 (encR (es.map peOf)).2]) ∧ Below w.heap.size w w' := by
  have hln := row_len hr
  have hcap := hr.cap
  have hbig := hr.big
  unfold maxLen at hbig
  obtain ⟨ps, hps⟩ : ∃ ps, es.map peOf = ps := ⟨_, rfl⟩
  have hpl : ps.length = n := by rw [← hps, List.length_map]; exact hln
  rw [hps] at hsz ⊢
  have b0 : Below w.heap.size w (w.alloc (.cells #[.pointer none, .slice none 0 0] 65)) := (Below.refl _ _).alloc (Nat.le_refl _) _
  have hfr := bFresh w
  have H := Lib.hid (And.intro hr (And.intro hok (And.intro hln (And.intro hps (And.intro hpl (And.intro hsz (And.intro b0 hfr)))))))
  clear hr hok hln hps hpl hsz b0 hfr
  go_enter Tryz.func9, Tryz.ntmps9
  go_wp2_with fail
  go_loopw [11] (fun i wr => ∃ k : Nat, k ≤ n ∧ i = .int .i64 k ∧ Lib.IsBuilderF 65 5 w.heap.size w.heap.size (Lib.byteCells (encL (ps.take k))) wr ∧ (ps.take k).all mayP = true ∧ Below w.heap.size w wr ∧ w.heap.size < wr.heap.size) (fun i _ => n - (intOf i).toNat)
  case atStart => exact ⟨0, Nat.zero_le _, rfl, by simpa [encL] using H.out.2.2.2.2.2.2.2, rfl, H.out.2.2.2.2.2.2.1, by rw [World.size_alloc]; omega⟩
  case round =>
    obtain ⟨k, hk, rfl, hI, hal, hb, hbs⟩ := hrel
    by_cases hlt : k < n
    · obtain ⟨hr, hok, hln, hps, hpl, hsz, b0, hfr⟩ := H.out
      obtain ⟨e0, he0⟩ : ∃ e0, es[k]? = some e0 := ⟨_, List.getElem?_eq_getElem (by omega)⟩
      obtain ⟨rv, sm, hks⟩ := hok e0 (List.mem_of_getElem? he0)
      have hp0 : ps[k]? = some (peOf e0) := by rw [← hps, List.getElem?_map, he0]; rfl
      obtain ⟨pa, rfl, cx⟩ := rd_rows_get ev_len hr he0 (by decide)
      obtain ⟨kd, key, x, due⟩ := e0
      dsimp only at rv sm hks
      have g0 : wr.cell? (pa.add (k * 8)) = some (.int .i64 kd) := below_c (cx 0 _ rfl) hb
      have g1 : wr.cell? ⟨(pa.add (k * 8)).block, (pa.add (k * 8)).off + 1, none⟩ = some (.string key) := below_c (cx 1 _ rfl) hb
      have g2 : wr.cell? ⟨(pa.add (k * 8)).block, (pa.add (k * 8)).off + 2, none⟩ = some (.int .i64 x.kind) := below_c (cx 2 _ rfl) hb
      have g3 : wr.cell? ⟨(pa.add (k * 8)).block, (pa.add (k * 8)).off + 3, none⟩ = some (.string x.text) := below_c (cx 3 _ rfl) hb
      have g4 : wr.cell? ⟨(pa.add (k * 8)).block, (pa.add (k * 8)).off + 4, none⟩ = some (.slice x.LA x.ln x.lc) := below_c (cx 4 _ rfl) hb
      have g5 : wr.cell? ⟨(pa.add (k * 8)).block, (pa.add (k * 8)).off + 5, none⟩ = some (.slice x.FA x.fn x.fc) := below_c (cx 5 _ rfl) hb
      have g6 : wr.cell? ⟨(pa.add (k * 8)).block, (pa.add (k * 8)).off + 6, none⟩ = some (.slice x.KA x.kn x.kc) := below_c (cx 6 _ rfl) hb
      have g7 : wr.cell? ⟨(pa.add (k * 8)).block, (pa.add (k * 8)).off + 7, none⟩ = some (.int .i64 due) := below_c (cx 7 _ rfl) hb
      have htk := List.take_succ_eq_append_getElem (List.getElem?_eq_some_iff.1 hp0).1
      rw [(List.getElem?_eq_some_iff.1 hp0).2] at htk
      have hlen : (encL (ps.take k)).length + (bytesE (peOf ⟨kd, key, x, due⟩)).length ≤ 1000000000000 := by
        have := encL_take ps (k + 1)
        rw [htk, encL_snoc, List.length_append] at this; omega
      have hrv := rv.below hb
      have HRV := Lib.hid (And.intro rv sm)
      have HQ := Lib.hid (And.intro hI (And.intro hal (And.intro hb (And.intro hbs (And.intro hp0 (And.intro htk (And.intro hlen (And.intro hrv sm))))))))
      have hkn : ((k : Nat) : Int) < (n : Int) := by omega
      clear hI hal hb hbs hr hok hln hps hpl hsz b0 hfr he0 rv cx hp0 htk hlen hrv sm
      go_upto_region 5 with fail
      generalize hW2 : wr.alloc _ = W2
      have b2 : Below wr.heap.size wr W2 := by rw [← hW2]; exact (Below.refl _ _).alloc (Nat.le_refl _) _
      have hbx := heap_alloc_new wr (.cells #[.int .i64 kd, .string key, .int .i64 x.kind, .string x.text, .slice x.LA x.ln x.lc, .slice x.FA x.fn x.fc, .slice x.KA x.kn x.kc, .int .i64 due] 44)
      rw [hW2] at hbx
      obtain ⟨bx, hbx9⟩ : ∃ bx, wr.heap.size = bx := ⟨_, rfl⟩
      rw [hbx9] at hbx ⊢
      obtain ⟨hI, hal, hb, hbs, hp0, htk, hlen, hrv, sm⟩ := HQ.out
      have eb2 : EB bx kd key x due W2 := eb_of hbx
      have hbb : w.heap.size ≠ bx := by omega
      obtain ⟨mb, hmb⟩ : ∃ mb, mayP (peOf ⟨kd, key, x, due⟩) = mb := ⟨_, rfl⟩
      have hmy := may_calls ⟨kd, key, x, due⟩ W2 (hrv.below b2) sm
      rw [hmb] at hmy
      unfold evV at hmy
      dsimp only at hmy
      have H2 := Lib.hid (And.intro b2 (And.intro eb2 (And.intro hbb (And.intro hmb hbx9))))
      obtain ⟨-, y0, y1, y2, y3, y4, y5, y6, y7⟩ := eb2
      clear hW2 b2 hbx hI hal hb hbs hp0 htk hlen hrv sm hbb hmb hbx9 g0 g1 g2 g3 g4 g5 g6 g7
      cases mb with
      | false =>
        go_wp2_with fail
        refine hmy.mono ?_
        rintro e w4 ⟨rfl, b4⟩
        clear hmy y0 y1 y2 y3 y4 y5 y6 y7
        go_wp2_with fail
        go_ret2
        obtain ⟨hI, hal, hb, hbs, hp0, htk, hlen, hrv, sm⟩ := HQ.out
        obtain ⟨b2, eb2, hbb, hmb, hbx9⟩ := H2.out
        have : encR ps = (⟨#[]⟩, 160) := by unfold encR; rw [may_all hp0 hmb]; rfl
        rw [this]
        exact ⟨rfl, EfA.bb hb (EfA.bb b2 b4)⟩
      | true =>
        go_wp2_with fail
        refine hmy.mono ?_
        clear hmy y0 y1 y2 y3 y4 y5 y6 y7
        rintro e w4 ⟨rfl, b4⟩
        obtain ⟨hI, hal, hb, hbs, hp0, htk, hlen, hrv, sm⟩ := HQ.out
        obtain ⟨b2, eb2, hbb, hmb, hbx9⟩ := H2.out
        have eb4 := eb_below eb2 b4
        have hI4 := Lib.IsBuilderF.below hI (EfA.bb b2 b4)
        have hb4 := EfA.bb hb (EfA.bb b2 b4)
        have hrv4 := hrv.below (EfA.bb b2 b4)
        have hsz4 := hb4.size
        have hal2 : (ps.take (k + 1)).all mayP = true := by rw [htk, List.all_append, hal]; simp [hmb]
        have henc : encL (ps.take (k + 1)) = encL (ps.take k) ++ bytesE (peOf ⟨kd, key, x, due⟩) := by rw [htk, encL_snoc]
        obtain ⟨L, hL⟩ : ∃ L, encL (ps.take k) = L := ⟨_, rfl⟩
        rw [hL] at hI4 henc hlen
        have hbs4 : w.heap.size < w4.heap.size := by have := (EfA.bb b2 b4).size; omega
        have hcl : (Lib.byteCells L).length = L.length := by simp [Lib.byteCells]
        have HK := Lib.hid (And.intro hb4 (And.intro hrv4 (And.intro sm (And.intro hal2 (And.intro henc hbs4)))))
        have hks0 : ((key.size : Nat) : Int) ≤ 100000000 := by omega
        clear HQ H2 hI hal hb hbs hp0 htk hrv sm b2 eb2 hbx9 hal2 hL b4 hb4 hrv4 hbs4 henc
        unfold mayP peOf at hmb
        dsimp only at hmb
        by_cases k1 : kd = 1
        · subst k1
          have hbe : bytesE (peOf ⟨1, key, x, due⟩) = 1 :: (le key.size 8 ++ key.data.toList ++ le due.toNat 8 ++ encP (pvOf x)) := by unfold bytesE peOf; simp
          rw [hbe] at hlen
          have hdu : 0 ≤ due ∧ due ≤ 9007199254740992 := by simp at hmb; exact (tick_iff due).1 hmb.2
          have hck : chkP (pvOf x) = 0 := by simp at hmb; exact hmb.1
          obtain ⟨dn, rfl⟩ : ∃ dn : Nat, due = (dn : Int) := ⟨due.toNat, by omega⟩
          have hdn : dn ≤ 9007199254740992 := by omega
          rw [Int.toNat_natCast] at hbe hlen
          clear hmb
          have hxx : key.data.toList.length = key.size := by rw [Array.length_toList]; rfl
          simp only [List.length_cons, List.length_append, le_len, hxx, List.length_nil] at hlen
          have HBE := Lib.hid hbe
          clear hbe
          have hwb := writeByte w.heap.size w.heap.size _ 1 w4 hI4 (by rw [hcl]; omega) hsz4
          have HE4 := Lib.hid eb4
          clear hI4 eb4
          obtain ⟨-, y0, y1, y2, y3, y4, y5, y6, y7⟩ := HE4.out
          go_wp2_with fail
          refine hwb.mono ?_
          clear hwb y0 y1 y2 y3 y4 y5 y6 y7
          rintro e w5 ⟨rfl, i5, b5, k5⟩
          have eb5 := eb_others HE4.out k5 hbb
          have hbc : Lib.byteCells L ++ [Value.int .u8 1] = Lib.byteCells (L ++ [1]) := by rw [byteCells_app]; rfl
          rw [hbc] at i5
          have i5 : Lib.IsBuilderF 65 5 w.heap.size w.heap.size (Lib.byteCells (L ++ [1])) w5 := .inr i5
          clear hbc
          have hb5 : Below w.heap.size w w5 := HK.out.1.trans b5
          have hsz5 := hb5.size
          have hbs5 : w.heap.size < w5.heap.size := Nat.lt_of_lt_of_le HK.out.2.2.2.2.2 b5.size
          have H5 := Lib.hid (And.intro hb5 hbs5)
          clear hb5 hbs5 b5 k5
          have HE5 := Lib.hid eb5
          have HI5 := Lib.hid i5
          clear i5
          obtain ⟨-, y0, y1, y2, y3, y4, y5, y6, y7⟩ := HE5.out
          obtain ⟨S1, hS1⟩ : ∃ S1 : ByteArray, (⟨(le key.size 8).toArray⟩ : ByteArray) = S1 := ⟨_, rfl⟩
          have z1 : S1.size = 8 := by rw [← hS1, bytes_sz, le_len]
          have hei := fun w => eight_calls key.size w (by omega)
          rw [hS1] at hei
          have HS1 := Lib.hid hS1
          clear hS1
          have a1 : ¬ 9223372036854775807 < 8 + key.size := by omega
          have hcl5 : (Lib.byteCells (L ++ [1])).length + (S1 ++ key).size ≤ 140737488355328 := by simp [Lib.byteCells, ByteArray.size_append]; omega
          go_upto_region 9 with fail
          go_region_held3 (fun w' => EB bx 1 key x (dn : Int) w')
            (first | exact eb5 | exact eb_below (by assumption) (by assumption) | exact eb_others (by assumption) (by assumption) hbb)
            (first
              | (go_at_call 31; refine (hei _).mono ?_; rintro e w6 ⟨rfl, b6⟩)
              | (go_at_call 30; refine (writeString w.heap.size w.heap.size _ (S1 ++ key) w6 (Lib.IsBuilderF.below (Lib.IsBuilderF.below HI5.out ((Below.refl _ _).drew)) b6) hcl5 (Nat.le_trans hsz5 b6.size)).mono ?_; rintro e w7 ⟨rfl, i7, b7, k7⟩))
          have eb7 : EB bx 1 key x (dn : Int) w7 := by assumption
          have HE7 := Lib.hid eb7
          have hb7 : Below w.heap.size w w7 := (H5.out.1.trans ((((Below.refl _ _).drew).trans b6).mono H5.out.1.size)).trans b7
          have hbs7 : w.heap.size < w7.heap.size := Nat.lt_of_lt_of_le H5.out.2 (Nat.le_trans b6.size b7.size)
          obtain ⟨L7, hL7⟩ : ∃ L7, L ++ [1] ++ (S1 ++ key).data.toList = L7 := ⟨_, rfl⟩
          have i7 : Lib.IsBuilderF 65 5 w.heap.size w.heap.size (Lib.byteCells L7) w7 := by rw [← hL7, byteCells_app]; exact .inr i7
          have hl7 : L7.length = L.length + 9 + key.size := by rw [← hL7]; simp [ByteArray.data_append, ByteArray.size_append]; have := hxx; simp at this; omega
          have H7 := Lib.hid (And.intro hb7 (And.intro hbs7 hL7))
          have hsz7 := hb7.size
          clear eb7 hb7 hbs7 hL7 b6 b7 k7 y0 y1 y2 y3 y4 y5 y6 y7 hei hcl5 hsz5 HE4 HE5 HI5
          obtain ⟨-, y0, y1, y2, y3, y4, y5, y6, y7⟩ := HE7.out
          obtain ⟨S2, hS2⟩ : ∃ S2 : ByteArray, (⟨(le dn 8).toArray⟩ : ByteArray) = S2 := ⟨_, rfl⟩
          have z2 : S2.size = 8 := by rw [← hS2, bytes_sz, le_len]
          have hei := fun w => eight_calls dn w (by omega)
          rw [hS2] at hei
          have HS2 := Lib.hid hS2
          clear hS2
          have HI7 := Lib.hid i7
          clear i7
          go_wp2_with fail
          refine (hei _).mono ?_
          rintro e w8 ⟨rfl, b8⟩
          have eb8 := eb_below HE7.out b8
          have hws := writeString w.heap.size w.heap.size _ S2 w8 (Lib.IsBuilderF.below HI7.out b8) (by simp [Lib.byteCells]; omega) (Nat.le_trans hsz7 b8.size)
          have H8 := Lib.hid (And.intro eb8 b8)
          clear eb8 b8 hei y0 y1 y2 y3 y4 y5 y6 y7
          go_wp2_with fail
          refine hws.mono ?_
          clear hws
          rintro e w9 ⟨rfl, i9, b9, k9⟩
          have eb9 := eb_others H8.out.1 k9 hbb
          have HE9 := Lib.hid eb9
          have hb9 : Below w.heap.size w w9 := (H7.out.1.trans (H8.out.2.mono H7.out.1.size)).trans b9
          have hbs9 : w.heap.size < w9.heap.size := Nat.lt_of_lt_of_le H7.out.2.1 (Nat.le_trans H8.out.2.size b9.size)
          obtain ⟨L9, hL9⟩ : ∃ L9, L7 ++ S2.data.toList = L9 := ⟨_, rfl⟩
          have i9 : Lib.IsBuilderF 65 5 w.heap.size w.heap.size (Lib.byteCells L9) w9 := by rw [← hL9, byteCells_app]; exact .inr i9
          have hs2l : S2.data.toList.length = S2.size := by rw [Array.length_toList]; rfl
          have hl9 : L9.length = L7.length + 8 := by rw [← hL9, List.length_append]; omega
          have H9 := Lib.hid (And.intro hb9 (And.intro hbs9 hL9))
          have hsz9 := hb9.size
          clear eb9 hb9 hbs9 hL9 b9 k9 H8 HE7 HI7
          obtain ⟨-, y0, y1, y2, y3, y4, y5, y6, y7⟩ := HE9.out
          obtain ⟨rv, sm⟩ := HRV.out
          have hec := VaI.encode_calls x w9 (rv.below H9.out.1) sm
          obtain ⟨S3, hS3⟩ : ∃ S3 : ByteArray, (⟨(encV x).toArray⟩ : ByteArray) = S3 := ⟨_, rfl⟩
          rw [hS3, chk_pv rv, hck] at hec
          have hs3l : S3.size = (encP (pvOf x)).length := by rw [← hS3, bytes_sz, enc_pv rv]
          have HS3 := Lib.hid hS3
          unfold VV.val at hec
          have HI9 := Lib.hid i9
          clear i9 rv sm hS3 hck
          go_wp2_with fail
          refine hec.mono ?_
          clear hec
          rintro e wa ⟨rfl, ba⟩
          have hws := writeString w.heap.size w.heap.size _ S3 wa (Lib.IsBuilderF.below HI9.out ba) (by simp [Lib.byteCells]; omega) (Nat.le_trans hsz9 ba.size)
          have HA := Lib.hid ba
          clear ba y0 y1 y2 y3 y4 y5 y6 y7
          go_wp2_with fail
          refine hws.mono ?_
          clear hws
          rintro e wb ⟨rfl, ib, bb, kb⟩
          have hbB : Below w.heap.size w wb := (H9.out.1.trans (HA.out.mono H9.out.1.size)).trans bb
          have hbsB : w.heap.size < wb.heap.size := Nat.lt_of_lt_of_le H9.out.2.1 (Nat.le_trans HA.out.size bb.size)
          have hfin : L9 ++ S3.data.toList = encL (ps.take (k + 1)) := by rw [HK.out.2.2.2.2.1, HBE.out, ← H9.out.2.2, ← H7.out.2.2, ← HS1.out, ← HS2.out, ← HS3.out, enc_pv HRV.out.1]; simp [ByteArray.data_append]
          have ib : Lib.IsBuilderF 65 5 w.heap.size w.heap.size (Lib.byteCells (encL (ps.take (k + 1)))) wb := by rw [← hfin, byteCells_app]; exact .inr ib
          have HB := Lib.hid (And.intro hbB hbsB)
          clear hfin hbB hbsB bb kb
          go_wp2_with fail
          exact ⟨⟨k + 1, by omega, by go_num, ib, HK.out.2.2.2.1, HB.out.1, HB.out.2⟩, by simp [intOf]; omega⟩
        by_cases k2 : kd = 2
        · subst k2
          have hbe : bytesE (peOf ⟨2, key, x, due⟩) = 2 :: (le key.size 8 ++ key.data.toList) := by unfold bytesE peOf; simp
          rw [hbe] at hlen
          clear hmb
          have hxx : key.data.toList.length = key.size := by rw [Array.length_toList]; rfl
          simp only [List.length_cons, List.length_append, le_len, hxx, List.length_nil] at hlen
          have HBE := Lib.hid hbe
          clear hbe
          have hwb := writeByte w.heap.size w.heap.size _ 2 w4 hI4 (by rw [hcl]; omega) hsz4
          have HE4 := Lib.hid eb4
          clear hI4 eb4
          obtain ⟨-, y0, y1, y2, y3, y4, y5, y6, y7⟩ := HE4.out
          go_wp2_with fail
          refine hwb.mono ?_
          clear hwb y0 y1 y2 y3 y4 y5 y6 y7
          rintro e w5 ⟨rfl, i5, b5, k5⟩
          have eb5 := eb_others HE4.out k5 hbb
          have hbc : Lib.byteCells L ++ [Value.int .u8 2] = Lib.byteCells (L ++ [2]) := by rw [byteCells_app]; rfl
          rw [hbc] at i5
          have i5 : Lib.IsBuilderF 65 5 w.heap.size w.heap.size (Lib.byteCells (L ++ [2])) w5 := .inr i5
          clear hbc
          have hb5 : Below w.heap.size w w5 := HK.out.1.trans b5
          have hsz5 := hb5.size
          have hbs5 : w.heap.size < w5.heap.size := Nat.lt_of_lt_of_le HK.out.2.2.2.2.2 b5.size
          have H5 := Lib.hid (And.intro hb5 hbs5)
          clear hb5 hbs5 b5 k5
          have HE5 := Lib.hid eb5
          have HI5 := Lib.hid i5
          clear i5
          obtain ⟨-, y0, y1, y2, y3, y4, y5, y6, y7⟩ := HE5.out
          obtain ⟨S1, hS1⟩ : ∃ S1 : ByteArray, (⟨(le key.size 8).toArray⟩ : ByteArray) = S1 := ⟨_, rfl⟩
          have z1 : S1.size = 8 := by rw [← hS1, bytes_sz, le_len]
          have hei := fun w => eight_calls key.size w (by omega)
          rw [hS1] at hei
          have HS1 := Lib.hid hS1
          clear hS1
          have a1 : ¬ 9223372036854775807 < 8 + key.size := by omega
          have hcl5 : (Lib.byteCells (L ++ [2])).length + (S1 ++ key).size ≤ 140737488355328 := by simp [Lib.byteCells, ByteArray.size_append]; omega
          go_upto_region 9 with fail
          go_region_held3 (fun w' => EB bx 2 key x due w')
            (first | exact eb5 | exact eb_below (by assumption) (by assumption) | exact eb_others (by assumption) (by assumption) hbb)
            (first
              | (go_at_call 31; refine (hei _).mono ?_; rintro e w6 ⟨rfl, b6⟩)
              | (go_at_call 30; refine (writeString w.heap.size w.heap.size _ (S1 ++ key) w6 (Lib.IsBuilderF.below (Lib.IsBuilderF.below HI5.out ((Below.refl _ _).drew)) b6) hcl5 (Nat.le_trans hsz5 b6.size)).mono ?_; rintro e w7 ⟨rfl, i7, b7, k7⟩))
          have eb7 : EB bx 2 key x due w7 := by assumption
          have HE7 := Lib.hid eb7
          have hb7 : Below w.heap.size w w7 := (H5.out.1.trans ((((Below.refl _ _).drew).trans b6).mono H5.out.1.size)).trans b7
          have hbs7 : w.heap.size < w7.heap.size := Nat.lt_of_lt_of_le H5.out.2 (Nat.le_trans b6.size b7.size)
          obtain ⟨L7, hL7⟩ : ∃ L7, L ++ [2] ++ (S1 ++ key).data.toList = L7 := ⟨_, rfl⟩
          have i7 : Lib.IsBuilderF 65 5 w.heap.size w.heap.size (Lib.byteCells L7) w7 := by rw [← hL7, byteCells_app]; exact .inr i7
          have hl7 : L7.length = L.length + 9 + key.size := by rw [← hL7]; simp [ByteArray.data_append, ByteArray.size_append]; have := hxx; simp at this; omega
          have H7 := Lib.hid (And.intro hb7 (And.intro hbs7 hL7))
          have hsz7 := hb7.size
          clear eb7 hb7 hbs7 hL7 b6 b7 k7 y0 y1 y2 y3 y4 y5 y6 y7 hei hcl5 hsz5 HE4 HE5 HI5
          obtain ⟨-, y0, y1, y2, y3, y4, y5, y6, y7⟩ := HE7.out
          have hfin : L7 = encL (ps.take (k + 1)) := by rw [HK.out.2.2.2.2.1, HBE.out, ← H7.out.2.2, ← HS1.out]; simp [ByteArray.data_append]
          rw [hfin] at i7
          clear hfin
          go_wp2_with fail
          exact ⟨⟨k + 1, by omega, by go_num, i7, HK.out.2.2.2.1, H7.out.1, H7.out.2.1⟩, by simp [intOf]; omega⟩
        by_cases k3 : kd = 3
        · subst k3
          have hbe : bytesE (peOf ⟨3, key, x, due⟩) = 3 :: (le key.size 8 ++ key.data.toList ++ le due.toNat 8) := by unfold bytesE peOf; simp
          rw [hbe] at hlen
          have hdu : 0 ≤ due ∧ due ≤ 9007199254740992 := by simp at hmb; exact (tick_iff due).1 hmb.2
          obtain ⟨dn, rfl⟩ : ∃ dn : Nat, due = (dn : Int) := ⟨due.toNat, by omega⟩
          have hdn : dn ≤ 9007199254740992 := by omega
          rw [Int.toNat_natCast] at hbe hlen
          clear hmb
          have hxx : key.data.toList.length = key.size := by rw [Array.length_toList]; rfl
          simp only [List.length_cons, List.length_append, le_len, hxx, List.length_nil] at hlen
          have HBE := Lib.hid hbe
          clear hbe
          have hwb := writeByte w.heap.size w.heap.size _ 3 w4 hI4 (by rw [hcl]; omega) hsz4
          have HE4 := Lib.hid eb4
          clear hI4 eb4
          obtain ⟨-, y0, y1, y2, y3, y4, y5, y6, y7⟩ := HE4.out
          go_wp2_with fail
          refine hwb.mono ?_
          clear hwb y0 y1 y2 y3 y4 y5 y6 y7
          rintro e w5 ⟨rfl, i5, b5, k5⟩
          have eb5 := eb_others HE4.out k5 hbb
          have hbc : Lib.byteCells L ++ [Value.int .u8 3] = Lib.byteCells (L ++ [3]) := by rw [byteCells_app]; rfl
          rw [hbc] at i5
          have i5 : Lib.IsBuilderF 65 5 w.heap.size w.heap.size (Lib.byteCells (L ++ [3])) w5 := .inr i5
          clear hbc
          have hb5 : Below w.heap.size w w5 := HK.out.1.trans b5
          have hsz5 := hb5.size
          have hbs5 : w.heap.size < w5.heap.size := Nat.lt_of_lt_of_le HK.out.2.2.2.2.2 b5.size
          have H5 := Lib.hid (And.intro hb5 hbs5)
          clear hb5 hbs5 b5 k5
          have HE5 := Lib.hid eb5
          have HI5 := Lib.hid i5
          clear i5
          obtain ⟨-, y0, y1, y2, y3, y4, y5, y6, y7⟩ := HE5.out
          obtain ⟨S1, hS1⟩ : ∃ S1 : ByteArray, (⟨(le key.size 8).toArray⟩ : ByteArray) = S1 := ⟨_, rfl⟩
          have z1 : S1.size = 8 := by rw [← hS1, bytes_sz, le_len]
          have hei := fun w => eight_calls key.size w (by omega)
          rw [hS1] at hei
          have HS1 := Lib.hid hS1
          clear hS1
          have a1 : ¬ 9223372036854775807 < 8 + key.size := by omega
          have hcl5 : (Lib.byteCells (L ++ [3])).length + (S1 ++ key).size ≤ 140737488355328 := by simp [Lib.byteCells, ByteArray.size_append]; omega
          go_upto_region 9 with fail
          go_region_held3 (fun w' => EB bx 3 key x (dn : Int) w')
            (first | exact eb5 | exact eb_below (by assumption) (by assumption) | exact eb_others (by assumption) (by assumption) hbb)
            (first
              | (go_at_call 31; refine (hei _).mono ?_; rintro e w6 ⟨rfl, b6⟩)
              | (go_at_call 30; refine (writeString w.heap.size w.heap.size _ (S1 ++ key) w6 (Lib.IsBuilderF.below (Lib.IsBuilderF.below HI5.out ((Below.refl _ _).drew)) b6) hcl5 (Nat.le_trans hsz5 b6.size)).mono ?_; rintro e w7 ⟨rfl, i7, b7, k7⟩))
          have eb7 : EB bx 3 key x (dn : Int) w7 := by assumption
          have HE7 := Lib.hid eb7
          have hb7 : Below w.heap.size w w7 := (H5.out.1.trans ((((Below.refl _ _).drew).trans b6).mono H5.out.1.size)).trans b7
          have hbs7 : w.heap.size < w7.heap.size := Nat.lt_of_lt_of_le H5.out.2 (Nat.le_trans b6.size b7.size)
          obtain ⟨L7, hL7⟩ : ∃ L7, L ++ [3] ++ (S1 ++ key).data.toList = L7 := ⟨_, rfl⟩
          have i7 : Lib.IsBuilderF 65 5 w.heap.size w.heap.size (Lib.byteCells L7) w7 := by rw [← hL7, byteCells_app]; exact .inr i7
          have hl7 : L7.length = L.length + 9 + key.size := by rw [← hL7]; simp [ByteArray.data_append, ByteArray.size_append]; have := hxx; simp at this; omega
          have H7 := Lib.hid (And.intro hb7 (And.intro hbs7 hL7))
          have hsz7 := hb7.size
          clear eb7 hb7 hbs7 hL7 b6 b7 k7 y0 y1 y2 y3 y4 y5 y6 y7 hei hcl5 hsz5 HE4 HE5 HI5
          obtain ⟨-, y0, y1, y2, y3, y4, y5, y6, y7⟩ := HE7.out
          obtain ⟨S2, hS2⟩ : ∃ S2 : ByteArray, (⟨(le dn 8).toArray⟩ : ByteArray) = S2 := ⟨_, rfl⟩
          have z2 : S2.size = 8 := by rw [← hS2, bytes_sz, le_len]
          have hei := fun w => eight_calls dn w (by omega)
          rw [hS2] at hei
          have HS2 := Lib.hid hS2
          clear hS2
          have HI7 := Lib.hid i7
          clear i7
          go_wp2_with fail
          refine (hei _).mono ?_
          rintro e w8 ⟨rfl, b8⟩
          have eb8 := eb_below HE7.out b8
          have hws := writeString w.heap.size w.heap.size _ S2 w8 (Lib.IsBuilderF.below HI7.out b8) (by simp [Lib.byteCells]; omega) (Nat.le_trans hsz7 b8.size)
          have H8 := Lib.hid (And.intro eb8 b8)
          clear eb8 b8 hei y0 y1 y2 y3 y4 y5 y6 y7
          go_wp2_with fail
          refine hws.mono ?_
          clear hws
          rintro e w9 ⟨rfl, i9, b9, k9⟩
          have eb9 := eb_others H8.out.1 k9 hbb
          have HE9 := Lib.hid eb9
          have hb9 : Below w.heap.size w w9 := (H7.out.1.trans (H8.out.2.mono H7.out.1.size)).trans b9
          have hbs9 : w.heap.size < w9.heap.size := Nat.lt_of_lt_of_le H7.out.2.1 (Nat.le_trans H8.out.2.size b9.size)
          obtain ⟨L9, hL9⟩ : ∃ L9, L7 ++ S2.data.toList = L9 := ⟨_, rfl⟩
          have i9 : Lib.IsBuilderF 65 5 w.heap.size w.heap.size (Lib.byteCells L9) w9 := by rw [← hL9, byteCells_app]; exact .inr i9
          have hs2l : S2.data.toList.length = S2.size := by rw [Array.length_toList]; rfl
          have hl9 : L9.length = L7.length + 8 := by rw [← hL9, List.length_append]; omega
          have H9 := Lib.hid (And.intro hb9 (And.intro hbs9 hL9))
          have hsz9 := hb9.size
          clear eb9 hb9 hbs9 hL9 b9 k9 H8 HE7 HI7
          obtain ⟨-, y0, y1, y2, y3, y4, y5, y6, y7⟩ := HE9.out
          have hfin : L9 = encL (ps.take (k + 1)) := by rw [HK.out.2.2.2.2.1, HBE.out, ← H9.out.2.2, ← H7.out.2.2, ← HS1.out, ← HS2.out]; simp [ByteArray.data_append]
          rw [hfin] at i9
          clear hfin
          go_wp2_with fail
          exact ⟨⟨k + 1, by omega, by go_num, i9, HK.out.2.2.2.1, H9.out.1, H9.out.2.1⟩, by simp [intOf]; omega⟩
        by_cases k4 : kd = 4
        · subst k4
          have hbe : bytesE (peOf ⟨4, key, x, due⟩) = [4] := by unfold bytesE peOf; simp
          rw [hbe] at hlen
          clear hmb
          have hxx : key.data.toList.length = key.size := by rw [Array.length_toList]; rfl
          simp only [List.length_cons, List.length_append, le_len, hxx, List.length_nil] at hlen
          have HBE := Lib.hid hbe
          clear hbe
          have hwb := writeByte w.heap.size w.heap.size _ 4 w4 hI4 (by rw [hcl]; omega) hsz4
          have HE4 := Lib.hid eb4
          clear hI4 eb4
          obtain ⟨-, y0, y1, y2, y3, y4, y5, y6, y7⟩ := HE4.out
          go_wp2_with fail
          refine hwb.mono ?_
          clear hwb y0 y1 y2 y3 y4 y5 y6 y7
          rintro e w5 ⟨rfl, i5, b5, k5⟩
          have eb5 := eb_others HE4.out k5 hbb
          have hbc : Lib.byteCells L ++ [Value.int .u8 4] = Lib.byteCells (L ++ [4]) := by rw [byteCells_app]; rfl
          rw [hbc] at i5
          have i5 : Lib.IsBuilderF 65 5 w.heap.size w.heap.size (Lib.byteCells (L ++ [4])) w5 := .inr i5
          clear hbc
          have hb5 : Below w.heap.size w w5 := HK.out.1.trans b5
          have hsz5 := hb5.size
          have hbs5 : w.heap.size < w5.heap.size := Nat.lt_of_lt_of_le HK.out.2.2.2.2.2 b5.size
          have H5 := Lib.hid (And.intro hb5 hbs5)
          clear hb5 hbs5 b5 k5
          obtain ⟨-, y0, y1, y2, y3, y4, y5, y6, y7⟩ := eb5
          go_wp2_with fail
          have hfin : L ++ [4] = encL (ps.take (k + 1)) := by rw [HK.out.2.2.2.2.1, HBE.out]
          rw [hfin] at i5
          exact ⟨⟨k + 1, by omega, by go_num, i5, HK.out.2.2.2.1, H5.out.1, H5.out.2⟩, by simp [intOf]; omega⟩
        · rw [if_neg k1, if_neg k2, if_neg k3, if_neg k4] at hmb; cases hmb
    · obtain rfl : k = n := by omega
      obtain ⟨hr, hok, hln, hps, hpl, hsz, b0, hfr⟩ := H.out
      rw [List.take_of_length_le (Nat.le_of_eq hpl)] at hI hal
      have ht := bText _ _ _ _ hI hb.size
      have HB := Lib.hid (And.intro hb hal)
      clear hI hb hal hbs hr hok hln hps hpl hsz b0 hfr
      go_wp2_with fail
      refine ht.mono ?_
      rintro e w5 ⟨rfl, -, b5, -⟩
      have HB5 := Lib.hid (HB.out.1.trans b5)
      clear b5 ht
      go_wp2_with fail
      go_ret2
      have : encR ps = (⟨(encL ps).toArray⟩, 0) := by unfold encR; rw [HB.out.2]; rfl
      rw [this]
      exact ⟨rfl, HB5.out⟩
end Go.Proofs.YtgmnnpbbiejbnaaGreat.EfB
