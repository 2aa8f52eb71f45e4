/-
  New; the document's tests of texts and of entries. Conditions: as stated.
  Bytes. Conditions: as stated.
  The methods of a space that is none. Conditions: as stated.
  Load. Conditions: as stated.
  A space by its place alone, with blocks that it keeps out of; its methods so. Conditions: as stated.
-/
import Derived.Test.YtgmnnpbbiejbnaaGreatSqD
import Derived.Test.YtgmnnpbbiejbnaaGreatMgK
import Derived.Shelf.Strings.MapGrows
import Derived.Lib.QuietBelow
import Derived.BigQuiet
set_option maxRecDepth 100000
set_option linter.unusedSimpArgs false
set_option linter.unusedVariables false
namespace Go.Proofs.YtgmnnpbbiejbnaaGreat.SpR
open Go.RowKit Go.Proofs.YtgmnnpbbiejbnaaGreat.Mem Go.Proofs.YtgmnnpbbiejbnaaGreat.VaC Go.Proofs.YtgmnnpbbiejbnaaGreat.VaE Go.Proofs.YtgmnnpbbiejbnaaGreat.VaH Go.Proofs.YtgmnnpbbiejbnaaGreat.VaI Go.Proofs.YtgmnnpbbiejbnaaGreat.VaX Go.Proofs.YtgmnnpbbiejbnaaGreat.DuA Go.Proofs.YtgmnnpbbiejbnaaGreat.SpA Go.Proofs.YtgmnnpbbiejbnaaGreat.SpB Go.Proofs.YtgmnnpbbiejbnaaGreat.SpC Go.Proofs.YtgmnnpbbiejbnaaGreat.SpD Go.Proofs.YtgmnnpbbiejbnaaGreat.SpE Go.Proofs.YtgmnnpbbiejbnaaGreat.SpF Go.Proofs.YtgmnnpbbiejbnaaGreat.SpG Go.Proofs.YtgmnnpbbiejbnaaGreat.SpH Go.Proofs.YtgmnnpbbiejbnaaGreat.SpI Go.Proofs.YtgmnnpbbiejbnaaGreat.SpJ Go.Proofs.YtgmnnpbbiejbnaaGreat.SpK Go.Proofs.YtgmnnpbbiejbnaaGreat.SpL Go.Proofs.YtgmnnpbbiejbnaaGreat.SpM Go.Proofs.YtgmnnpbbiejbnaaGreat.SpN Go.Proofs.YtgmnnpbbiejbnaaGreat.SpO Go.Proofs.YtgmnnpbbiejbnaaGreat.SpP Go.Proofs.YtgmnnpbbiejbnaaGreat.SpQ
open Go.Proofs.YtgmnnpbbiejbnaaGreat.DsH (Ix IxS okk keyed key_of)
open Go.Proofs.YtgmnnpbbiejbnaaGreat.DsK (OwnKs RdKs keysV elKs)
open Go.Proofs.YtgmnnpbbiejbnaaGreat.VdA (WrV Tch tch_lt)

theorem inv0 : Inv ps0 :=
  { ris := Ris.nil, risb := Ris.nil, key := fun e he => (by cases he), keyb := fun e he => (by cases he), due := fun e he => (by cases he), dueb := fun e he => (by cases he), ver := fun e he => (by cases he), verb := fun e he => (by cases he), atc := fun e => (by cases e), chk := fun e he => (by cases he), chkb := fun e he => (by cases he), unt := fun e => (by cases e) }
set_option maxHeartbeats 1000000 in
theorem new_calls (w : World) : Calls Tryz.prog 16 #[] w fun e w' => ∃ F : Lay, e = .returned (.pointer (some ⟨F.g, 0, none⟩)) ∧ Sp w' w.heap.size F 0 ps0 ∧ (∀ k, ¬ F.X k) ∧ Below w.heap.size w w' := by
  have hmk := mk_held w
  have hnd := DsK.new_calls (w.alloc (.map #[] 0))
  have hM := Lib.hid (Mv.made w)
  go_enter Tryz.func16, Tryz.ntmps16
  go_wp2_with fail
  refine hnd.mono ?_
  rintro e w2 ⟨gd, md, rfl, hx, b2⟩
  have HX := Lib.hid (And.intro hx b2)
  clear hx b2 hnd
  go_wp2_with fail
  go_ret
  obtain ⟨hx, b2⟩ := HX.out
  have hs1 : (w.alloc (.map #[] 0)).heap.size = w.heap.size + 1 := World.size_alloc ..
  have hs2 := b2.size
  have hmm := (hM.out.below b2)
  have b3 : Below w2.heap.size w2 (w2.alloc (.cells #[.map (some w.heap.size), .pointer (some ⟨gd, 0, none⟩), .int .u64 0, .bool false, .map none, .int .u64 0, .slice none 0 0] 90)) := (Below.refl _ _).alloc (Nat.le_refl _) _
  have hh := heap_alloc_new w2 (.cells #[.map (some w.heap.size), .pointer (some ⟨gd, 0, none⟩), .int .u64 0, .bool false, .map none, .int .u64 0, .slice none 0 0] 90)
  have hlt := hx.lt
  have hgB := hx.gB
  have hmB := hx.mB
  refine ⟨⟨w2.heap.size, w.heap.size, gd, md, .slice none 0 0, none, .slice none 0 0, fun _ => False⟩, rfl, ⟨hh, ⟨⟨[], hmm.below b3, Tel.nil⟩, ?_, .inl ⟨rfl, rfl⟩, ⟨[], World.ownsRow_nil .., EVs.nil⟩, by show w.heap.size ≤ w2.heap.size; omega, Nat.le_refl _, ⟨by show w2.heap.size ≠ w.heap.size; omega, ?_, ⟨(fun e => by cases e), (fun e => by cases e)⟩, ⟨(fun e => by cases e), (fun e => by cases e)⟩, (fun b e => by cases e)⟩⟩, rfl, inv0⟩, fun k h => h, ?_⟩
  · have h3 := hx.below b3
    exact { h3 with gB := by show w.heap.size ≤ gd; omega, mB := by show w.heap.size ≤ md; omega, own := own_less h3.own (by omega) }
  · intro k hk
    have h1 := hlt k hk
    refine ⟨?_, ?_, (fun e => by cases e), (fun e => by cases e)⟩
    · show k ≠ w2.heap.size; omega
    · show k ≠ w.heap.size; omega
  · exact (((Below.refl _ w).alloc (Nat.le_refl _) _).trans (b2.mono (by omega))).trans (b3.mono (by omega))
end Go.Proofs.YtgmnnpbbiejbnaaGreat.SpR
set_option maxRecDepth 100000
set_option linter.unusedSimpArgs false
set_option linter.unusedVariables false
namespace Go.Proofs.YtgmnnpbbiejbnaaGreat.SpS
open Go.RowKit Go.Proofs.YtgmnnpbbiejbnaaGreat.Mem Go.Proofs.YtgmnnpbbiejbnaaGreat.VaC Go.Proofs.YtgmnnpbbiejbnaaGreat.VaE Go.Proofs.YtgmnnpbbiejbnaaGreat.VaH Go.Proofs.YtgmnnpbbiejbnaaGreat.VaI Go.Proofs.YtgmnnpbbiejbnaaGreat.VaX Go.Proofs.YtgmnnpbbiejbnaaGreat.DuA Go.Proofs.YtgmnnpbbiejbnaaGreat.SpA Go.Proofs.YtgmnnpbbiejbnaaGreat.SpB Go.Proofs.YtgmnnpbbiejbnaaGreat.SpC Go.Proofs.YtgmnnpbbiejbnaaGreat.SpD Go.Proofs.YtgmnnpbbiejbnaaGreat.SpE Go.Proofs.YtgmnnpbbiejbnaaGreat.SpF Go.Proofs.YtgmnnpbbiejbnaaGreat.SpG Go.Proofs.YtgmnnpbbiejbnaaGreat.SpH Go.Proofs.YtgmnnpbbiejbnaaGreat.SpI Go.Proofs.YtgmnnpbbiejbnaaGreat.SpJ Go.Proofs.YtgmnnpbbiejbnaaGreat.SpK Go.Proofs.YtgmnnpbbiejbnaaGreat.SpL Go.Proofs.YtgmnnpbbiejbnaaGreat.SpM Go.Proofs.YtgmnnpbbiejbnaaGreat.SpN Go.Proofs.YtgmnnpbbiejbnaaGreat.SpO Go.Proofs.YtgmnnpbbiejbnaaGreat.SpP Go.Proofs.YtgmnnpbbiejbnaaGreat.SpQ Go.Proofs.YtgmnnpbbiejbnaaGreat.SpR
open Go.Proofs.YtgmnnpbbiejbnaaGreat.DsH (Ix IxS okk keyed key_of)
open Go.Proofs.YtgmnnpbbiejbnaaGreat.DsK (OwnKs RdKs keysV elKs)

theorem writeString (B b : Nat) (bs : List Value) (s : ByteArray) (w : World) (h : Lib.IsBuilderF 65 5 B b bs w) (hlen : bs.length + s.size ≤ 140737488355328) (hBw : B ≤ w.heap.size) :
    Calls Tryz.prog 30 #[.pointer (some ⟨b, 0, none⟩), .string s] w fun e w' => e = .returned (.tuple #[.int .i64 s.size, .nilIface]) ∧ (Lib.BuilderAtF 65 5 B b (.pointer (some ⟨b, 0, none⟩)) (bs ++ Lib.strCells s) w' ∧ Below B w w' ∧ Lib.OthersKept 5 (some b) w w') :=
  Any.Builder_WriteString_k ShelfW.lays166 ShelfW.extra166 B b bs s w h hlen hBw
theorem bText (B b : Nat) (l : List UInt8) (w : World) (h : Lib.IsBuilderF 65 5 B b (Lib.byteCells l) w) (hBw : B ≤ w.heap.size) :
    Calls Tryz.prog 33 #[.pointer (some ⟨b, 0, none⟩)] w fun e w' => e = .returned (.string ⟨l.toArray⟩) ∧ (Lib.IsBuilderF 65 5 B b (Lib.byteCells l) w' ∧ Below B w w' ∧ Lib.OthersKept 5 (some b) w w') := Any.Builder_String_any_k ShelfW.lays169 ShelfW.extra169 B b l w h hBw
theorem bFresh (w : World) : Lib.IsBuilderF 65 5 w.heap.size w.heap.size (Lib.byteCells []) (w.alloc (.cells #[.pointer none, .slice none 0 0] 65)) := Lib.IsBuilderF.of (Lib.fresh_isBuilder 65 5 w)

/-- An entry's bytes. -/
def entB (e : ByteArray × PH) : List UInt8 := VaA.le e.1.size 8 ++ e.1.data.toList ++ VaA.le e.2.due.toNat 8 ++ encP e.2.v
def bytesL (l : List (ByteArray × PH)) : List UInt8 := l.flatMap entB
theorem bytesL_snoc (l : List (ByteArray × PH)) (e : ByteArray × PH) : bytesL (l ++ [e]) = bytesL l ++ entB e := by simp [bytesL]
theorem others_ks {w w' : World} {B b n c : Nat} {A : Option Addr} {K : List ByteArray} (h : w.ownsRow B 9 1 (.slice A n c) n (keysV K)) (ho : Lib.OthersKept 5 (some b) w w') (hb : (Value.slice A n c).ownBlock ≠ some b) : w'.ownsRow B 9 1 (.slice A n c) n (keysV K) := by
  refine ⟨h.1, ?_⟩
  rcases h.2 with h' | ⟨g, cap, cur, e, h1, h2, h3⟩
  · exact .inl h'
  · refine .inr ⟨g, cap, cur, e, h1, ho g _ h2 (fun e' => hb (by rw [e]; exact e')) (fun c fz e' => ?_), h3⟩
    injection e' with _ e2 _
    exact absurd e2 (by decide)
set_option maxHeartbeats 4000000 in
theorem bytes_calls (B : Nat) (F : Lay) (N : Nat) (s : PS) (w : World) (h : Sp w B F N s) (hN : N ≤ 400000000) (hsz : (bytesL s.l).length ≤ 1000000000000) :
    Calls Tryz.prog 22 #[.pointer (some ⟨F.g, 0, none⟩)] w fun e w' => e = .returned (.string ⟨(bytesL s.l).toArray⟩) ∧ Below w.heap.size w w' := by
  have b0 : Below w.heap.size w (w.alloc (.cells #[.pointer none, .slice none 0 0] 65)) := (Below.refl _ _).alloc (Nat.le_refl _) _
  have hnm := names_calls B F N s _ (h.below b0) (by omega)
  have hfr := bFresh w
  obtain ⟨n, hn⟩ : ∃ n, s.l.length = n := ⟨_, rfl⟩
  obtain ⟨K, hK⟩ : ∃ K, keysL s.l = K := ⟨_, rfl⟩
  have hKn : K.length = n := by rw [← hK]; unfold keysL; rw [List.length_map]; exact hn
  rw [hK] at hnm
  have H := Lib.hid (And.intro h (And.intro hn (And.intro hKn (And.intro hfr (And.intro b0 (And.intro hK hsz))))))
  clear h hn hKn hfr b0 hK hsz
  go_enter Tryz.func22, Tryz.ntmps22
  go_wp2_with fail
  refine hnm.mono ?_
  rintro e w1 ⟨v, rfl, ho, b1⟩
  obtain ⟨h, hn, hKn, hfr, b0, hK, hsz⟩ := H.out
  obtain ⟨A, c, rfl⟩ := own_form ho
  have hs0 : (w.alloc (.cells #[.pointer none, .slice none 0 0] 65)).heap.size = w.heap.size + 1 := World.size_alloc ..
  have hob : (Value.slice A K.length c).ownBlock ≠ some w.heap.size := fun e => by have := (ho.lt _ e).1; omega
  have ho' := own_less (own_ks_len ho hKn) (show w.heap.size ≤ (w.alloc (.cells #[.pointer none, .slice none 0 0] 65)).heap.size by omega)
  have hI1 := Lib.IsBuilderF.below hfr b1
  have hb01 := b0.trans (b1.mono b0.size)
  have ho0 : w1.ownsRow (w.alloc (.cells #[.pointer none, .slice none 0 0] 65)).heap.size 9 1 (.slice A K.length c) K.length (keysV K) := ho
  have hcap := (Rd.of_own ho0).cap
  have hbig := (Rd.of_own ho0).big
  rw [hKn] at ho' hob hcap ⊢
  unfold maxLen at hbig
  have H1 := Lib.hid (And.intro ho' (And.intro hI1 (And.intro hb01 hob)))
  clear h hn hKn hfr b0 hK hsz ho ho0 b1 hs0 hob ho' hI1 hb01 hnm
  go_wp2_with fail
  go_loopw [18] (fun i wr => ∃ k : Nat, k ≤ n ∧ i = .int .i64 k ∧ Lib.IsBuilderF 65 5 w.heap.size w.heap.size (Lib.byteCells (bytesL (s.l.take k))) wr ∧ wr.ownsRow w.heap.size 9 1 (.slice A n c) n (keysV K) ∧ Below w.heap.size w wr) (fun i _ => n - (intOf i).toNat)
  case atStart => exact ⟨0, Nat.zero_le _, rfl, by simpa [bytesL] using H1.out.2.1, H1.out.1, H1.out.2.2.1⟩
  case round =>
    obtain ⟨k, hk, rfl, hI, ho, hb⟩ := hrel
    by_cases hlt : k < n
    · obtain ⟨h, hn, hKn, hfr, b0, hK, hsz⟩ := H.out
      obtain ⟨p, hp⟩ : ∃ p, s.l[k]? = some p := ⟨_, List.getElem?_eq_getElem (by omega)⟩
      obtain ⟨x, q⟩ := p
      have hxk : K[k]? = some x := by rw [← hK]; unfold keysL; rw [List.getElem?_map, hp]; rfl
      have hgx : getK s.l x = some q := (mem_getR DuB.linS h.inv.ris).2 (List.mem_of_getElem? hp)
      obtain ⟨pa, rfl, cx⟩ := ks_get (Rd.of_own ho) hxk
      have hxs := h.inv.key _ (List.mem_of_getElem? hp)
      have hdr := h.inv.due _ (List.mem_of_getElem? hp)
      have hS := h.below hb
      obtain ⟨c0, -, -, -, -, -, -⟩ := hS.cells
      obtain ⟨y0, hy0, -, hl1⟩ := look_s hS hxs
      rw [hgx] at hy0 hl1
      simp only [Option.getD_some] at hy0 hl1
      simp only at hxs hdr
      obtain ⟨dn, hdn⟩ : ∃ dn : Nat, q.due = (dn : Int) := ⟨q.due.toNat, by omega⟩
      obtain ⟨m, hm⟩ : ∃ m, q.ver = m := ⟨_, rfl⟩
      rw [hdn, hm] at hl1
      obtain ⟨W2, hW2⟩ : ∃ W2, wr.alloc (.cells (hcells y0 dn m) 97) = W2 := ⟨_, rfl⟩
      have b2 : Below wr.heap.size wr W2 := by rw [← hW2]; exact (Below.refl _ _).alloc (Nat.le_refl _) _
      have hbx : W2.heap[wr.heap.size]? = some (.cells (hcells y0 dn m) 97 (0, 0)) := by rw [← hW2]; exact heap_alloc_new wr _
      have hlast : entB (x, q) = VaA.le x.size 8 ++ x.data.toList ++ VaA.le dn 8 ++ encP q.v := by unfold entB; simp only; rw [hdn]; rfl
      obtain ⟨S1, hS1⟩ : ∃ S1 : ByteArray, (⟨(VaA.le x.size 8).toArray⟩ : ByteArray) = S1 := ⟨_, rfl⟩
      obtain ⟨S2, hS2⟩ : ∃ S2 : ByteArray, (⟨(VaA.le dn 8).toArray⟩ : ByteArray) = S2 := ⟨_, rfl⟩
      obtain ⟨S3, hS3⟩ : ∃ S3 : ByteArray, (⟨(encP q.v).toArray⟩ : ByteArray) = S3 := ⟨_, rfl⟩
      have hf1 := fun w => VaA.fix_calls x.size 8 w (by omega) (by omega) (Nat.lt_of_le_of_lt hxs (by decide))
      have hf2 := fun w => VaA.fix_calls dn 8 w (by omega) (by omega) (Nat.lt_of_le_of_lt (show dn ≤ 9007199254740992 by omega) (by decide))
      rw [hS1] at hf1
      rw [hS2] at hf2
      have z1 : S1.size = 8 := by rw [← hS1]; show (VaA.le x.size 8).toArray.size = 8; simp [VaA.le_len]
      have z2 : S2.size = 8 := by rw [← hS2]; show (VaA.le dn 8).toArray.size = 8; simp [VaA.le_len]
      have hz3 : S3.size = (encP q.v).length := by rw [← hS3]; show (encP q.v).toArray.size = _; simp
      have htk := List.take_succ_eq_append_getElem (List.getElem?_eq_some_iff.1 hp).1
      rw [(List.getElem?_eq_some_iff.1 hp).2] at htk
      have hlen : (bytesL (s.l.take (k + 1))).length ≤ (bytesL s.l).length := by
        unfold bytesL
        conv => rhs; rw [← List.take_append_drop (k + 1) s.l, List.flatMap_append, List.length_append]
        omega
      have hlen2 : (bytesL (s.l.take k)).length + (8 + x.size + 8 + S3.size) ≤ 1000000000000 := by
        rw [htk, bytesL_snoc, List.length_append, hlast] at hlen
        have hxx : x.data.toList.length = x.size := by rw [Array.length_toList]; rfl
        simp only [List.length_append, VaA.le_len, hxx] at hlen
        omega
      have hec := fun w (hv : Vok w (Fx F) y0 q.v) => encode_calls y0 w hv.rd ((sm_pv hv.rd).2 (by rw [hv.pv]; exact hv.sm))
      have hed : ∀ w, Vok w (Fx F) y0 q.v → (⟨(encV y0).toArray⟩ : ByteArray) = S3 := fun w hv => by rw [enc_pv hv.rd, hv.pv]; exact hS3
      have hfin : Lib.byteCells (bytesL (s.l.take k)) ++ Lib.strCells (S1 ++ x ++ S2 ++ S3) = Lib.byteCells (bytesL (s.l.take (k + 1))) := by
        rw [htk, bytesL_snoc, hlast, VaA.byteCells_app]
        congr 1
        show Lib.byteCells (S1 ++ x ++ S2 ++ S3).data.toList = _
        congr 1
        rw [← hS1, ← hS2, ← hS3]
        simp [ByteArray.data_append]
      have hsS : (Lib.byteCells (bytesL (s.l.take k))).length + (S1 ++ x ++ S2 ++ S3).size ≤ 140737488355328 := by
        have e1 : (S1 ++ x ++ S2 ++ S3).size = S1.size + x.size + S2.size + S3.size := by simp [ByteArray.size_append]
        have e2 : (Lib.byteCells (bytesL (s.l.take k))).length = (bytesL (s.l.take k)).length := by simp [Lib.byteCells]
        rw [e1, e2]
        omega
      have HR := Lib.hid (And.intro hI (And.intro ho (And.intro hb (And.intro (hy0.below b2) (And.intro hbx (And.intro hfin (And.intro hsS b2)))))))
      have HE := Lib.hid (And.intro hec hed)
      have HW := Lib.hid hW2
      obtain ⟨u0, u1, u2, u3, u4, u5, u6⟩ := hcells_at hbx
      have cx' : W2.cell? (pa.add k) = some (.string x) := below_c cx b2
      have hkn : ((k : Nat) : Int) < (n : Int) := by omega
      have hx0 : ((x.size : Nat) : Int) ≤ 100000000 := by omega
      have hd0 : ((dn : Nat) : Int) ≤ 9007199254740992 := by omega
      clear hI ho hb hy0 hbx hfin hsS b2 hec hed hW2 h hn hKn hfr b0 hK hsz hp hxk hgx hdr hS hdn hm hlast hS1 hS2 hS3 htk hlen
      go_upto_region 8 with fail
      have HW2 := HW.out
      unfold hcells at HW2
      rw [HW2]
      clear HW2
      go_wp2_with fail
      refine (hf1 _).mono ?_
      rintro e w4 ⟨rfl, b4⟩
      have t5 := below_c u5 b4
      have HB4 := Lib.hid b4
      obtain ⟨hI, ho, hb, hy, hbx, hfin, hsS, b2⟩ := HR.out
      have hbx4 := (Only.of_below b4).heap hbx (by have := (Array.getElem?_eq_some_iff.1 hbx).1; omega)
      have HX4 := Lib.hid (And.intro (hy.below b4) hbx4)
      clear b4 hI ho hb hy hbx hfin hsS b2 hbx4
      go_wp2_with fail
      refine (hf2 _).mono ?_
      rintro e w5 ⟨rfl, b5⟩
      obtain ⟨hy4, hbx4⟩ := HX4.out
      have hbx5 := (Only.of_below b5).heap hbx4 (by have := (Array.getElem?_eq_some_iff.1 hbx4).1; omega)
      obtain ⟨s0, s1, s2, s3, s4, s5, s6⟩ := hcells_at hbx5
      have hy5 := hy4.below b5
      have hec5 := HE.out.1 w5 hy5
      rw [HE.out.2 w5 hy5] at hec5
      unfold VV.val at hec5
      have HB5 := Lib.hid b5
      obtain ⟨ck, hck⟩ : ∃ ck, chk y0 = ck := ⟨_, rfl⟩
      rw [hck] at hec5
      clear b5 hbx5 hy5 hy4 hbx4 hck t5
      go_wp2_with fail
      refine hec5.mono ?_
      rintro e w6 ⟨rfl, b6⟩
      obtain ⟨hI, ho, hb, hy, hbx, hfin, hsS, b2⟩ := HR.out
      have b26 : Below wr.heap.size wr w6 := b2.trans ((HB4.out.mono b2.size).trans ((HB5.out.mono (Nat.le_trans b2.size HB4.out.size)).trans (b6.mono (Nat.le_trans b2.size (Nat.le_trans HB4.out.size HB5.out.size)))))
      have hI6 := Lib.IsBuilderF.below hI b26
      have ho6 : w6.ownsRow w.heap.size 9 1 (.slice (some pa) n c) n (keysV K) := own_only ho (Only.of_below b26) (fun q hq e => by have := (ho.lt q hq).2; omega)
      have hws := writeString w.heap.size w.heap.size _ (S1 ++ x ++ S2 ++ S3) w6 hI6 hsS (Nat.le_trans hb.size b26.size)
      have H6 := Lib.hid (And.intro ho6 (And.intro (hb.trans (b26.mono hb.size)) hfin))
      have a1 : S1.size + x.size ≤ 1000000000000 := by omega
      have a2 : S1.size + x.size + S2.size ≤ 1000000000000 := by omega
      have a3 : S1.size + x.size + S2.size + S3.size ≤ 1000000000000 := by omega
      clear hI ho hb hy hbx hfin hsS b2 b26 hI6 ho6 b6 HB4 HB5 HX4 HE HR
      go_wp2_with fail
      refine hws.mono ?_
      rintro e w7 ⟨rfl, i7, b7, k7⟩
      obtain ⟨ho6, hb6, hfin⟩ := H6.out
      rw [hfin] at i7
      have H7 := Lib.hid (And.intro (Or.inr i7 : Lib.IsBuilderF 65 5 w.heap.size w.heap.size (Lib.byteCells (bytesL (s.l.take (k + 1)))) w7) (And.intro (others_ks ho6 k7 H1.out.2.2.2) (hb6.trans b7)))
      clear i7 b7 k7 ho6 hb6 hfin hws
      go_wp2_with fail
      go_roundw
      case rel => exact ⟨k + 1, by omega, by go_num, H7.out.1, H7.out.2.1, H7.out.2.2⟩
      case measure => simp [intOf]; omega
    · obtain rfl : k = n := by omega
      obtain ⟨h, hn, hKn, hfr, b0, hK, hsz⟩ := H.out
      rw [List.take_of_length_le (by omega)] at hI
      have ht := bText _ _ _ _ hI hb.size
      have HB := Lib.hid hb
      clear hI ho hb h hn hKn hfr b0 hK hsz
      go_wp2_with fail
      refine ht.mono ?_
      rintro e w5 ⟨rfl, -, b5, -⟩
      have HB5 := Lib.hid (HB.out.trans b5)
      clear b5
      go_wp2_with fail
      go_ret
      exact ⟨rfl, HB5.out⟩
end Go.Proofs.YtgmnnpbbiejbnaaGreat.SpS
set_option maxRecDepth 100000
set_option linter.unusedSimpArgs false
set_option linter.unusedVariables false
namespace Go.Proofs.YtgmnnpbbiejbnaaGreat.SpT
open Go.RowKit Go.Proofs.YtgmnnpbbiejbnaaGreat.Mem Go.Proofs.YtgmnnpbbiejbnaaGreat.VaC Go.Proofs.YtgmnnpbbiejbnaaGreat.VaE Go.Proofs.YtgmnnpbbiejbnaaGreat.VaH Go.Proofs.YtgmnnpbbiejbnaaGreat.VaI Go.Proofs.YtgmnnpbbiejbnaaGreat.VaX Go.Proofs.YtgmnnpbbiejbnaaGreat.DuA Go.Proofs.YtgmnnpbbiejbnaaGreat.SpA Go.Proofs.YtgmnnpbbiejbnaaGreat.SpB Go.Proofs.YtgmnnpbbiejbnaaGreat.SpC Go.Proofs.YtgmnnpbbiejbnaaGreat.SpD Go.Proofs.YtgmnnpbbiejbnaaGreat.SpE Go.Proofs.YtgmnnpbbiejbnaaGreat.SpF Go.Proofs.YtgmnnpbbiejbnaaGreat.SpG Go.Proofs.YtgmnnpbbiejbnaaGreat.SpH Go.Proofs.YtgmnnpbbiejbnaaGreat.SpI Go.Proofs.YtgmnnpbbiejbnaaGreat.SpJ Go.Proofs.YtgmnnpbbiejbnaaGreat.SpK Go.Proofs.YtgmnnpbbiejbnaaGreat.SpL Go.Proofs.YtgmnnpbbiejbnaaGreat.SpM Go.Proofs.YtgmnnpbbiejbnaaGreat.SpN Go.Proofs.YtgmnnpbbiejbnaaGreat.SpO Go.Proofs.YtgmnnpbbiejbnaaGreat.SpP Go.Proofs.YtgmnnpbbiejbnaaGreat.SpQ Go.Proofs.YtgmnnpbbiejbnaaGreat.SpR Go.Proofs.YtgmnnpbbiejbnaaGreat.SpS
open Go.Proofs.YtgmnnpbbiejbnaaGreat.DsH (Ix IxS okk keyed key_of)
open Go.Proofs.YtgmnnpbbiejbnaaGreat.DsK (OwnKs RdKs keysV elKs)

theorem seen_nil (k : ByteArray) (now : Int) (w : World) : Calls Tryz.prog 60 #[.pointer none, .string k, .int .i64 now] w fun e w' => e = .returned (.tuple #[hz, .bool false]) ∧ Below w.heap.size w w' := by
  unfold hz
  go_enter Tryz.func60, Tryz.ntmps60
  go_wp2_with fail
  (try simp only [Exit.inBlock, Exit.then])
  refine bodyPost_ret (v := .tuple #[.agg #[.int .i64 0, .string ⟨#[]⟩, .slice none 0 0, .slice none 0 0, .slice none 0 0, .int .i64 0, .int .u64 0], .bool false]) ?_ rfl ⟨rfl, ?_⟩
  · rw [results_cell_tmp rfl]
    go_simp
  · exact (Below.refl _ _).alloc (Nat.le_refl _) _
end Go.Proofs.YtgmnnpbbiejbnaaGreat.SpT
set_option maxRecDepth 100000
set_option linter.unusedSimpArgs false
set_option linter.unusedVariables false
namespace Go.Proofs.YtgmnnpbbiejbnaaGreat.SpU
open Go.RowKit Go.Proofs.YtgmnnpbbiejbnaaGreat.Mem Go.Proofs.YtgmnnpbbiejbnaaGreat.VaC Go.Proofs.YtgmnnpbbiejbnaaGreat.VaE Go.Proofs.YtgmnnpbbiejbnaaGreat.VaH Go.Proofs.YtgmnnpbbiejbnaaGreat.VaI Go.Proofs.YtgmnnpbbiejbnaaGreat.VaX Go.Proofs.YtgmnnpbbiejbnaaGreat.DuA Go.Proofs.YtgmnnpbbiejbnaaGreat.SpA Go.Proofs.YtgmnnpbbiejbnaaGreat.SpB Go.Proofs.YtgmnnpbbiejbnaaGreat.SpC Go.Proofs.YtgmnnpbbiejbnaaGreat.SpD Go.Proofs.YtgmnnpbbiejbnaaGreat.SpE Go.Proofs.YtgmnnpbbiejbnaaGreat.SpF Go.Proofs.YtgmnnpbbiejbnaaGreat.SpG Go.Proofs.YtgmnnpbbiejbnaaGreat.SpH Go.Proofs.YtgmnnpbbiejbnaaGreat.SpI Go.Proofs.YtgmnnpbbiejbnaaGreat.SpJ Go.Proofs.YtgmnnpbbiejbnaaGreat.SpK Go.Proofs.YtgmnnpbbiejbnaaGreat.SpL Go.Proofs.YtgmnnpbbiejbnaaGreat.SpM Go.Proofs.YtgmnnpbbiejbnaaGreat.SpN Go.Proofs.YtgmnnpbbiejbnaaGreat.SpO Go.Proofs.YtgmnnpbbiejbnaaGreat.SpP Go.Proofs.YtgmnnpbbiejbnaaGreat.SpQ Go.Proofs.YtgmnnpbbiejbnaaGreat.SpR Go.Proofs.YtgmnnpbbiejbnaaGreat.SpS Go.Proofs.YtgmnnpbbiejbnaaGreat.SpT
open Go.Proofs.YtgmnnpbbiejbnaaGreat.DsH (Ix IxS okk keyed key_of)
open Go.Proofs.YtgmnnpbbiejbnaaGreat.DsK (OwnKs RdKs keysV elKs)

open Go.Proofs.YtgmnnpbbiejbnaaGreat.SpQ (tel_moves)

theorem ins_snoc {k : ByteArray} {p : PH} : ∀ {a : List (ByteArray × PH)}, (∀ e ∈ a, lt e.1 k = true) → insK lt (k, p) a = a ++ [(k, p)]
  | [], _ => rfl
  | y :: r, h => by
    have h1 : lt k y.1 = false := by
      have := h y (by simp)
      cases hh : lt k y.1
      · rfl
      · have := DuB.linS.tr this hh; rw [DuB.linS.irr] at this; cases this
    show (if lt k y.1 then _ else _) = _
    rw [h1]
    show y :: insK lt (k, p) r = _
    rw [ins_snoc (fun e he => h e (by simp [he]))]; rfl
theorem set_snoc {k : ByteArray} {p : PH} {a : List (ByteArray × PH)} (h : ∀ e ∈ a, lt e.1 k = true) : setK lt a k p = a ++ [(k, p)] := by
  unfold setK
  have e : dropK a k = a := List.filter_eq_self.2 (fun e he => by simpa using lt_ne DuB.linS (h e he))
  rw [e]; exact ins_snoc h
def mxV (l : List (ByteArray × PH)) : Nat := l.foldl (fun a e => max a e.2.ver) 0
theorem mx_snoc (l : List (ByteArray × PH)) (e : ByteArray × PH) : mxV (l ++ [e]) = max (mxV l) e.2.ver := by simp [mxV]
theorem mx_ge {l : List (ByteArray × PH)} : ∀ e ∈ l, e.2.ver ≤ mxV l := by
  suffices h : ∀ (l : List (ByteArray × PH)) (a : Nat), a ≤ l.foldl (fun a e => max a e.2.ver) a ∧ ∀ e ∈ l, e.2.ver ≤ l.foldl (fun a e => max a e.2.ver) a from fun e he => (h l 0).2 e he
  intro l
  induction l with
  | nil => intro a; exact ⟨Nat.le_refl _, fun e he => by cases he⟩
  | cons y r ih =>
    intro a
    obtain ⟨h1, h2⟩ := ih (max a y.2.ver)
    simp only [List.foldl_cons]
    refine ⟨by omega, fun e he => ?_⟩
    rcases List.mem_cons.1 he with rfl | he
    · omega
    · exact h2 e he
structure Good (l : List (ByteArray × PH)) : Prop where
  ris : Ris lt l
  key : ∀ e ∈ l, e.1.size ≤ 100000000
  chk : ∀ e ∈ l, chkP e.2.v = 0
  due : ∀ e ∈ l, 0 ≤ e.2.due ∧ e.2.due ≤ 9007199254740992
  ver : ∀ e ∈ l, 1 ≤ e.2.ver ∧ e.2.ver ≤ 4611686018427387904
def ldS (l : List (ByteArray × PH)) (d : Bool) : PS := { ps0 with l := l, cnt := mxV l, ld := d }
theorem inv_ld {l : List (ByteArray × PH)} (h : Good l) (d : Bool) : Inv (ldS l d) :=
  { ris := h.ris, risb := Ris.nil, key := h.key, keyb := fun e he => (by cases he), due := h.due, dueb := fun e he => (by cases he), ver := fun e he => ⟨(h.ver e he).1, .inr (mx_ge e he)⟩, verb := fun e he => (by cases he), atc := fun e => (by cases e), chk := h.chk, chkb := fun e he => (by cases he), unt := fun e => (by cases e) }
theorem Good.take {l : List (ByteArray × PH)} (h : Good l) (k : Nat) : Good (l.take k) :=
  ⟨List.Pairwise.sublist (List.take_sublist k l) h.ris, fun e he => h.key e (List.mem_of_mem_take he), fun e he => h.chk e (List.mem_of_mem_take he), fun e he => h.due e (List.mem_of_mem_take he), fun e he => h.ver e (List.mem_of_mem_take he)⟩
theorem en_at {w : World} {b : Nat} {e : EN} (h : w.heap[b]? = some (.cells e.cells.toArray 92 (0, 0))) :
    w.cell? ⟨b, 0, none⟩ = some (.string e.key) ∧ w.cell? ⟨b, 1, none⟩ = some (.int .i64 e.x.kind) ∧ w.cell? ⟨b, 2, none⟩ = some (.string e.x.text) ∧ w.cell? ⟨b, 3, none⟩ = some (.slice e.x.LA e.x.ln e.x.lc) ∧
      w.cell? ⟨b, 4, none⟩ = some (.slice e.x.FA e.x.fn e.x.fc) ∧ w.cell? ⟨b, 5, none⟩ = some (.slice e.x.KA e.x.kn e.x.kc) ∧ w.cell? ⟨b, 6, none⟩ = some (.int .i64 e.due) ∧ w.cell? ⟨b, 7, none⟩ = some (.int .u64 e.ver) := by
  refine ⟨?_, ?_, ?_, ?_, ?_, ?_, ?_, ?_⟩ <;> simp [World.cell?, h, EN.cells]
abbrev SC (b : Nat) (e : EN) (w : World) : Prop := w.cell? ⟨b, 0, none⟩ = some (.string e.key) ∧ w.cell? ⟨b, 1, none⟩ = some (.int .i64 e.x.kind) ∧ w.cell? ⟨b, 2, none⟩ = some (.string e.x.text) ∧ w.cell? ⟨b, 3, none⟩ = some (.slice e.x.LA e.x.ln e.x.lc) ∧
      w.cell? ⟨b, 4, none⟩ = some (.slice e.x.FA e.x.fn e.x.fc) ∧ w.cell? ⟨b, 5, none⟩ = some (.slice e.x.KA e.x.kn e.x.kc) ∧ w.cell? ⟨b, 6, none⟩ = some (.int .i64 e.due) ∧ w.cell? ⟨b, 7, none⟩ = some (.int .u64 e.ver)
theorem sc_below {b : Nat} {e : EN} {w w' : World} (h : SC b e w) (hb : Below w.heap.size w w') : SC b e w' :=
  ⟨below_c h.1 hb, below_c h.2.1 hb, below_c h.2.2.1 hb, below_c h.2.2.2.1 hb, below_c h.2.2.2.2.1 hb, below_c h.2.2.2.2.2.1 hb, below_c h.2.2.2.2.2.2.1 hb, below_c h.2.2.2.2.2.2.2 hb⟩
theorem sp_at {w : World} {b : Nat} {a0 a1 a2 a3 a4 a5 a6 : Value} (h : w.heap[b]? = some (.cells #[a0, a1, a2, a3, a4, a5, a6] 90 (0, 0))) :
    w.cell? ⟨b, 0, none⟩ = some a0 ∧ w.cell? ⟨b, 1, none⟩ = some a1 ∧ w.cell? ⟨b, 2, none⟩ = some a2 ∧ w.cell? ⟨b, 3, none⟩ = some a3 ∧ w.cell? ⟨b, 4, none⟩ = some a4 ∧ w.cell? ⟨b, 5, none⟩ = some a5 ∧ w.cell? ⟨b, 6, none⟩ = some a6 := by
  refine ⟨?_, ?_, ?_, ?_, ?_, ?_, ?_⟩ <;> simp [World.cell?, h]
/-- A space without keys: whatever else is to be kept away from. -/
theorem ld0_ghost {w : World} {B : Nat} {F : Lay} {N : Nat} {d : Bool} (h : Sp w B F N (ldS [] d)) (X' : Nat → Prop) : Sp w B { F with X := X' } N (ldS [] d) := by
  obtain ⟨⟨L, hm, ht⟩, ix, bp, ⟨es, oe, he⟩, gB, mB, ap⟩ := h.sq
  refine ⟨h.hp, ⟨⟨L, hm, fun k => ⟨(ht k).1, fun p hp => by simp [ldS, ps0, getK] at hp⟩⟩, ix, ?_, ⟨es, oe, ⟨he.1, fun i e p _ hp => by simp [ldS, ps0] at hp⟩⟩, gB, mB, ⟨ap.gm, ap.gx, ap.gb, ap.gc, ap.bc⟩⟩, h.on, h.inv⟩
  rcases bp with bp | ⟨b, e, hb, L2, hm2, ht2⟩
  · exact .inl bp
  · exact .inr ⟨b, e, hb, L2, hm2, fun k => ⟨(ht2 k).1, fun p hp => by simp [ldS, ps0, getK] at hp⟩⟩
structure Ld (w wr : World) (B g0 : Nat) (F' : Lay) (j : Nat) (l : List (ByteArray × PH)) (X0 : Nat → Prop) : Prop where
  sp : Sp wr B F' j (ldS (l.take j) true)
  g : F'.g = g0
  nw : ∀ k, Ft F' k → k = g0 ∨ w.heap.size ≤ k
  x : F'.X = X0
  only : Only (fun k => k = g0) w wr
theorem only_b {S : Nat → Prop} {w w' : World} (h : Below w.heap.size w w') : Only S w w' := ⟨h.os, h.tape, h.output, h.size, fun k hk _ => h.block k hk⟩
theorem snoc_take {l : List (ByteArray × PH)} {j : Nat} {p : ByteArray × PH} (h : Ris lt l) (hp : l[j]? = some p) : setK lt (l.take j) p.1 p.2 = l.take (j + 1) := by
  obtain ⟨hj, e⟩ := List.getElem?_eq_some_iff.1 hp
  rw [List.take_add_one, hp, set_snoc]
  · rfl
  · intro x hx
    obtain ⟨i, hi, rfl⟩ := List.mem_iff_getElem.1 hx
    rw [List.length_take] at hi
    rw [List.getElem_take]
    have := List.pairwise_iff_getElem.1 h i j (by omega) hj (by omega)
    rw [e] at this; exact this
theorem ld_next {w wr W2 w4 w5 : World} {B g0 : Nat} {F' : Lay} {j M V : Nat} {l : List (ByteArray × PH)} {p0 : ByteArray × PH} {v5 : Value} {ky : ByteArray} {X0 : Nat → Prop} (hL : Ld w wr B g0 F' j l X0) (b2 : Below wr.heap.size wr W2) (b4 : Below W2.heap.size W2 w4) (hp : l[j]? = some p0) (hG : Good l) (hk : ky = p0.1) (hM : mxV (l.take j) = M) (hV : p0.2.ver = V)
    (S5 : Sp w5 B { F' with vd := v5 } (j + 1) { ldS (l.take j) true with l := setK lt (ldS (l.take j) true).l ky p0.2 }) (M5 : Moves F' { F' with vd := v5 } w4 w5) :
    Ld w (w5.setCell ⟨g0, 2, none⟩ (.int .u64 (max (M : Int) V))).drew B g0 { F' with vd := v5 } (j + 1) l X0 := by
  have hg := hL.g
  subst hg
  have e1 := snoc_take hG.ris hp
  have e2 : mxV (l.take (j + 1)) = max M V := by
    have : l.take (j + 1) = l.take j ++ [p0] := by rw [List.take_add_one, hp]; rfl
    rw [this, mx_snoc, hM, hV]
  have e3 : max (M : Int) V = ((max M V : Nat) : Int) := by omega
  subst hk
  have S6 := Sp.cnt S5 (max M V) (by
    have hI := inv_ld (hG.take (j + 1)) true
    unfold ldS at hI ⊢
    rw [e2] at hI
    simp only
    rw [e1]
    exact hI)
  have hsz : wr.heap.size ≤ w4.heap.size := Nat.le_trans b2.size b4.size
  have O4 : Only (fun k => k = F'.g) w w4 := (hL.only.trans (only_b (S := fun _ => False) b2) (fun k e => e.elim)).trans (only_b (S := fun _ => False) b4) (fun k e => e.elim)
  have O5 : Only (fun k => k = F'.g) w w5 := O4.trans M5.only (fun k hk => hL.nw k hk)
  rw [e3]
  refine ⟨?_, hL.g, fun k hk => ?_, hL.x, (O5.put (p := ⟨F'.g, 2, none⟩) (.inl rfl) _).drew⟩
  · have S7 := S6.below ((Below.refl _ _).drew)
    unfold ldS at S7 ⊢
    rw [e2]
    simp only at S7
    rw [e1] at S7
    exact S7
  · rcases M5.sub k hk with h1 | h1
    · exact hL.nw k h1
    · exact .inr (Nat.le_trans O4.size h1)
theorem sp_over {w3 W4 : World} {B B3 : Nat} {F Fn : Lay} {N : Nat} {a0 a1 a2 a3 a4 a5 a6 : Value} {Ac : Option Addr} {cc : Nat} (h : Sp w3 B3 Fn N ps0) (hx : ∀ k, ¬ Fn.X k) (hg : F.g < B3) (hB : B ≤ F.g) (hB3 : B ≤ B3) (hf : Fn.cv = .slice Ac 0 cc)
    (hp : w3.heap[F.g]? = some (.cells #[a0, a1, a2, a3, a4, a5, a6] 90 (0, 0)))
    (hW : (((((((w3.setCell ⟨F.g, 0, none⟩ (.map (some Fn.m))).setCell ⟨F.g, 1, none⟩ (.pointer (some ⟨Fn.gd, 0, none⟩))).setCell ⟨F.g, 2, none⟩ (.int .u64 (0 : Nat))).setCell ⟨F.g, 3, none⟩ (.bool false)).setCell ⟨F.g, 4, none⟩ (.map Fn.bm)).setCell ⟨F.g, 5, none⟩ (.int .u64 (0 : Nat))).setCell ⟨F.g, 6, none⟩ (.slice Ac 0 cc)) = W4) :
    Sp W4 B { Fn with g := F.g } N (ldS [] true) ∧ Only (fun k => k = F.g) w3 W4 := by
  have o : Only (fun k => k = F.g) w3 W4 := by
    rw [← hW]
    exact (((((((Only.refl (fun k => k = F.g) w3).put (p := ⟨F.g, 0, none⟩) (.inl rfl) _).put (p := ⟨F.g, 1, none⟩) (.inl rfl) _).put (p := ⟨F.g, 2, none⟩) (.inl rfl) _).put (p := ⟨F.g, 3, none⟩) (.inl rfl) _).put (p := ⟨F.g, 4, none⟩) (.inl rfl) _).put (p := ⟨F.g, 5, none⟩) (.inl rfl) _).put (p := ⟨F.g, 6, none⟩) (.inl rfl) _
  have hp4 : W4.heap[F.g]? = some (.cells #[.map (some Fn.m), .pointer (some ⟨Fn.gd, 0, none⟩), .int .u64 (0 : Nat), .bool false, .map Fn.bm, .int .u64 (0 : Nat), .slice Ac 0 cc] 90 (0, 0)) := by
    rw [← hW]
    simp [World.setCell, Array.getElem?_modify, hp]
  obtain ⟨⟨L, hm, ht⟩, ix, bp, ⟨es, oe, he⟩, gB, mB, ap⟩ := h.sq
  have hbm : Fn.bm = none := by
    have := h.on
    cases hb : Fn.bm with
    | none => rfl
    | some b => rw [hb] at this; cases this
  have hl := h.lt
  have ne : ∀ k, B3 ≤ k → k ≠ F.g := fun k hk e => by omega
  have i3 := ix.only o (fun k hk e => ne k (ix.lt k hk).1 e)
  refine ⟨⟨by rw [← hf] at hp4; exact hp4, ⟨⟨L, hm.only o (ne _ mB), fun k => ⟨(ht k).1, fun p hp => by simp [ldS, getK, ps0] at hp⟩⟩, { i3 with gB := Nat.le_trans hB3 ix.gB, mB := Nat.le_trans hB3 ix.mB, own := own_less i3.own hB3 }, .inl ⟨hbm, rfl⟩, ⟨es, own_less (own_only oe o (fun k hk e => ne k (oe.lt k hk).1 e)) hB3, ⟨he.1, fun i e p _ hp => by simp [ldS, ps0] at hp⟩⟩, hB, Nat.le_trans hB3 mB, ⟨fun e => ne _ mB e.symm, fun k hk => ⟨ne k (ix.lt k hk).1, (ap.gx k hk).2⟩, ⟨fun e => (by have e : Fn.bm = some F.g := e; rw [hbm] at e; cases e), ap.gb.2⟩, ⟨fun e => ne _ (oe.lt _ e).1 rfl, ap.gc.2⟩, ap.bc⟩⟩, h.on, inv_ld ⟨Ris.nil, fun e he => (by cases he), fun e he => (by cases he), fun e he => (by cases he), fun e he => (by cases he)⟩ true⟩, o⟩
theorem sc_only {b : Nat} {e : EN} {w w' : World} {S : Nat → Prop} (h : SC b e w) (ho : Only S w w') (hn : ¬ S b) : SC b e w' :=
  ⟨ho.cell h.1 hn, ho.cell h.2.1 hn, ho.cell h.2.2.1 hn, ho.cell h.2.2.2.1 hn, ho.cell h.2.2.2.2.1 hn, ho.cell h.2.2.2.2.2.1 hn, ho.cell h.2.2.2.2.2.2.1 hn, ho.cell h.2.2.2.2.2.2.2 hn⟩
theorem ris_step {l : List (ByteArray × PH)} {k : Nat} {p0 : ByteArray × PH} (h : Ris lt (l.take k)) (hp : l[k]? = some p0) (hk : 0 < k → ∀ p1, l[k - 1]? = some p1 → lt p1.1 p0.1 = true) : Ris lt (l.take (k + 1)) := by
  rw [List.take_add_one, hp]
  refine List.pairwise_append.2 ⟨h, List.pairwise_singleton _ _, fun a ha b hb => ?_⟩
  rw [Option.toList_some, List.mem_singleton] at hb
  subst hb
  obtain ⟨i, hi, rfl⟩ := List.mem_iff_getElem.1 ha
  have hi2 := hi
  rw [List.length_take] at hi2
  have hk0 : 0 < k := by omega
  have hln : k < l.length := (List.getElem?_eq_some_iff.1 hp).1
  have h1 := hk hk0 (l[k - 1]'(by omega)) (List.getElem?_eq_getElem (by omega))
  rcases Nat.lt_or_ge i (k - 1) with h2 | h2
  · have := List.pairwise_iff_getElem.1 h i (k - 1) hi (by rw [List.length_take]; omega) h2
    rw [List.getElem_take (i := k - 1)] at this
    exact DuB.linS.tr this h1
  · have e : i = k - 1 := by omega
    subst e
    rw [List.getElem_take]; exact h1
theorem good_step {l : List (ByteArray × PH)} {k : Nat} {p0 : ByteArray × PH} (h : Good (l.take k)) (hp : l[k]? = some p0) (hk : 0 < k → ∀ p1, l[k - 1]? = some p1 → lt p1.1 p0.1 = true) (h1 : p0.1.size ≤ 100000000) (h2 : chkP p0.2.v = 0) (h3 : 0 ≤ p0.2.due ∧ p0.2.due ≤ 9007199254740992) (h4 : 1 ≤ p0.2.ver ∧ p0.2.ver ≤ 4611686018427387904) : Good (l.take (k + 1)) := by
  have hm : ∀ (P : ByteArray × PH → Prop), (∀ e ∈ l.take k, P e) → P p0 → ∀ e ∈ l.take (k + 1), P e := by
    intro P ha hb e he
    rw [List.take_add_one, hp, Option.toList_some] at he
    rcases List.mem_append.1 he with he | he
    · exact ha e he
    · rw [List.mem_singleton.1 he]; exact hb
  exact ⟨ris_step h.ris hp hk, hm _ h.key h1, hm _ h.chk h2, hm _ h.due h3, hm _ h.ver h4⟩
set_option maxHeartbeats 16000000 in
theorem load_any (B : Nat) (F : Lay) (N : Nat) (s : PS) (A : Option Addr) (n c : Nat) (es : List EN) (l : List (ByteArray × PH)) (w : World) (h : Sp w B F N s) (hB : B ≤ w.heap.size) (hX : ∀ k, F.X k → k < w.heap.size) (hon : s.on = false) (hr : Rd w 8 A n c (rows EN.cells es)) (hA : ∀ ad, A = some ad → 0 < n → ad.block ≠ F.g) (hes : ENs w (fun k => k = F.g) es l) (hky : ∀ e ∈ l, e.1.size ≤ 100000000) (hn : n ≤ 100000000) :
    Calls Tryz.prog 17 #[.pointer (some ⟨F.g, 0, none⟩), .slice A n c] w fun e w' => (Good l ∧ e = .returned (.int .i64 0) ∧ ∃ F', Sp w' B F' n (ldS l false) ∧ Moves F F' w w') ∨ (¬ Good l ∧ e = .returned (.int .i64 141) ∧ Below w.heap.size w w') := by
  have hen : es.length = n := rd_rows_len en_len (by decide) hr
  have hln : l.length = n := by rw [← hes.1]; exact hen
  obtain ⟨c0, c1, c2, c3, c4, c5, c6⟩ := h.cells
  rw [hon] at c3
  have hcap := hr.cap
  have hbig := hr.big
  unfold maxLen at hbig
  have H := Lib.hid (And.intro h (And.intro hB (And.intro hX (And.intro hr (And.intro hA (And.intro hes (And.intro hky (And.intro hen hln))))))))
  clear h hr hes hky hB hX hA
  go_enter Tryz.func17, Tryz.ntmps17
  go_wp2_with fail
  go_loopw [19] (fun i wr => ∃ (k : Nat), k ≤ n ∧ i = .int .i64 k ∧ Good (l.take k) ∧ Below w.heap.size w wr) (fun i _ => n - (intOf i).toNat)
  case atStart => exact ⟨0, Nat.zero_le _, rfl, ⟨Ris.nil, fun e he => (by cases he), fun e he => (by cases he), fun e he => (by cases he), fun e he => (by cases he)⟩, Below.refl _ _⟩
  case round =>
    obtain ⟨k, hk, rfl, hG, hb⟩ := hrel
    by_cases hlt : k < n
    · obtain ⟨-, -, -, hr, -, hes, hky, -, -⟩ := H.out
      obtain ⟨e0, he0⟩ : ∃ e0, es[k]? = some e0 := ⟨_, List.getElem?_eq_getElem (by omega)⟩
      obtain ⟨p0, hp0⟩ : ∃ p0, l[k]? = some p0 := ⟨_, List.getElem?_eq_getElem (by omega)⟩
      have hmem : p0 ∈ l := List.mem_of_getElem? hp0
      obtain ⟨r1, r2, r3, r4⟩ := hes.2 k e0 p0 he0 hp0
      obtain ⟨pa, rfl, cx⟩ := rd_rows_get en_len hr he0 (by decide)
      have g0 : wr.cell? (pa.add (k * 8)) = some (.string e0.key) := below_c (cx 0 _ rfl) hb
      have g1 : wr.cell? ⟨(pa.add (k * 8)).block, (pa.add (k * 8)).off + 1, none⟩ = some (.int .i64 e0.x.kind) := below_c (cx 1 _ rfl) hb
      have g2 : wr.cell? ⟨(pa.add (k * 8)).block, (pa.add (k * 8)).off + 2, none⟩ = some (.string e0.x.text) := below_c (cx 2 _ rfl) hb
      have g3 : wr.cell? ⟨(pa.add (k * 8)).block, (pa.add (k * 8)).off + 3, none⟩ = some (.slice e0.x.LA e0.x.ln e0.x.lc) := below_c (cx 3 _ rfl) hb
      have g4 : wr.cell? ⟨(pa.add (k * 8)).block, (pa.add (k * 8)).off + 4, none⟩ = some (.slice e0.x.FA e0.x.fn e0.x.fc) := below_c (cx 4 _ rfl) hb
      have g5 : wr.cell? ⟨(pa.add (k * 8)).block, (pa.add (k * 8)).off + 5, none⟩ = some (.slice e0.x.KA e0.x.kn e0.x.kc) := below_c (cx 5 _ rfl) hb
      have g6 : wr.cell? ⟨(pa.add (k * 8)).block, (pa.add (k * 8)).off + 6, none⟩ = some (.int .i64 e0.due) := below_c (cx 6 _ rfl) hb
      have g7 : wr.cell? ⟨(pa.add (k * 8)).block, (pa.add (k * 8)).off + 7, none⟩ = some (.int .u64 e0.ver) := below_c (cx 7 _ rfl) hb
      obtain ⟨W2, hW2⟩ : ∃ W2, wr.alloc (.cells e0.cells.toArray 92) = W2 := ⟨_, rfl⟩
      have b2 : Below wr.heap.size wr W2 := by rw [← hW2]; exact (Below.refl _ _).alloc (Nat.le_refl _) _
      have hbx : W2.heap[wr.heap.size]? = some (.cells e0.cells.toArray 92 (0, 0)) := by rw [← hW2]; exact heap_alloc_new wr _
      obtain ⟨y0, y1, y2, y3, y4, y5, y6, y7⟩ : SC wr.heap.size e0 W2 := en_at hbx
      have x0 := fun (d : Nat) (os : Array Obj) => cell_regrown y0 d os
      have x1 := fun (d : Nat) (os : Array Obj) => cell_regrown y1 d os
      have x2 := fun (d : Nat) (os : Array Obj) => cell_regrown y2 d os
      have x3 := fun (d : Nat) (os : Array Obj) => cell_regrown y3 d os
      have x4 := fun (d : Nat) (os : Array Obj) => cell_regrown y4 d os
      have x5 := fun (d : Nat) (os : Array Obj) => cell_regrown y5 d os
      have x6 := fun (d : Nat) (os : Array Obj) => cell_regrown y6 d os
      have x7 := fun (d : Nat) (os : Array Obj) => cell_regrown y7 d os
      have hsm : Sm e0.x := (sm_pv r4.rd).2 (by rw [r4.pv]; exact r4.sm)
      have hrv : RdV W2 e0.x := ((r4.below hb).below b2).rd
      obtain ⟨C, hC⟩ : ∃ C : Int, C = chk e0.x := ⟨_, rfl⟩
      have hchk := fun (d : Nat) (os : Array Obj) => check_calls e0.x (Go.Sort.grow (redrawn W2 d) os) (hrv.below (below_regrown W2 d os)) hsm.kn hsm.z
      obtain ⟨T, hT⟩ : ∃ T, T = tickB e0.due := ⟨_, rfl⟩
      have htick : ∀ w', Calls Tryz.prog 44 #[.int .i64 e0.due] w' fun e w'' => e = .returned (.bool T) ∧ Below w'.heap.size w' w'' := fun w' => by rw [hT]; exact (tick_calls e0.due w').mono (fun _ _ q => ⟨q.1, by rw [q.2]; exact Below.refl _ _⟩)
      simp only [← hC] at hchk
      have hC9 : C = chkP p0.2.v := by rw [hC, chk_pv r4.rd, r4.pv]
      have hT9 : T = true ↔ 0 ≤ p0.2.due ∧ p0.2.due ≤ 9007199254740992 := by rw [hT, ← r2]; exact decide_eq_true_iff
      obtain ⟨V, hV⟩ : ∃ V : Int, V = (e0.ver : Int) := ⟨_, rfl⟩
      have hV9 : V = (p0.2.ver : Int) := by rw [hV, r3]
      rw [← hV] at x7
      have hkn : ((k : Nat) : Int) < (n : Int) := by omega
      unfold VV.val at hchk
      have hgk : 0 < k → ∃ e1 p1, l[k - 1]? = some p1 ∧ W2.cell? (pa.add ((k - 1) * 8)) = some (.string e1) ∧ Op.bytesLess e1.toList e0.key.toList = lt p1.1 p0.1 := by
        intro h0
        obtain ⟨e1, he1⟩ : ∃ e1, es[k - 1]? = some e1 := ⟨_, List.getElem?_eq_getElem (by omega)⟩
        obtain ⟨p1, hp1⟩ : ∃ p1, l[k - 1]? = some p1 := ⟨_, List.getElem?_eq_getElem (by omega)⟩
        obtain ⟨q, hq, cy⟩ := rd_rows_get en_len hr he1 (by decide)
        injection hq with hq; subst hq
        obtain ⟨q1, -, -, -⟩ := hes.2 (k - 1) e1 p1 he1 hp1
        exact ⟨e1.key, p1, hp1, below_c (below_c (cy 0 _ rfl) hb) b2, by rw [← q1, ← r1]; rfl⟩
      have hky0 := hky p0 hmem
      have HR := Lib.hid (And.intro hb (And.intro b2 (And.intro hG (And.intro hp0 (And.intro hmem (And.intro hC9 (And.intro hT9 (And.intro hV9 hky0))))))))
      have HW := Lib.hid hW2
      clear hb hr hes hky he0 hp0 r1 r2 r3 r4 cx b2 hbx hW2 hG hsm hmem hC hT hC9 hT9 hV hV9 y0 y1 y2 y3 y4 y5 y6 y7 hrv hky0
      go_upto_region 8 with fail
      have HW2 := HW.out
      unfold EN.cells at HW2
      rw [HW2]
      clear HW2 g0 g1 g2 g3 g4 g5 g6 g7
      by_cases hk0 : k = 0
      · subst hk0
        clear hgk
        skip
        by_cases hC1 : C = 0
        · have hC0 : (C != 0) = false := by simpa using hC1
          clear hC1
          cases T
          · (refine wp_region_quiet_below (by kernel_rfl) (by kernel_rfl) ?_; (repeat (go_big_quiet_step (first | (go_at_call 43; refine Calls.regrown_of (hchk _ _)) | (go_at_call 44; refine Calls.regrown_of (htick _))))); refine wpQuiet_nil ?_; intro _ hw'; obtain ⟨⟨nq, osq⟩, hw''⟩ := hw'; subst hw'')
            obtain ⟨hb, b2, hG, hp0, hmem, hC9, hT9, hV9, hky0⟩ := HR.out
            have b9 : Below w.heap.size w (Go.Sort.grow (redrawn W2 nq) osq) := hb.trans ((b2.trans ((below_regrown W2 nq osq).mono b2.size)).mono hb.size)
            have ng : ¬ Good l := fun G => by have := hT9.2 (G.due p0 hmem); cases this
            have HNG := Lib.hid (And.intro ng b9)
            clear hb b2 hG hp0 hmem hC9 hT9 hV9 hky0 ng b9
            go_wp2_with fail
            go_ret
            exact .inr ⟨HNG.out.1, rfl, HNG.out.2⟩
          · by_cases hV2 : V = 0
            · have hV0 : (V == 0) = true := by simpa using hV2
              clear hV2
              (refine wp_region_quiet_below (by kernel_rfl) (by kernel_rfl) ?_; (repeat (go_big_quiet_step (first | (go_at_call 43; refine Calls.regrown_of (hchk _ _)) | (go_at_call 44; refine Calls.regrown_of (htick _))))); refine wpQuiet_nil ?_; intro _ hw'; obtain ⟨⟨nq, osq⟩, hw''⟩ := hw'; subst hw'')
              obtain ⟨hb, b2, hG, hp0, hmem, hC9, hT9, hV9, hky0⟩ := HR.out
              have b9 : Below w.heap.size w (Go.Sort.grow (redrawn W2 nq) osq) := hb.trans ((b2.trans ((below_regrown W2 nq osq).mono b2.size)).mono hb.size)
              have ng : ¬ Good l := by
                intro G
                have q1 := (G.ver p0 hmem).1
                have q2 : V = 0 := by simpa using hV0
                omega
              have HNG := Lib.hid (And.intro ng b9)
              clear hb b2 hG hp0 hmem hC9 hT9 hV9 hky0 ng b9
              go_wp2_with fail
              go_ret
              exact .inr ⟨HNG.out.1, rfl, HNG.out.2⟩
            have hV0 : (V == 0) = false := by simpa using hV2
            clear hV2
            by_cases hV3 : 4611686018427387904 < V
            · have hV1 : decide (4611686018427387904 < V) = true := decide_eq_true hV3
              clear hV3
              (refine wp_region_quiet_below (by kernel_rfl) (by kernel_rfl) ?_; (repeat (go_big_quiet_step (first | (go_at_call 43; refine Calls.regrown_of (hchk _ _)) | (go_at_call 44; refine Calls.regrown_of (htick _))))); refine wpQuiet_nil ?_; intro _ hw'; obtain ⟨⟨nq, osq⟩, hw''⟩ := hw'; subst hw'')
              obtain ⟨hb, b2, hG, hp0, hmem, hC9, hT9, hV9, hky0⟩ := HR.out
              have b9 : Below w.heap.size w (Go.Sort.grow (redrawn W2 nq) osq) := hb.trans ((b2.trans ((below_regrown W2 nq osq).mono b2.size)).mono hb.size)
              have ng : ¬ Good l := by
                intro G
                have q1 := (G.ver p0 hmem).2
                have q2 := of_decide_eq_true hV1
                omega
              have HNG := Lib.hid (And.intro ng b9)
              clear hb b2 hG hp0 hmem hC9 hT9 hV9 hky0 ng b9
              go_wp2_with fail
              go_ret
              exact .inr ⟨HNG.out.1, rfl, HNG.out.2⟩
            have hV1 : decide (4611686018427387904 < V) = false := decide_eq_false hV3
            clear hV3
            (refine wp_region_quiet_below (by kernel_rfl) (by kernel_rfl) ?_; (repeat (go_big_quiet_step (first | (go_at_call 43; refine Calls.regrown_of (hchk _ _)) | (go_at_call 44; refine Calls.regrown_of (htick _))))); refine wpQuiet_nil ?_; intro _ hw'; obtain ⟨⟨nq, osq⟩, hw''⟩ := hw'; subst hw'')
            obtain ⟨hb, b2, hG, hp0, hmem, hC9, hT9, hV9, hky0⟩ := HR.out
            have b9 : Below w.heap.size w (Go.Sort.grow (redrawn W2 nq) osq) := hb.trans ((b2.trans ((below_regrown W2 nq osq).mono b2.size)).mono hb.size)
            have hq4 : 1 ≤ p0.2.ver ∧ p0.2.ver ≤ 4611686018427387904 := by
              have q1 := of_decide_eq_false hV1
              have q0 : ¬ V = 0 := by simpa using hV0
              omega
            have HNG := Lib.hid (And.intro (good_step hG hp0 (fun q => absurd q (by omega)) hky0 (hC9.symm.trans (by simpa using hC0)) (hT9.1 rfl) hq4) b9)
            clear hb b2 hG hp0 hmem hC9 hT9 hV9 hky0 hq4 b9
            go_wp2_with fail
            exact ⟨⟨1, by omega, by go_num, HNG.out.1, HNG.out.2⟩, by simp [intOf]; omega⟩
        · have hC0 : (C != 0) = true := by simpa using hC1
          clear hC1
          (refine wp_region_quiet_below (by kernel_rfl) (by kernel_rfl) ?_; (repeat (go_big_quiet_step (first | (go_at_call 43; refine Calls.regrown_of (hchk _ _)) | (go_at_call 44; refine Calls.regrown_of (htick _))))); refine wpQuiet_nil ?_; intro _ hw'; obtain ⟨⟨nq, osq⟩, hw''⟩ := hw'; subst hw'')
          obtain ⟨hb, b2, hG, hp0, hmem, hC9, hT9, hV9, hky0⟩ := HR.out
          have b9 : Below w.heap.size w (Go.Sort.grow (redrawn W2 nq) osq) := hb.trans ((b2.trans ((below_regrown W2 nq osq).mono b2.size)).mono hb.size)
          have ng : ¬ Good l := fun G => by have := G.chk p0 hmem; rw [← hC9] at this; rw [this] at hC0; simp at hC0
          have HNG := Lib.hid (And.intro ng b9)
          clear hb b2 hG hp0 hmem hC9 hT9 hV9 hky0 ng b9
          go_wp2_with fail
          go_ret
          exact .inr ⟨HNG.out.1, rfl, HNG.out.2⟩
      · obtain ⟨e1, p1, hp1, gk, kless⟩ := hgk (by omega)
        have gk9 := fun (d : Nat) (os : Array Obj) => cell_regrown gk d os
        have hk9 : decide (0 < k) = true := decide_eq_true (by omega)
        have hwk : IntKind.i64.wrap ((k : Int) - 1) = ((k - 1 : Nat) : Int) := by
          have e : (k : Int) - 1 = ((k - 1 : Nat) : Int) := by omega
          rw [IntKind.wrap_i64]; omega
        have hkn1 : ((k - 1 : Nat) : Int) < (n : Int) := by omega
        obtain ⟨R, hR⟩ : ∃ R, R = lt p1.1 p0.1 := ⟨_, rfl⟩
        rw [← hR] at kless
        have HP := Lib.hid (And.intro hp1 hR)
        clear gk hgk hp1 hR
        cases R
        · skip
          (refine wp_region_quiet_below (by kernel_rfl) (by kernel_rfl) ?_; (repeat (go_big_quiet_step (first | (go_at_call 43; refine Calls.regrown_of (hchk _ _)) | (go_at_call 44; refine Calls.regrown_of (htick _))))); refine wpQuiet_nil ?_; intro _ hw'; obtain ⟨⟨nq, osq⟩, hw''⟩ := hw'; subst hw'')
          obtain ⟨hb, b2, hG, hp0, hmem, hC9, hT9, hV9, hky0⟩ := HR.out
          have b9 : Below w.heap.size w (Go.Sort.grow (redrawn W2 nq) osq) := hb.trans ((b2.trans ((below_regrown W2 nq osq).mono b2.size)).mono hb.size)
          have ng : ¬ Good l := fun G => by
              obtain ⟨hp1, hR⟩ := HP.out
              have q := List.pairwise_iff_getElem.1 G.ris (k - 1) k (by omega) (by omega) (by omega)
              rw [(List.getElem?_eq_some_iff.1 hp1).2, (List.getElem?_eq_some_iff.1 hp0).2, ← hR] at q
              cases q
          have HNG := Lib.hid (And.intro ng b9)
          clear hb b2 hG hp0 hmem hC9 hT9 hV9 hky0 ng b9
          go_wp2_with fail
          go_ret
          exact .inr ⟨HNG.out.1, rfl, HNG.out.2⟩
        · skip
          by_cases hC1 : C = 0
          · have hC0 : (C != 0) = false := by simpa using hC1
            clear hC1
            cases T
            · (refine wp_region_quiet_below (by kernel_rfl) (by kernel_rfl) ?_; (repeat (go_big_quiet_step (first | (go_at_call 43; refine Calls.regrown_of (hchk _ _)) | (go_at_call 44; refine Calls.regrown_of (htick _))))); refine wpQuiet_nil ?_; intro _ hw'; obtain ⟨⟨nq, osq⟩, hw''⟩ := hw'; subst hw'')
              obtain ⟨hb, b2, hG, hp0, hmem, hC9, hT9, hV9, hky0⟩ := HR.out
              have b9 : Below w.heap.size w (Go.Sort.grow (redrawn W2 nq) osq) := hb.trans ((b2.trans ((below_regrown W2 nq osq).mono b2.size)).mono hb.size)
              have ng : ¬ Good l := fun G => by have := hT9.2 (G.due p0 hmem); cases this
              have HNG := Lib.hid (And.intro ng b9)
              clear hb b2 hG hp0 hmem hC9 hT9 hV9 hky0 ng b9
              go_wp2_with fail
              go_ret
              exact .inr ⟨HNG.out.1, rfl, HNG.out.2⟩
            · by_cases hV2 : V = 0
              · have hV0 : (V == 0) = true := by simpa using hV2
                clear hV2
                (refine wp_region_quiet_below (by kernel_rfl) (by kernel_rfl) ?_; (repeat (go_big_quiet_step (first | (go_at_call 43; refine Calls.regrown_of (hchk _ _)) | (go_at_call 44; refine Calls.regrown_of (htick _))))); refine wpQuiet_nil ?_; intro _ hw'; obtain ⟨⟨nq, osq⟩, hw''⟩ := hw'; subst hw'')
                obtain ⟨hb, b2, hG, hp0, hmem, hC9, hT9, hV9, hky0⟩ := HR.out
                have b9 : Below w.heap.size w (Go.Sort.grow (redrawn W2 nq) osq) := hb.trans ((b2.trans ((below_regrown W2 nq osq).mono b2.size)).mono hb.size)
                have ng : ¬ Good l := by
                  intro G
                  have q1 := (G.ver p0 hmem).1
                  have q2 : V = 0 := by simpa using hV0
                  omega
                have HNG := Lib.hid (And.intro ng b9)
                clear hb b2 hG hp0 hmem hC9 hT9 hV9 hky0 ng b9
                go_wp2_with fail
                go_ret
                exact .inr ⟨HNG.out.1, rfl, HNG.out.2⟩
              have hV0 : (V == 0) = false := by simpa using hV2
              clear hV2
              by_cases hV3 : 4611686018427387904 < V
              · have hV1 : decide (4611686018427387904 < V) = true := decide_eq_true hV3
                clear hV3
                (refine wp_region_quiet_below (by kernel_rfl) (by kernel_rfl) ?_; (repeat (go_big_quiet_step (first | (go_at_call 43; refine Calls.regrown_of (hchk _ _)) | (go_at_call 44; refine Calls.regrown_of (htick _))))); refine wpQuiet_nil ?_; intro _ hw'; obtain ⟨⟨nq, osq⟩, hw''⟩ := hw'; subst hw'')
                obtain ⟨hb, b2, hG, hp0, hmem, hC9, hT9, hV9, hky0⟩ := HR.out
                have b9 : Below w.heap.size w (Go.Sort.grow (redrawn W2 nq) osq) := hb.trans ((b2.trans ((below_regrown W2 nq osq).mono b2.size)).mono hb.size)
                have ng : ¬ Good l := by
                  intro G
                  have q1 := (G.ver p0 hmem).2
                  have q2 := of_decide_eq_true hV1
                  omega
                have HNG := Lib.hid (And.intro ng b9)
                clear hb b2 hG hp0 hmem hC9 hT9 hV9 hky0 ng b9
                go_wp2_with fail
                go_ret
                exact .inr ⟨HNG.out.1, rfl, HNG.out.2⟩
              have hV1 : decide (4611686018427387904 < V) = false := decide_eq_false hV3
              clear hV3
              (refine wp_region_quiet_below (by kernel_rfl) (by kernel_rfl) ?_; (repeat (go_big_quiet_step (first | (go_at_call 43; refine Calls.regrown_of (hchk _ _)) | (go_at_call 44; refine Calls.regrown_of (htick _))))); refine wpQuiet_nil ?_; intro _ hw'; obtain ⟨⟨nq, osq⟩, hw''⟩ := hw'; subst hw'')
              obtain ⟨hb, b2, hG, hp0, hmem, hC9, hT9, hV9, hky0⟩ := HR.out
              have b9 : Below w.heap.size w (Go.Sort.grow (redrawn W2 nq) osq) := hb.trans ((b2.trans ((below_regrown W2 nq osq).mono b2.size)).mono hb.size)
              have hq4 : 1 ≤ p0.2.ver ∧ p0.2.ver ≤ 4611686018427387904 := by
                have q1 := of_decide_eq_false hV1
                have q0 : ¬ V = 0 := by simpa using hV0
                omega
              have G9 := good_step hG hp0 (fun _ q hq => by
                  obtain ⟨hp1, hR⟩ := HP.out
                  rw [hp1] at hq; injection hq with hq; rw [← hq, ← hR]) hky0 (hC9.symm.trans (by simpa using hC0)) (hT9.1 rfl) hq4
              have HNG := Lib.hid (And.intro G9 b9)
              clear hb b2 hG hp0 hmem hC9 hT9 hV9 hky0 hq4 b9 G9
              go_wp2_with fail
              exact ⟨⟨k + 1, by omega, by go_num, HNG.out.1, HNG.out.2⟩, by simp [intOf]; omega⟩
          · have hC0 : (C != 0) = true := by simpa using hC1
            clear hC1
            (refine wp_region_quiet_below (by kernel_rfl) (by kernel_rfl) ?_; (repeat (go_big_quiet_step (first | (go_at_call 43; refine Calls.regrown_of (hchk _ _)) | (go_at_call 44; refine Calls.regrown_of (htick _))))); refine wpQuiet_nil ?_; intro _ hw'; obtain ⟨⟨nq, osq⟩, hw''⟩ := hw'; subst hw'')
            obtain ⟨hb, b2, hG, hp0, hmem, hC9, hT9, hV9, hky0⟩ := HR.out
            have b9 : Below w.heap.size w (Go.Sort.grow (redrawn W2 nq) osq) := hb.trans ((b2.trans ((below_regrown W2 nq osq).mono b2.size)).mono hb.size)
            have ng : ¬ Good l := fun G => by have := G.chk p0 hmem; rw [← hC9] at this; rw [this] at hC0; simp at hC0
            have HNG := Lib.hid (And.intro ng b9)
            clear hb b2 hG hp0 hmem hC9 hT9 hV9 hky0 ng b9
            go_wp2_with fail
            go_ret
            exact .inr ⟨HNG.out.1, rfl, HNG.out.2⟩
    · obtain rfl : k = n := by omega
      rw [List.take_of_length_le (Nat.le_of_eq hln)] at hG
      have hnw := fun w' => new_calls w'
      obtain ⟨h, hB, -, -, -, -, -, -, -⟩ := H.out
      have hpw := (hb.block _ h.glt).trans h.hp
      have hgw := h.glt
      have HB := Lib.hid (And.intro hb (And.intro hpw hgw))
      have HG := Lib.hid hG
      clear h hB hb hpw hgw hG
      go_upto_region 11 with fail
      go_wp2_with fail
      refine (hnw _).mono ?_
      rintro e w3 ⟨Fn, rfl, hs3, hx3, b3⟩
      obtain ⟨n0, n1, n2, n3, n4, n5, n6⟩ := hs3.cells
      obtain ⟨hb, hpw, hgw⟩ := HB.out
      have hp3 := (Only.of_below b3).heap hpw (by have := hb.size; omega)
      have zf : ∀ j, w3.frozen? ⟨F.g, j, none⟩ = false := fun j => by simp [World.frozen?, hp3]
      obtain ⟨z0, z1, z2, z3, z4, z5, z6⟩ := sp_at hp3
      obtain ⟨ez, oe, hez⟩ := hs3.sq.ch
      obtain ⟨Ac, cc, hform⟩ := own_form oe
      have hez0 : ez.length = 0 := hez.1
      rw [hez0] at hform
      rw [hform] at n6
      have HF := Lib.hid hform
      clear oe hez hform hez0
      have HN := Lib.hid (And.intro hs3 (And.intro hx3 (And.intro b3 (And.intro hp3 hb))))
      clear hs3 hx3 b3 hp3 hb hpw hgw hnw
      go_upto_region 12 with fail
      obtain ⟨W4, hW4⟩ : ∃ W4, (((((((w3.setCell ⟨F.g, 0, none⟩ (.map (some Fn.m))).setCell ⟨F.g, 1, none⟩ (.pointer (some ⟨Fn.gd, 0, none⟩))).setCell ⟨F.g, 2, none⟩ (.int .u64 (ps0.cnt : Nat))).setCell ⟨F.g, 3, none⟩ (.bool ps0.on)).setCell ⟨F.g, 4, none⟩ (.map Fn.bm)).setCell ⟨F.g, 5, none⟩ (.int .u64 (ps0.at_ : Nat))).setCell ⟨F.g, 6, none⟩ (.slice Ac 0 cc)) = W4 := ⟨_, rfl⟩
      rw [hW4]
      obtain ⟨h, hB, hX, hr, hA, hes, -, -, -⟩ := H.out
      obtain ⟨hs3, hx3, b3, hp3, hb⟩ := HN.out
      have hwr := hb.size
      obtain ⟨S4, o4⟩ := sp_over (F := F) (B := B) hs3 hx3 (Nat.lt_of_lt_of_le h.glt hwr) h.sq.gB (Nat.le_trans hB hwr) HF.out hp3 hW4
      have L0 : Ld w W4 B F.g { Fn with g := F.g, X := F.X } 0 l F.X := ⟨ld0_ghost S4 F.X, rfl, fun k hk => by
        rcases hk with hk | hk
        · exact .inl hk
        · exact .inr (by have := (hs3.lt k (.inr hk)).1; omega), rfl, (only_b (hb.trans (b3.mono hwr))).trans o4 (fun k e => .inl e)⟩
      clear S4 o4 hs3 hx3 b3 hp3 hb hW4 n0 n1 n2 n3 n4 n5 n6 z0 z1 z2 z3 z4 z5 z6 zf h hB hX hr hA hes
      go_upto_region 13 with fail
      go_loopw [67] (fun i wr => ∃ (j : Nat) (F' : Lay), j ≤ k ∧ i = .int .i64 j ∧ Ld w wr B F.g F' j l F.X) (fun i _ => k - (intOf i).toNat)
      case atStart => exact ⟨0, _, Nat.zero_le _, rfl, L0⟩
      case round =>
        obtain ⟨j, F', hj, rfl, hL⟩ := hrel
        by_cases hlt2 : j < k
        · obtain ⟨-, hB, hX, hr, hA, hes, -, -, -⟩ := H.out
          have hG := HG.out
          obtain ⟨e0, he0⟩ : ∃ e0, es[j]? = some e0 := ⟨_, List.getElem?_eq_getElem (by omega)⟩
          obtain ⟨p0, hp0⟩ : ∃ p0, l[j]? = some p0 := ⟨_, List.getElem?_eq_getElem (by omega)⟩
          have hmem : p0 ∈ l := List.mem_of_getElem? hp0
          obtain ⟨r1, r2, r3, r4⟩ := hes.2 j e0 p0 he0 hp0
          obtain ⟨pa, rfl, cx⟩ := rd_rows_get en_len hr he0 (by decide)
          have hpa : ∀ m, (pa.add m).block ≠ F.g := fun m => by rw [Mem.add_block]; exact hA pa rfl (by omega)
          have g0 : wr.cell? (pa.add (j * 8)) = some (.string e0.key) := hL.only.cell (cx 0 _ rfl) (hpa _)
          have g1 : wr.cell? ⟨(pa.add (j * 8)).block, (pa.add (j * 8)).off + 1, none⟩ = some (.int .i64 e0.x.kind) := hL.only.cell (cx 1 _ rfl) (hpa _)
          have g2 : wr.cell? ⟨(pa.add (j * 8)).block, (pa.add (j * 8)).off + 2, none⟩ = some (.string e0.x.text) := hL.only.cell (cx 2 _ rfl) (hpa _)
          have g3 : wr.cell? ⟨(pa.add (j * 8)).block, (pa.add (j * 8)).off + 3, none⟩ = some (.slice e0.x.LA e0.x.ln e0.x.lc) := hL.only.cell (cx 3 _ rfl) (hpa _)
          have g4 : wr.cell? ⟨(pa.add (j * 8)).block, (pa.add (j * 8)).off + 4, none⟩ = some (.slice e0.x.FA e0.x.fn e0.x.fc) := hL.only.cell (cx 4 _ rfl) (hpa _)
          have g5 : wr.cell? ⟨(pa.add (j * 8)).block, (pa.add (j * 8)).off + 5, none⟩ = some (.slice e0.x.KA e0.x.kn e0.x.kc) := hL.only.cell (cx 5 _ rfl) (hpa _)
          have g6 : wr.cell? ⟨(pa.add (j * 8)).block, (pa.add (j * 8)).off + 6, none⟩ = some (.int .i64 e0.due) := hL.only.cell (cx 6 _ rfl) (hpa _)
          have g7 : wr.cell? ⟨(pa.add (j * 8)).block, (pa.add (j * 8)).off + 7, none⟩ = some (.int .u64 e0.ver) := hL.only.cell (cx 7 _ rfl) (hpa _)
          obtain ⟨W2, hW2⟩ : ∃ W2, wr.alloc (.cells e0.cells.toArray 92) = W2 := ⟨_, rfl⟩
          have b2 : Below wr.heap.size wr W2.drew := by rw [← hW2]; exact ((Below.refl _ _).alloc (Nat.le_refl _) _).drew
          have hbx : W2.heap[wr.heap.size]? = some (.cells e0.cells.toArray 92 (0, 0)) := by rw [← hW2]; exact heap_alloc_new wr _
          have SC0 : SC wr.heap.size e0 W2 := en_at hbx
          have S2 := hL.sp.below b2
          have v2 : Vok W2.drew (fun k => k = F.g) e0.x p0.2.v := (r4.move hL.only (fun _ _ e => e) (fun _ _ e => e)).below b2
          have hcp := copy_vok (S := Fx F') v2 (fun q e => e.elim (fun e => (S2.lt q e).2) (fun e => by have q1 := hX q (by rw [← hL.x]; exact e); have q2 := hL.only.size; have q3 := b2.size; omega))
          have hkn : ((j : Nat) : Int) < (k : Int) := by omega
          have HR := Lib.hid (And.intro hL (And.intro b2 (And.intro S2 (And.intro hp0 (And.intro r1 (And.intro r2 (And.intro r3 (And.intro hmem (And.intro hG hB)))))))))
          have HW := Lib.hid hW2
          unfold VV.val at hcp
          clear hL hr hA hes he0 hp0 r1 r2 r3 r4 cx b2 hbx hW2 hG hmem S2 v2 hB hpa hX
          go_upto_region 15 with fail
          have HW2 := HW.out
          unfold EN.cells at HW2
          rw [HW2]
          clear HW2 g0 g1 g2 g3 g4 g5 g6 g7
          go_region_held3 (fun w' => SC wr.heap.size e0 w')
            (first | exact SC0 | assumption)
            (first
              | (go_at_call 45
                 obtain ⟨hL, b2, S2, hp0, r1, r2, r3, hmem, hG, hB⟩ := HR.out
                 have S4 := S2.below b4
                 have hk0 : e0.key.size ≤ 100000000 := by rw [r1]; exact hG.key p0 hmem
                 have hI : Inv { ldS (l.take j) true with l := setK lt (ldS (l.take j) true).l e0.key p0.2 } := inv_set S4.inv hk0 (hG.due p0 hmem) ⟨(hG.ver p0 hmem).1, .inl rfl⟩ (hG.chk p0 hmem) (fun e => by cases e)
                 have hsz : w.heap.size ≤ w4.heap.size := by have q1 := hL.only.size; have q2 := b2.size; have q3 := b4.size; omega
                 refine (lay_at B F' j (ldS (l.take j) true) e0.key y p0.2 w4 F.g hL.g S4 hk0 (by omega) (Nat.le_trans hB hsz) v4 (hG.due p0 hmem) hI r2.symm r3.symm).mono ?_
                 rintro e w5 ⟨rfl, v5, S5, M5, o5⟩
                 have SC5 := sc_only SC4 o5 (fun e => by have := (hL.sp.lt wr.heap.size (e.elim (fun e => .inr (.inl e)) (fun e => .inr (.inr (.inl e))))).2; omega))
              | (go_at_call 46; refine hcp.mono ?_; rintro e w4 ⟨y, rfl, v4, wv4, n4, b4⟩; have SC4 := sc_below (w := W2.drew) SC0 b4))
          all_goals (
            have k2 : w5.cell? ⟨F.g, 2, none⟩ = some (.int .u64 (mxV (l.take j) : Nat)) := by have := S5.cells.2.2.1; rw [← hL.g]; exact this
            have kf : w5.frozen? ⟨F.g, 2, none⟩ = false := by rw [← hL.g]; exact S5.free 2
            obtain ⟨-, -, -, -, -, -, -, k7⟩ := SC5
            have HT := Lib.hid (And.intro S5 (And.intro M5 (And.intro b4 (And.intro r1 (And.intro r3 hp0)))))
            clear S5 M5 b4 o5 S4 hI SC4 SC0 hcp v4 wv4 n4 hL b2 S2 hp0 r1 r2 r3 hmem hG hB hsz hk0
            obtain ⟨M, hM⟩ : ∃ M, mxV (l.take j) = M := ⟨_, rfl⟩
            obtain ⟨V, hV⟩ : ∃ V, e0.ver = V := ⟨_, rfl⟩
            rw [hM] at k2
            rw [hV] at k7
            have HMV := Lib.hid (And.intro hM hV)
            clear hM
            go_wp2_with fail
            go_region_law (fail)
            all_goals (
              go_wp2_with fail
              obtain ⟨S5, M5, b4, -, -, -⟩ := HT.out
              obtain ⟨hL, b2, S2, hp0, r1, r2, r3, hmem, hG, hB⟩ := HR.out
              have hL9 := ld_next hL b2 b4 hp0 hG r1 HMV.out.1 (r3.symm.trans HMV.out.2) S5 M5
              exact ⟨⟨j + 1, _, by omega, by go_num, hL9⟩, by simp [intOf]; omega⟩))
        · obtain rfl : j = k := by omega
          go_wp2_with fail
          go_ret
          obtain ⟨-, -, hX, -, -, -, -, -, hln⟩ := H.out
          have hG := HG.out
          have S9 := hL.sp
          rw [List.take_of_length_le (Nat.le_of_eq hln)] at S9
          exact .inl ⟨hG, rfl, F', ⟨S9.hp, S9.sq, S9.on, inv_ld hG false⟩, ⟨hL.only.mono (fun k e => .inl e), fun k hk => (hL.nw k hk).imp (fun e => .inl e) id, hL.g, hL.x⟩⟩
theorem load_calls (B : Nat) (F : Lay) (N : Nat) (s : PS) (A : Option Addr) (n c : Nat) (es : List EN) (l : List (ByteArray × PH)) (w : World) (h : Sp w B F N s) (hB : B ≤ w.heap.size) (hX : ∀ k, F.X k → k < w.heap.size) (hon : s.on = false) (hr : Rd w 8 A n c (rows EN.cells es)) (hA : ∀ ad, A = some ad → ad.block ≠ F.g) (hes : ENs w (fun k => k = F.g) es l) (hG : Good l) (hn : n ≤ 100000000) :
    Calls Tryz.prog 17 #[.pointer (some ⟨F.g, 0, none⟩), .slice A n c] w fun e w' => e = .returned (.int .i64 0) ∧ ∃ F', Sp w' B F' n (ldS l false) ∧ Moves F F' w w' :=
  (load_any B F N s A n c es l w h hB hX hon hr (fun ad e _ => hA ad e) hes hG.key hn).mono (fun _ _ q => q.elim (fun q => q.2) (fun q => absurd hG q.1))
end Go.Proofs.YtgmnnpbbiejbnaaGreat.SpU
set_option maxRecDepth 100000
set_option linter.unusedSimpArgs false
set_option linter.unusedVariables false
namespace Go.Proofs.YtgmnnpbbiejbnaaGreat.SpV
open Go.RowKit Go.Proofs.YtgmnnpbbiejbnaaGreat.Mem Go.Proofs.YtgmnnpbbiejbnaaGreat.VaC Go.Proofs.YtgmnnpbbiejbnaaGreat.VaE Go.Proofs.YtgmnnpbbiejbnaaGreat.VaH Go.Proofs.YtgmnnpbbiejbnaaGreat.VaI Go.Proofs.YtgmnnpbbiejbnaaGreat.VaX Go.Proofs.YtgmnnpbbiejbnaaGreat.DuA Go.Proofs.YtgmnnpbbiejbnaaGreat.SpA Go.Proofs.YtgmnnpbbiejbnaaGreat.SpB Go.Proofs.YtgmnnpbbiejbnaaGreat.SpC Go.Proofs.YtgmnnpbbiejbnaaGreat.SpD Go.Proofs.YtgmnnpbbiejbnaaGreat.SpE Go.Proofs.YtgmnnpbbiejbnaaGreat.SpF Go.Proofs.YtgmnnpbbiejbnaaGreat.SpG Go.Proofs.YtgmnnpbbiejbnaaGreat.SpH Go.Proofs.YtgmnnpbbiejbnaaGreat.SpI Go.Proofs.YtgmnnpbbiejbnaaGreat.SpJ Go.Proofs.YtgmnnpbbiejbnaaGreat.SpK Go.Proofs.YtgmnnpbbiejbnaaGreat.SpL Go.Proofs.YtgmnnpbbiejbnaaGreat.SpM Go.Proofs.YtgmnnpbbiejbnaaGreat.SpN Go.Proofs.YtgmnnpbbiejbnaaGreat.SpO Go.Proofs.YtgmnnpbbiejbnaaGreat.SpP Go.Proofs.YtgmnnpbbiejbnaaGreat.SpQ Go.Proofs.YtgmnnpbbiejbnaaGreat.SpR Go.Proofs.YtgmnnpbbiejbnaaGreat.SpS Go.Proofs.YtgmnnpbbiejbnaaGreat.SpT Go.Proofs.YtgmnnpbbiejbnaaGreat.SpU
open Go.Proofs.YtgmnnpbbiejbnaaGreat.DsH (Ix IxS okk keyed key_of)
open Go.Proofs.YtgmnnpbbiejbnaaGreat.DsK (OwnKs RdKs keysV elKs)


set_option maxHeartbeats 1000000 in
theorem load_marked (B : Nat) (F : Lay) (N : Nat) (s : PS) (A : Option Addr) (n c : Nat) (w : World) (h : Sp w B F N s) (hon : s.on = true) :
    Calls Tryz.prog 17 #[.pointer (some ⟨F.g, 0, none⟩), .slice A n c] w fun e w' => e = .returned (.int .i64 140) ∧ w' = w := by
  obtain ⟨-, -, -, c3, -, -, -⟩ := h.cells
  rw [hon] at c3
  clear h
  go_enter Tryz.func17, Tryz.ntmps17
  go_wp2_with fail
  go_ret
  exact ⟨rfl, rfl⟩
/-- A space at g whose blocks are none of Kp. -/
structure Su (w : World) (B g N : Nat) (s : PS) (Kp : Nat → Prop) : Prop where
  ex : ∃ F : Lay, F.g = g ∧ Sp w B F N s ∧ (∀ k, ¬ F.X k) ∧ (∀ k, Kp k → k < w.heap.size ∧ ¬ Ft F k)
  sz : B ≤ w.heap.size
section
variable {w w' : World} {B g N : Nat} {s : PS} {Kp : Nat → Prop}
theorem Su.below (h : Su w B g N s Kp) (hb : Below w.heap.size w w') : Su w' B g N s Kp := by
  obtain ⟨⟨F, e, hs, hx, hk⟩, hz⟩ := h
  exact ⟨⟨F, e, hs.below hb, hx, fun k q => ⟨Nat.lt_of_lt_of_le (hk k q).1 hb.size, (hk k q).2⟩⟩, Nat.le_trans hz hb.size⟩
theorem Su.less (h : Su w B g N s Kp) {Kq : Nat → Prop} (hq : ∀ k, Kq k → Kp k) : Su w B g N s Kq := by
  obtain ⟨⟨F, e, hs, hx, hk⟩, hz⟩ := h
  exact ⟨⟨F, e, hs, hx, fun k q => hk k (hq k q)⟩, hz⟩
/-- .. and of no block made behind. -/
theorem Su.keep (h : Su w B g N s Kp) (hb : Below w.heap.size w w') {Kq : Nat → Prop} (hq : ∀ k, Kq k → Kp k ∨ (w.heap.size ≤ k ∧ k < w'.heap.size)) : Su w' B g N s Kq := by
  obtain ⟨⟨F, e, hs, hx, hk⟩, hz⟩ := h
  refine ⟨⟨F, e, hs.below hb, hx, fun k q => ?_⟩, Nat.le_trans hz hb.size⟩
  rcases hq k q with h1 | h1
  · exact ⟨Nat.lt_of_lt_of_le (hk k h1).1 hb.size, (hk k h1).2⟩
  · exact ⟨h1.2, fun e => by have := (hs.lt k e).2; omega⟩
theorem Su.more (h : Su w B g N s Kp) {N' : Nat} (hN : N ≤ N') : Su w B g N' s Kp := by
  obtain ⟨⟨F, e, hs, hx, hk⟩, hz⟩ := h
  exact ⟨⟨F, e, hs.more hN, hx, hk⟩, hz⟩
theorem su_turn {F F' : Lay} {N' : Nat} {s' : PS} (hs : Sp w' B F' N' s') (M : Moves F F' w w') (hx : ∀ k, ¬ F.X k) (hk : ∀ k, Kp k → k < w.heap.size ∧ ¬ Ft F k) (hz : B ≤ w.heap.size) : Su w' B F.g N' s' Kp ∧ Only (fun k => ¬ Kp k) w w' :=
  ⟨⟨⟨F', M.g, hs, fun k => by rw [M.x]; exact hx k, fun k q => ⟨Nat.lt_of_lt_of_le (hk k q).1 M.only.size, fun e => (M.sub k e).elim (hk k q).2 (fun h => by have := (hk k q).1; omega)⟩⟩, Nat.le_trans hz M.only.size⟩, M.only.mono (fun k e q => (hk k q).2 e)⟩
theorem Su.inv (h : Su w B g N s Kp) : Inv s := by
  obtain ⟨⟨F, e, hs, hx, hk⟩, hz⟩ := h
  exact hs.inv
theorem su_new (w : World) : Calls Tryz.prog 16 #[] w fun e w' => ∃ g, e = .returned (.pointer (some ⟨g, 0, none⟩)) ∧ Su w' w.heap.size g 0 ps0 (fun k => k < w.heap.size) ∧ Below w.heap.size w w' := by
  refine (new_calls w).mono ?_
  rintro e w' ⟨F, rfl, hs, hx, hb⟩
  exact ⟨F.g, rfl, ⟨⟨F, rfl, hs, hx, fun k hk => ⟨Nat.lt_of_lt_of_le hk hb.size, fun e => by have := (hs.lt k e).1; omega⟩⟩, hb.size⟩, hb⟩
theorem put_su (h : Su w B g N s Kp) (k : ByteArray) {x : VV} {p : PV} (due : Int) {r : Int} {s' : PS} (hr : putE p due = r) (he : putS s k p due = s') (hk : k.size ≤ 100000000) (hx : Vok w (fun q => ¬ Kp q) x p) (hN : N ≤ 999999999) (hc : s.cnt ≤ 4611686118427387903) (hch : s.ch.length ≤ 1000000000) :
    Calls Tryz.prog 47 #[.pointer (some ⟨g, 0, none⟩), .string k, x.val, .int .i64 due] w fun e w' => e = .returned (.int .i64 r) ∧ Su w' B g (N + 2) s' Kp ∧ Only (fun k => ¬ Kp k) w w' := by
  obtain ⟨⟨F, rfl, hs, hX, hK⟩, hz⟩ := h
  subst hr he
  refine (put_calls B F N s k x p due w hs hz hk (hx.move (Only.refl (fun _ => False) w) (fun _ _ e => e.elim) (fun q _ e q2 => (hK q q2).2 e)) (fun q e => absurd e (hX q)) hN hc hch).mono ?_
  rintro e w' ⟨rfl, F', hs', M⟩
  exact ⟨rfl, su_turn hs' M hX hK hz⟩
theorem drop_su (h : Su w B g N s Kp) (k : ByteArray) {r : Bool} {s' : PS} (hr : (getK s.l k).isSome = r) (he : dropS s k = s') (hk : k.size ≤ 100000000) (hN : N ≤ 999999999) (hc : s.cnt ≤ 4611686118427387903) (hch : s.ch.length ≤ 1000000000) :
    Calls Tryz.prog 48 #[.pointer (some ⟨g, 0, none⟩), .string k] w fun e w' => e = .returned (.bool r) ∧ Su w' B g (N + 1) s' Kp ∧ Only (fun k => ¬ Kp k) w w' := by
  obtain ⟨⟨F, rfl, hs, hX, hK⟩, hz⟩ := h
  subst hr he
  refine (drop_calls B F N s k w hs hz hk (fun q e => absurd e (hX q)) hN hc hch).mono ?_
  rintro e w' ⟨rfl, F', hs', M⟩
  exact ⟨rfl, su_turn hs' M hX hK hz⟩
theorem setDue_su (h : Su w B g N s Kp) (k : ByteArray) (due : Int) {r : Bool} {s' : PS} (hr : dueB s k due = r) (he : dueS s k due = s') (hk : k.size ≤ 100000000) (hN : N ≤ 999999999) (hc : s.cnt ≤ 4611686118427387903) (hch : s.ch.length ≤ 1000000000) :
    Calls Tryz.prog 49 #[.pointer (some ⟨g, 0, none⟩), .string k, .int .i64 due] w fun e w' => e = .returned (.bool r) ∧ Su w' B g (N + 2) s' Kp ∧ Only (fun k => ¬ Kp k) w w' := by
  obtain ⟨⟨F, rfl, hs, hX, hK⟩, hz⟩ := h
  subst hr he
  refine (setDue_calls B F N s k due w hs hz hk (fun q e => absurd e (hX q)) hN hc hch).mono ?_
  rintro e w' ⟨rfl, F', hs', M⟩
  exact ⟨rfl, su_turn hs' M hX hK hz⟩
theorem clear_su (h : Su w B g N s Kp) {r : Int} {s' : PS} (hr : (s.l.length : Int) = r) (he : clearS s = s') (hN : N ≤ 400000000) (hc : s.cnt ≤ 4611686068427387903) (hch : s.ch.length ≤ 1000000000) :
    Calls Tryz.prog 50 #[.pointer (some ⟨g, 0, none⟩)] w fun e w' => e = .returned (.int .i64 r) ∧ Su w' B g (N + s.l.length) s' Kp ∧ Only (fun k => ¬ Kp k) w w' := by
  obtain ⟨⟨F, rfl, hs, hX, hK⟩, hz⟩ := h
  subst hr he
  refine (clear_calls B F N s w hs (fun q e => absurd e (hX q)) hN hc hch).mono ?_
  rintro e w' ⟨rfl, F', hs', M⟩
  exact ⟨rfl, su_turn hs' M hX hK hz⟩
theorem mark_su (h : Su w B g N s Kp) {r : Int} {s' : PS} (hld : s.ld = false) (hr : (if s.on then 140 else 0) = r) (he : markS s = s') :
    Calls Tryz.prog 23 #[.pointer (some ⟨g, 0, none⟩)] w fun e w' => e = .returned (.int .i64 r) ∧ Su w' B g N s' Kp ∧ Only (fun k => ¬ Kp k) w w' := by
  obtain ⟨⟨F, rfl, hs, hX, hK⟩, hz⟩ := h
  subst hr he
  refine (mark_calls B F N s w hs hld).mono ?_
  rintro e w' ⟨rfl, F', hs', M⟩
  exact ⟨rfl, su_turn hs' M hX hK hz⟩
theorem keep_su (h : Su w B g N s Kp) {r : Int} {s' : PS} (hr : (if s.on then 0 else 140) = r) (he : keepS s = s') :
    Calls Tryz.prog 26 #[.pointer (some ⟨g, 0, none⟩)] w fun e w' => e = .returned (.int .i64 r) ∧ Su w' B g N s' Kp ∧ Only (fun k => ¬ Kp k) w w' := by
  obtain ⟨⟨F, rfl, hs, hX, hK⟩, hz⟩ := h
  subst hr he
  refine (keep_calls B F N s w hs).mono ?_
  rintro e w' ⟨rfl, F', hs', M⟩
  exact ⟨rfl, su_turn hs' M hX hK hz⟩
theorem load_su (h : Su w B g N s Kp) {A : Option Addr} {n c : Nat} {es : List EN} {l : List (ByteArray × PH)} {s' : PS} (hon : s.on = false) (hr : Rd w 8 A n c (rows EN.cells es)) (hA : ∀ ad, A = some ad → Kp ad.block) (hes : ENs w (fun q => ¬ Kp q) es l) (hG : SpU.Good l) (hn : n ≤ 100000000) (he : SpU.ldS l false = s') :
    Calls Tryz.prog 17 #[.pointer (some ⟨g, 0, none⟩), .slice A n c] w fun e w' => e = .returned (.int .i64 0) ∧ Su w' B g n s' Kp ∧ Only (fun k => ¬ Kp k) w w' := by
  obtain ⟨⟨F, rfl, hs, hX, hK⟩, hz⟩ := h
  subst he
  refine (load_calls B F N s A n c es l w hs hz (fun q e => absurd e (hX q)) hon hr (fun ad e e2 => (hK _ (hA ad e)).2 (by rw [e2]; exact .inl rfl)) (hes.move (Only.refl (fun _ => False) w) (fun _ _ e => e.elim) (fun q _ e q2 => (hK q q2).2 (by rw [e]; exact .inl rfl))) hG hn).mono ?_
  rintro e w' ⟨rfl, F', hs', M⟩
  exact ⟨rfl, su_turn hs' M hX hK hz⟩
theorem loadM_su (h : Su w B g N s Kp) (A : Option Addr) (n c : Nat) (hon : s.on = true) :
    Calls Tryz.prog 17 #[.pointer (some ⟨g, 0, none⟩), .slice A n c] w fun e w' => e = .returned (.int .i64 140) ∧ w' = w := by
  obtain ⟨⟨F, rfl, hs, hX, hK⟩, hz⟩ := h
  exact load_marked B F N s A n c w hs hon
theorem due_su (h : Su w B g N s Kp) (k : ByteArray) (now : Int) {r : Bool} {d : Int} (hr : (seenP s k now).isSome = r) (hd : ((seenP s k now).getD ph0).due = d) (hk : k.size ≤ 100000000) :
    Calls Tryz.prog 37 #[.pointer (some ⟨g, 0, none⟩), .string k, .int .i64 now] w fun e w' => e = .returned (.tuple #[.int .i64 d, .bool r]) ∧ Below w.heap.size w w' := by
  obtain ⟨⟨F, rfl, hs, hX, hK⟩, hz⟩ := h
  subst hr hd
  exact due_calls B F N s k now w hs hk
theorem counter_su (h : Su w B g N s Kp) {r : Int} (hr : (s.cnt : Int) = r) :
    Calls Tryz.prog 25 #[.pointer (some ⟨g, 0, none⟩)] w fun e w' => e = .returned (.int .u64 r) ∧ w' = w := by
  obtain ⟨⟨F, rfl, hs, hX, hK⟩, hz⟩ := h
  subst hr
  exact counter_calls B F N s w hs
theorem entries_su (h : Su w B g N s Kp) {l : List (ByteArray × PH)} (hl : s.l = l) (hN : N ≤ 400000000) :
    Calls Tryz.prog 20 #[.pointer (some ⟨g, 0, none⟩)] w fun e w' => ∃ v es, e = .returned v ∧ FrEn w' w.heap.size v es l ∧ Below w.heap.size w w' := by
  obtain ⟨⟨F, rfl, hs, hX, hK⟩, hz⟩ := h
  subst hl
  exact entries_calls B F N s w hs (fun q e => absurd e (hX q)) hN
theorem changes_su (h : Su w B g N s Kp) {l : List PE} (hl : s.ch = l) (hch : l.length ≤ 1000000000) :
    Calls Tryz.prog 24 #[.pointer (some ⟨g, 0, none⟩)] w fun e w' => ∃ v es, e = .returned v ∧ FrEv w' w.heap.size v es l ∧ Below w.heap.size w w' := by
  obtain ⟨⟨F, rfl, hs, hX, hK⟩, hz⟩ := h
  subst hl
  exact changes_calls B F N s w hs hch
theorem bytes_su (h : Su w B g N s Kp) {b : ByteArray} (hb : (⟨(bytesL s.l).toArray⟩ : ByteArray) = b) (hN : N ≤ 400000000) (hsz : (bytesL s.l).length ≤ 1000000000000) :
    Calls Tryz.prog 22 #[.pointer (some ⟨g, 0, none⟩)] w fun e w' => e = .returned (.string b) ∧ Below w.heap.size w w' := by
  obtain ⟨⟨F, rfl, hs, hX, hK⟩, hz⟩ := h
  subst hb
  exact bytes_calls B F N s w hs hN hsz
end
end Go.Proofs.YtgmnnpbbiejbnaaGreat.SpV
