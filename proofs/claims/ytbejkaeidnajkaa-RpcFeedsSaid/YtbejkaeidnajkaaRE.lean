/- The plain side of chapter 26: every Feed of every row of chunks. No condition. -/
import Derived.Test.YtbejkaeidnajkaaRD
set_option linter.unusedVariables false
namespace Go.Proofs.Ytbejkaeidnajkaa.L
open Go.Proofs.Ytbejkaeidnajkaa.B Go.Proofs.Ytbejkaeidnajkaa.R
theorem whole_ok2 {b : List Int} (hb : b.length < 2 ^ 47) (r : List Int) : trellislaw26_whole ((b ++ marksL) ++ r) b true := by
 unfold trellislaw26_whole
 refine Rounds.cnt 64 (fun j hj => ?_) ?_
 ·unfold trellislaw26_whole_b1
  have e : ix ((b ++ marksL) ++ r) ((b.length : Int) + (j : Int)) = 150 + (j : Int) := by
   rw [show (b.length : Int) + (j : Int) = ((b.length + j : Nat) : Int) by omega, ix_nat (by rw [List.length_append, List.length_append, marks_len]; omega), List.getElem_append_left (by rw [List.length_append, marks_len]; omega), List.getElem_append_right (by omega)]
   simp [marksL]
  rw [if_pos (by omega), w64_id (x := (b.length : Int) + (j : Int)) (by omega), e, w64_nat (by omega)]
  exact ⟨by rw [List.length_append, List.length_append, marks_len]; omega, by rw [if_pos rfl]⟩
 ·unfold trellislaw26_whole_b1
  rw [if_neg (by omega), Int.toNat_natCast, List.append_assoc, List.take_left' rfl]
  exact ⟨by rw [List.length_append]; omega, _, sameBytes_ok (by omega) rfl, rfl⟩
theorem room_ok {cs : List (List Int)} (h1 : cs.length ≤ 2 ^ 50) (h : ∀ c ∈ cs, c.length ≤ 140737488351232) : ∃ L : Nat, trellislaw26_room cs (List.replicate L 0) ∧ (∀ c ∈ cs, c.length + 64 ≤ L) ∧ L ≤ 2 ^ 50 := by
 have key := Rounds.some (B := fun (s : Int × Int) o => trellislaw26_room_b1 cs s.1 s.2 o) (P := fun r => ∃ L : Nat, r = List.replicate L (0 : Int) ∧ (∀ c ∈ cs, c.length + 64 ≤ L) ∧ L ≤ 2 ^ 50)
  (fun s => ∃ i m : Nat, s = ((m : Int), (i : Int)) ∧ i ≤ cs.length ∧ m ≤ 140737488351232 ∧ ∀ c ∈ cs.take i, c.length ≤ m) (fun s => cs.length - s.2.toNat) (fun s hs => ?_) (s := (0, 0)) ⟨0, 0, rfl, Nat.zero_le _, by omega, by simp⟩
 ·obtain ⟨r, hr, L, rfl, hL⟩ := key
  exact ⟨L, hr, hL⟩
 ·obtain ⟨i, m, rfl, hi, hm, hc⟩ := hs
  by_cases g : i < cs.length
  ·right
   have hx := ix_nat g
   have hcl := h _ (List.getElem_mem g)
   have ht : ∀ c ∈ cs.take (i + 1), c ∈ cs.take i ∨ c = cs[i] := fun c hc => by
    rw [← take_snoc g, hx] at hc
    rcases List.mem_append.1 hc with hc | hc
    ·exact .inl hc
    ·exact .inr (List.mem_singleton.1 hc)
   by_cases g2 : cs[i].length > m
   ·refine ⟨((cs[i].length : Int), ((i + 1 : Nat) : Int)), ?_, ⟨i + 1, cs[i].length, rfl, by omega, hcl, fun c hc' => ?_⟩, by show cs.length - ((i + 1 : Nat) : Int).toNat < cs.length - ((i : Nat) : Int).toNat; omega⟩
    ·show trellislaw26_room_b1 cs (m : Int) (i : Int) _
     unfold trellislaw26_room_b1
     rw [if_pos (by omega), hx, if_pos (by omega), w64_nat (by omega)]
     exact ⟨by omega, rfl⟩
    ·rcases ht c hc' with h' | rfl
     ·have := hc c h'; omega
     ·exact Nat.le_refl _
   ·refine ⟨((m : Int), ((i + 1 : Nat) : Int)), ?_, ⟨i + 1, m, rfl, by omega, hm, fun c hc' => ?_⟩, by show cs.length - ((i + 1 : Nat) : Int).toNat < cs.length - ((i : Nat) : Int).toNat; omega⟩
    ·show trellislaw26_room_b1 cs (m : Int) (i : Int) _
     unfold trellislaw26_room_b1
     rw [if_pos (by omega), hx, if_neg (by omega), w64_nat (by omega)]
     exact ⟨by omega, rfl⟩
    ·rcases ht c hc' with h' | rfl
     ·exact hc c h'
     ·omega
  ·left
   have : i = cs.length := by omega
   subst this
   refine ⟨List.replicate (m + 64) 0, ?_, m + 64, rfl, fun c hc' => (by rw [List.take_length] at hc; have := hc c hc'; omega), by omega⟩
   show trellislaw26_room_b1 cs (m : Int) (cs.length : Int) _
   unfold trellislaw26_room_b1
   rw [if_neg (by omega), w64_id (by omega)]
   exact ⟨by omega, _, rfl, by rw [show ((m : Int) + 64).toNat = m + 64 by omega]⟩
abbrev FS := (List Int) × (List (List ByteArray)) × (List (List ByteArray)) × Int × (List Int) × Int × (List Int) × Int
structure FInv (cs : List (List Int)) (L : Nat) (s : FS) (i : Nat) (p : List Int × Int) (kept : List (List ByteArray)) : Prop where
 e : ∃ full : List Int, full.length = L ∧ s = (full, kept, kept, (i : Int), p.1, p.2, p.1, p.2)
 hi : i ≤ cs.length
 hk : kept.length = i
 hs : ∀ l ∈ kept, l.length < 2 ^ 60
 ok : FOk p
theorem b6_ok {kept : List (List ByteArray)} (hk : kept.length ≤ 2 ^ 50) (hs : ∀ l ∈ kept, l.length < 2 ^ 60) (full : List Int) (i : Nat) (hi : i ≤ 2 ^ 50) (p : List Int × Int) : Rounds (fun (s : Int) o => trellislaw26_RpcFeeds_b6 kept kept full (i : Int) p.1 p.2 p.1 p.2 s o) 0 (.inr (.inr (.inl (full, kept, kept, ((i + 1 : Nat) : Int), p.1, p.2, p.1, p.2)))) := by
 refine Rounds.cnt kept.length (fun j hj => ?_) ?_
 ·unfold trellislaw26_RpcFeeds_b6
  rw [if_pos (by omega), w64_nat (by omega), ix_nat hj]
  exact ⟨by omega, by omega, true, sameTexts_ok (hs _ (List.getElem_mem hj)) rfl, by rw [if_pos rfl]⟩
 ·unfold trellislaw26_RpcFeeds_b6
  rw [if_neg (by omega), w64_nat (by omega)]
  rfl
theorem b5_ok {kept : List (List ByteArray)} (hk : kept.length ≤ 5864062014635) (hs : ∀ l ∈ kept, l.length < 2 ^ 60) {L : Nat} (hL : L ≤ 2 ^ 50) (i : Nat) (hi : i ≤ 2 ^ 50) (p : List Int × Int) (l : List ByteArray) (hl : l.length < 2 ^ 60) (r1 : (List ByteArray) × Int × rpc_Buffer) (r2 : (List ByteArray) × Int × trellisref26_Model) (e1 : r1.1 = l) (e2 : r2.1 = l) {full : List Int} (hf : full.length = L) : ∃ full' : List Int, full'.length = L ∧ Rounds (fun (s : (List Int) × Int) o => trellislaw26_RpcFeeds_b5 kept r1 kept r2 (i : Int) p.1 p.2 p.1 p.2 s.1 s.2 o) (full, 0) (.inr (.inl (full', kept ++ [l], kept ++ [l], ((i + 1 : Nat) : Int), p.1, p.2, p.1, p.2))) := by
 have key := Rounds.some (B := fun (s : (List Int) × Int) o => trellislaw26_RpcFeeds_b5 kept r1 kept r2 (i : Int) p.1 p.2 p.1 p.2 s.1 s.2 o) (P := fun r => ∃ full' : List Int, full'.length = L ∧ r = .inr (.inl (full', kept ++ [l], kept ++ [l], ((i + 1 : Nat) : Int), p.1, p.2, p.1, p.2)))
  (fun s => s.1.length = L ∧ ∃ j : Nat, s.2 = (j : Int) ∧ j ≤ L) (fun s => L - s.2.toNat) (fun s h => ?_) (s := (full, 0)) ⟨hf, 0, rfl, Nat.zero_le _⟩
 ·obtain ⟨r, hr, f', h1, rfl⟩ := key
  exact ⟨f', h1, hr⟩
 ·obtain ⟨f, q⟩ := s
  obtain ⟨h1, j, h2, h3⟩ := h
  dsimp only at h1 h2
  subst h2
  by_cases g : j < L
  ·right
   refine ⟨(f.set j 7, ((j + 1 : Nat) : Int)), ?_, ⟨by show (f.set j 7).length = L; rw [List.length_set, h1], j + 1, rfl, by omega⟩, by show L - ((j + 1 : Nat) : Int).toNat < L - ((j : Nat) : Int).toNat; omega⟩
   show trellislaw26_RpcFeeds_b5 _ _ _ _ _ _ _ _ _ f (j : Int) _
   unfold trellislaw26_RpcFeeds_b5
   rw [if_pos (by omega), w64_nat (by omega)]
   exact ⟨by omega, _, rfl, rfl⟩
  ·left
   refine ⟨_, ?_, f, h1, rfl⟩
   show trellislaw26_RpcFeeds_b5 _ _ _ _ _ _ _ _ _ f (j : Int) _
   unfold trellislaw26_RpcFeeds_b5
   rw [if_neg (by omega), e1, e2]
   have hlen : (kept ++ [l]).length = kept.length + 1 := by simp
   refine ⟨_, rfl, by rw [hlen]; omega, _, rfl, by rw [hlen]; omega, ?_⟩
   exact b6_ok (by rw [hlen]; omega) (fun y hy => by
    rcases List.mem_append.1 hy with hy | hy
    ·exact hs y hy
    ·rw [List.mem_singleton.1 hy]; exact hl) f i hi p
theorem b3_ok {cs : List (List Int)} {i : Nat} (hi : i < cs.length) (hn : cs.length ≤ 5864062014635) (hC : Bts cs[i]) (hcl : cs[i].length ≤ 140737488351232) {L : Nat} (hcL : cs[i].length + 64 ≤ L) (hL : L ≤ 2 ^ 50) {kept : List (List ByteArray)} (hk : kept.length = i) (hs : ∀ l ∈ kept, l.length < 2 ^ 60) {p : List Int × Int} (hp : FOk p) {full : List Int} (hf : full.length = L) : ∃ (full' : List Int), full'.length = L ∧ Rounds (fun (s : (List Int) × Int) o => trellislaw26_RpcFeeds_b3 (cs[i] ++ marksL) p.1 p.2 cs (i : Int) p.1 p.2 kept kept s.1 s.2 o) (full, 0) (.inl (full', kept ++ [(feedF p cs[i]).1], kept ++ [(feedF p cs[i]).1], ((i + 1 : Nat) : Int), (feedF p cs[i]).2.1, (feedF p cs[i]).2.2, (feedF p cs[i]).2.1, (feedF p cs[i]).2.2)) := by
 have hnl : (cs[i] ++ marksL).length = cs[i].length + 64 := by rw [List.length_append, marks_len]
 have hpl := hp.l
 obtain ⟨ok2, sz2⟩ := feedF_ok hp hC
 have hl60 : (feedF p cs[i]).1.length < 2 ^ 60 := by omega
 have hfl : ((cs[i] ++ marksL) ++ full.drop (cs[i] ++ marksL).length).length = L := by rw [List.length_append, List.length_drop, hnl, hf]; omega
 obtain ⟨f2, g1, g2⟩ := b5_ok (kept := kept) (by omega) hs hL i (by omega) (feedF p cs[i]).2 (feedF p cs[i]).1 hl60 ((feedF p cs[i]).1, (feedF p cs[i]).2.2, ⟨(feedF p cs[i]).2.1, (feedF p cs[i]).2.2⟩) ((feedF p cs[i]).1, (feedF p cs[i]).2.2, ⟨(feedF p cs[i]).2.1, (feedF p cs[i]).2.2⟩) rfl rfl hfl
 refine ⟨f2, g1, ?_⟩
 have := Rounds.upto (B := fun (s : (List Int) × Int) o => trellislaw26_RpcFeeds_b3 (cs[i] ++ marksL) p.1 p.2 cs (i : Int) p.1 p.2 kept kept s.1 s.2 o) (r := (.inl (f2, kept ++ [(feedF p cs[i]).1], kept ++ [(feedF p cs[i]).1], ((i + 1 : Nat) : Int), (feedF p cs[i]).2.1, (feedF p cs[i]).2.2, (feedF p cs[i]).2.1, (feedF p cs[i]).2.2) : Sum FS Bool)) (fun j => ((cs[i] ++ marksL).take j ++ full.drop j, (j : Int))) (cs[i] ++ marksL).length (fun j hj => by
  show trellislaw26_RpcFeeds_b3 _ _ _ _ _ _ _ _ _ _ (j : Int) _
  unfold trellislaw26_RpcFeeds_b3
  have hlt : j < full.length := by omega
  rw [if_pos (by omega), w64_nat (by omega)]
  refine ⟨by omega, by rw [List.length_append, List.length_take, List.length_drop]; omega, _, rfl, ?_⟩
  rw [Int.toNat_natCast, List.drop_eq_getElem_cons hlt, List.set_append_right _ _ (by rw [List.length_take]; omega), show j - ((cs[i] ++ marksL).take j).length = 0 by rw [List.length_take]; omega, List.set_cons_zero, ← take_snoc hj, List.append_assoc]
  rfl) (by
  show trellislaw26_RpcFeeds_b3 _ _ _ _ _ _ _ _ _ _ ((cs[i] ++ marksL).length : Int) _
  unfold trellislaw26_RpcFeeds_b3
  rw [if_neg (by omega), List.take_length, ix_nat hi]
  dsimp only
  refine ⟨_, rfeed hp hC (by omega), ⟨by omega, by omega, by omega⟩, cs[i], ?_, _, pfeed hp hC (by omega), true, sameTexts_ok hl60 rfl, ?_⟩
  ·rw [Int.toNat_natCast, List.append_assoc, List.take_left' rfl]
  ·rw [if_pos rfl, if_pos rfl]
   refine ⟨_, rfl, _, rfl, ?_⟩
   rw [if_pos rfl]
   refine ⟨true, whole_ok2 (by omega) _, ?_⟩
   unfold trellislaw26_RpcFeeds_j4
   rw [if_neg (by simp)]
   exact g2)
 simpa using this
theorem b7_ok {p : List Int × Int} (hp : FOk p) {kept : List (List ByteArray)} (hk : kept.length ≤ 2 ^ 50) (hs : ∀ l ∈ kept, l.length < 2 ^ 60) : Rounds (fun (s : (List (List ByteArray)) × Int) o => trellislaw26_RpcFeeds_b7 p.1 p.2 p.1 p.2 s.1 s.2 o) (kept, 0) ((.inr true) : Sum FS Bool) := by
 obtain ⟨ok2, sz2⟩ := feedF_ok hp (c := []) (fun x hx => by cases hx)
 have hpl := hp.l
 have hnil : Bts ([] : List Int) := fun x hx => by cases hx
 refine Rounds.to (fun s : (List (List ByteArray)) × Int => s.1.length = kept.length ∧ (∀ l ∈ s.1, l.length < 2 ^ 60) ∧ ∃ i : Nat, s.2 = (i : Int) ∧ i ≤ kept.length) (fun s => kept.length - s.2.toNat) (fun s h => ?_) ⟨rfl, hs, 0, rfl, Nat.zero_le _⟩
 obtain ⟨K, q⟩ := s
 obtain ⟨h1, h2, i, h3, h4⟩ := h
 dsimp only at h1 h2 h3
 subst h3
 by_cases g : i < kept.length
 ·right
  have gK : i < K.length := by omega
  have inner := Rounds.some (B := fun (s : (List (List ByteArray)) × Int) o => trellislaw26_RpcFeeds_b8 (i : Int) s.1 s.2 o) (P := fun r => ∃ K' : List (List ByteArray), K'.length = kept.length ∧ (∀ l ∈ K', l.length < 2 ^ 60) ∧ r = .inl (K', ((i + 1 : Nat) : Int)))
   (fun s => s.1.length = kept.length ∧ (∀ l ∈ s.1, l.length < 2 ^ 60) ∧ (∀ h : i < s.1.length, s.1[i].length = K[i].length) ∧ ∃ j : Nat, s.2 = (j : Int) ∧ j ≤ K[i].length) (fun s => K[i].length - s.2.toNat) (fun s h => ?_) (s := (K, 0)) ⟨h1, h2, fun _ => rfl, 0, rfl, Nat.zero_le _⟩
  ·obtain ⟨r, hr, K', k1, k2, rfl⟩ := inner
   refine ⟨(K', ((i + 1 : Nat) : Int)), ?_, ⟨k1, k2, i + 1, rfl, by omega⟩, by show kept.length - ((i + 1 : Nat) : Int).toNat < kept.length - ((i : Nat) : Int).toNat; omega⟩
   show trellislaw26_RpcFeeds_b7 _ _ _ _ K (i : Int) _
   unfold trellislaw26_RpcFeeds_b7
   rw [if_pos (by omega)]
   exact hr
  ·obtain ⟨J, q⟩ := s
   obtain ⟨j1, j2, j3, j, j4, j5⟩ := h
   dsimp only at j1 j2 j3 j4
   subst j4
   have gJ : i < J.length := by omega
   have hJ := j3 gJ
   have hix := ix_nat gJ
   have h60 := h2 _ (List.getElem_mem gK)
   by_cases g2 : j < K[i].length
   ·right
    refine ⟨(J.set i (J[i].set j ⟨#[115, 112, 111, 105, 108, 116]⟩), ((j + 1 : Nat) : Int)), ?_, ⟨by show (J.set i _).length = _; rw [List.length_set, j1], fun l hl => ?_, fun h => ?_, j + 1, rfl, by omega⟩, by show K[i].length - ((j + 1 : Nat) : Int).toNat < K[i].length - ((j : Nat) : Int).toNat; omega⟩
    ·show trellislaw26_RpcFeeds_b8 (i : Int) J (j : Int) _
     unfold trellislaw26_RpcFeeds_b8
     rw [hix]
     refine ⟨by omega, ?_⟩
     rw [if_pos (by omega), w64_nat (by omega)]
     exact ⟨by omega, _, rfl, _, rfl, rfl⟩
    ·rcases List.mem_or_eq_of_mem_set hl with hl | rfl
     ·exact j2 l hl
     ·rw [List.length_set]; exact j2 _ (List.getElem_mem gJ)
    ·show ((J.set i _)[i]'_).length = _
     rw [List.getElem_set_self, List.length_set, hJ]
   ·left
    refine ⟨_, ?_, J, j1, j2, rfl⟩
    show trellislaw26_RpcFeeds_b8 (i : Int) J (j : Int) _
    unfold trellislaw26_RpcFeeds_b8
    rw [hix]
    refine ⟨by omega, ?_⟩
    rw [if_neg (by omega), w64_nat (by omega)]
    rfl
 ·left
  show trellislaw26_RpcFeeds_b7 _ _ _ _ K (i : Int) _
  unfold trellislaw26_RpcFeeds_b7
  rw [if_neg (by omega)]
  refine ⟨_, pfeed hp hnil (Nat.zero_le _), _, rfeed hp hnil (Nat.zero_le _), true, sameTexts_ok (a := (feedF p []).1) (by rw [List.length_nil] at sz2; omega) rfl, ?_⟩
  rw [if_pos rfl, if_pos rfl]
  refine ⟨_, rfl, _, rfl, ?_⟩
  rw [beq_self_eq_true]
theorem feeds_law {cs : List (List Int)} (hn : cs.length ≤ 5864062014635) (hB : ∀ c ∈ cs, Bts c) (hl : ∀ c ∈ cs, c.length ≤ 140737488351232) : trellislaw26_RpcFeeds cs true := by
 refine ⟨⟨[], 0⟩, rfl, (0, ⟨[], 0⟩), rfl, ?_⟩
 rw [if_pos rfl]
 refine ⟨true, apart_ok, ?_⟩
 unfold trellislaw26_RpcFeeds_j1
 rw [if_neg (by simp)]
 obtain ⟨L0, hr, hL0, hL⟩ := room_ok (by omega) hl
 refine ⟨_, hr, _, rfl, ?_⟩
 refine Rounds.to (fun s : FS => ∃ i p kept, FInv cs L0 s i p kept) (fun s => cs.length - s.2.2.2.1.toNat) (fun s h => ?_) ⟨0, ([], 0), [], ⟨_, List.length_replicate, rfl⟩, Nat.zero_le _, rfl, by simp, ⟨fun x hx => (by cases hx), by simp, fun h => rfl⟩⟩
 obtain ⟨i, p, kept, ⟨full, hf, rfl⟩, hi, hk, hs, ok⟩ := h
 by_cases g : i < cs.length
 ·right
  have hC := hB _ (List.getElem_mem g)
  have hcl := hl _ (List.getElem_mem g)
  obtain ⟨f2, f3, f4⟩ := b3_ok g hn hC hcl (hL0 _ (List.getElem_mem g)) hL hk hs ok hf
  obtain ⟨ok2, sz2⟩ := feedF_ok ok hC
  have hpl := ok.l
  refine ⟨_, ?_, ⟨i + 1, (feedF p cs[i]).2, kept ++ [(feedF p cs[i]).1], ⟨f2, f3, rfl⟩, by omega, by simp [hk], fun y hy => ?_, ok2⟩, by show cs.length - ((i + 1 : Nat) : Int).toNat < cs.length - ((i : Nat) : Int).toNat; omega⟩
  ·show trellislaw26_RpcFeeds_b2 cs full kept kept (i : Int) p.1 p.2 p.1 p.2 _
   unfold trellislaw26_RpcFeeds_b2
   rw [if_pos (by omega), ix_nat g]
   exact ⟨by omega, _, marked_ok (by omega), f4⟩
  ·rcases List.mem_append.1 hy with hy | hy
   ·exact hs y hy
   ·rw [List.mem_singleton.1 hy]; omega
 ·left
  show trellislaw26_RpcFeeds_b2 cs full kept kept (i : Int) p.1 p.2 p.1 p.2 _
  unfold trellislaw26_RpcFeeds_b2
  rw [if_neg (by omega)]
  exact b7_ok ok (by omega) hs
end Go.Proofs.Ytbejkaeidnajkaa.L
