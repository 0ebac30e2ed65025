/-
  The laws ChunkedFeeds and ChunkedEncodes, over heaps.
-/
import Derived.Test.YtjhcockaojlfiaaDoorChunkH
namespace Go.Proofs.YtjhcockaojlfiaaDoor
set_option linter.unusedSimpArgs false
set_option linter.unusedVariables false
set_option maxRecDepth 20000
open Go
open Go.IntKind (wrap)
def OwnX (h : Heap) (x : Addr) (d : Dec) : Prop := (d.st ≠ 6 → OwnR h x d) ∧ (d.st = 6 → ∃ a b c e, OwnV h x 6 a b c e)
theorem OwnX.st {h : Heap} {x : Addr} {d : Dec} (o : OwnX h x d) : ∃ a b c e, OwnV h x d.st a b c e := by
  by_cases e : d.st = 6
  · rw [e]; exact o.2 e
  · obtain ⟨a, b, c, f, g, _⟩ := o.1 e; exact ⟨a, b, c, f, g⟩
theorem OwnX.fr {S : Nat → Prop} {h h' : Heap} {x : Addr} {d : Dec} (o : OwnX h x d) (f : Fr S h h') (hn : ¬ S x.block) : OwnX h' x d :=
  ⟨fun e => (o.1 e).fr f hn, fun e => by obtain ⟨a, b, c, g, w⟩ := o.2 e; exact ⟨a, b, c, g, Own.fr w f hn⟩⟩
theorem OwnX.lt {h : Heap} {x : Addr} {d : Dec} (o : OwnX h x d) : x.block < h.size := by
  obtain ⟨_, _, _, _, v⟩ := o.st; exact v.lt
theorem rFeed_c [Gh] {h : Heap} {x : Addr} {d : Dec} (o : OwnX h x d) (fine : d.fine) (s : List UInt8) (lim : s.length ≤ 2 ^ 40) {Q : Value → Heap → Prop}
    (hk : ∀ h', Fr (fun b => b = x.block) h h' → OwnX h' x (feed d s).d → Q (feed d s).v h') : CallT Tryd.prog fn_ref27_Decoder_Feed #[.pointer (some x), .string (bs s)] h Q := by
  apply ref27_Decoder_Feed_s
  unfold ref27_Decoder_Feed_v
  obtain ⟨a, b, c, e, ov⟩ := o.st
  unfold feed at hk
  refine nn_mk (ldI_mk (ov.cells.at0 rfl) ?_)
  have h6 : d.st ≤ 6 := by
    rcases fine with h | h
    · omega
    · have := h.2.2.2.2.2; omega
  refine ifD (fun (h5 : (d.st : Int) ≥ 5) => ?_) fun (h5 : ¬ (d.st : Int) ≥ 5) => ?_
  · rw [if_pos (by omega)] at hk
    exact hk h (Fr.refl _ _) o
  · rw [if_neg (by omega)] at hk
    have ok : d.ok := by
      rcases fine with h | h
      · omega
      · exact h
    exact rfeedloop_c (o.1 (by omega)) ok (by omega) lim fun h' f r1 r2 => hk h' f ⟨r1, r2⟩
theorem rDone_c [Gh] {h : Heap} {x : Addr} {d : Dec} (o : OwnX h x d) {Q : Value → Heap → Prop} (hk : Q (.bool (d.st == 5)) h) : CallT Tryd.prog fn_ref27_Decoder_Done #[.pointer (some x)] h Q := by
  apply ref27_Decoder_Done_s
  unfold ref27_Decoder_Done_v
  obtain ⟨a, b, c, e, ov⟩ := o.st
  refine nn_mk (ldI_mk (ov.cells.at0 rfl) ?_)
  have e : ((d.st : Int) == 5) = (d.st == 5) := by rw [Bool.eq_iff_iff]; simp only [beq_iff_eq]; omega
  rw [e]; exact hk
theorem ChunkedEncodes_c [Gh] {h : Heap} (s : Sl (List UInt8)) (o : StrsOk h s) (t : TZ h) {Q : Value → Heap → Prop} (hk : ∀ h', Fr (fun _ => False) h h' → Q (.bool true) h') :
    CallT Tryd.prog fn_law27_ChunkedEncodes #[s.v] h Q := by
  apply law27_ChunkedEncodes_s
  unfold law27_ChunkedEncodes_v
  refine long_c o fun b hb => ⟨b, rfl, ?_⟩
  refine ifB (fun _ => lives_c t fun h' f => ⟨_, rfl, hk h' f⟩) fun e => ?_
  have sm := hb e
  refine Encode_c o sm t fun h1 f1 => ⟨_, rfl, ?_⟩
  refine rEncode_c (o.fr0 f1) sm ⟨_, rfl, ?_⟩
  rw [beq_self_eq_true, if_pos rfl]
  exact lives_c (t.fr f1 id) fun h' f => ⟨_, rfl, hk h' (f1.trans f)⟩
theorem ChunkedFeeds_c [Gh] {h : Heap} (s : Sl (List UInt8)) (o : StrsOk h s) (t : TZ h) {Q : Value → Heap → Prop} (hk : ∀ h', Fr (fun _ => False) h h' → Q (.bool true) h') :
    CallT Tryd.prog fn_law27_ChunkedFeeds #[s.v] h Q := by
  apply law27_ChunkedFeeds_s
  unfold law27_ChunkedFeeds_v
  refine New_c fun a h1 f1 e1 oa => ⟨_, rfl, ?_⟩
  refine al_mk (vs := rvals 0 0 0 false 0) fun x h2 f2 e2 ox => ?_
  have f12 := f1.trans f2
  have la := oa.lt
  have oa2 := oa.fr f2 id
  refine long_c (o.fr0 f12) fun b hb => ⟨b, rfl, ?_⟩
  refine ifB (fun _ => lives_c (t.fr f12 id) fun h' f => ⟨_, rfl, hk h' (f12.trans f)⟩) fun e => ?_
  have sm := hb e
  rw [if_neg (by simp)]
  have lx := ox.lt
  have z1 := f1.size
  refine LoopV.mk (fun i h' => ∃ (k : Nat) (d : Dec), i = (k : Int) ∧ k ≤ s.xs.length ∧ Fr (fun _ => False) h h' ∧ OwnD h' a d ∧ OwnX h' x d ∧ d.fine) (fun i _ => s.xs.length - i.toNat)
    ⟨0, Dec.new, rfl, by omega, f12, oa2, ⟨fun _ => ⟨0, 0, false, 0, ox, fun _ => rfl, fun _ => rfl, fun _ => ⟨rfl, rfl⟩⟩, fun e => by cases e⟩, .inr new_ok⟩ ?_
  rintro - h3 ⟨k, d, rfl, hkl, f3, oa3, ox3, fine⟩
  unfold law27_ChunkedFeeds_l1
  have hcap := sm.len
  refine ifD (fun hb => ?_) fun hb => ?_
  · have hk2 : k < s.xs.length := by omega
    have hE := sm.each k hk2
    refine idx_sl (o.fr0 f3) k rfl hk2 fun ad c2 _ => ?_
    rw [Int.toNat_natCast]
    refine ldS_mk (c2.at0 rfl) ?_
    refine Feed_c oa3 fine s.xs[k] (by omega) fun h4 f4 oa4 => ⟨_, _, _, _, rfl, ?_⟩
    have f04 : Fr (fun _ => False) h h4 := f3.tr f4 fun y hy hi => by omega
    refine idx_sl (o.fr0 f04) k rfl hk2 fun ad c2 _ => ?_
    refine ldS_mk (c2.at0 rfl) ?_
    have ox4 := ox3.fr f4 (by omega)
    refine rFeed_c ox4 fine s.xs[k] (by omega) fun h5 f5 ox5 => ⟨_, _, _, _, rfl, ?_⟩
    have f05 : Fr (fun _ => False) h h5 := f04.tr f5 fun y hy hi => by omega
    have oa5 := oa4.fr f5 (by omega)
    have fine' := feed_fine fine s.xs[k]
    generalize feed d s.xs[k] = r at *
    refine ifSn (fun h => absurd rfl h) fun _ => ?_
    refine ifSn (fun h => absurd rfl h) fun _ => ?_
    refine ifN (fun h => by simp at h) fun _ => ?_
    refine ifNe (fun h => absurd rfl h) fun _ => ?_
    refine Done_c oa5 ⟨_, rfl, ?_⟩
    refine rDone_c ox5 ⟨_, rfl, ?_⟩
    refine ifN (fun h => by simp at h) fun _ => ?_
    rw [wr (by omega) (by omega)]
    exact ⟨⟨k + 1, r.d, rfl, by omega, f05, oa5, ox5, fine'⟩, by omega⟩
  · unfold law27_ChunkedFeeds_b2
    exact lives_c (t.fr f3 id) fun h' f => ⟨_, rfl, hk h' (f3.trans f)⟩
end Go.Proofs.YtjhcockaojlfiaaDoor
