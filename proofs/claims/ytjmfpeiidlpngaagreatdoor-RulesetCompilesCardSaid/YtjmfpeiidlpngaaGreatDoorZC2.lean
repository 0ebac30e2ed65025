/-
  Part 2 of 5 of the proofs: the texts of wip/ in one file, without what this claim does not use.
-/
import Derived.Test.YtjmfpeiidlpngaaGreatDoorZC1
namespace Go.Proofs.YtjmfpeiidlpngaaGreatDoor
set_option linter.unusedSimpArgs false
set_option linter.unusedVariables false
set_option maxRecDepth 20000
open Go IntKind
abbrev lO : FuncId := 4
abbrev qe : FuncId := 7
abbrev gF : FuncId := 8
abbrev jU : FuncId := 9
abbrev nL : FuncId := 10
abbrev je : FuncId := 11
abbrev gB : FuncId := 13
abbrev kS : FuncId := 15
abbrev eO : FuncId := 17
abbrev om : FuncId := 18
abbrev iK : FuncId := 20
abbrev lF : FuncId := 21
abbrev iB : FuncId := 22
abbrev nZ : FuncId := 27
abbrev pF : FuncId := 28
abbrev mR : FuncId := 29
abbrev kw : FuncId := 30
abbrev iG : FuncId := 31
abbrev jW : FuncId := 32
abbrev rX : FuncId := 33
abbrev sb : FuncId := 34
abbrev dY : FuncId := 35
abbrev r4 : FuncId := 36
abbrev iU : FuncId := 37
abbrev fY : FuncId := 38
abbrev r3 : FuncId := 39
abbrev iE : FuncId := 40
abbrev sD : FuncId := 41
abbrev sr : FuncId := 42
abbrev A7 : FuncId := 44
abbrev gQ : FuncId := 45
abbrev oO : FuncId := 46
abbrev kP : FuncId := 47
abbrev ii : FuncId := 48
abbrev iM : FuncId := 49
abbrev cR : FuncId := 50
abbrev wQ : FuncId := 51
abbrev wN : FuncId := 52
abbrev ma : FuncId := 54
abbrev pI : FuncId := 55
abbrev qp : FuncId := 56
abbrev pL : FuncId := 57
abbrev jV : FuncId := 58
abbrev jO : FuncId := 59
abbrev l6 : FuncId := 60
abbrev mZ : FuncId := 61
abbrev pQ : FuncId := 62
abbrev nX : FuncId := 63
abbrev kD : FuncId := 64
abbrev qM : FuncId := 65
abbrev qX : FuncId := 66
abbrev bX : FuncId := 67
abbrev bW : FuncId := 68
abbrev cP : FuncId := 69
abbrev eu : FuncId := 70
abbrev cY : FuncId := 71
abbrev cH : FuncId := 72
abbrev cM : FuncId := 73
abbrev fQ : FuncId := 74
abbrev ju : FuncId := 75
abbrev jE : FuncId := 76
abbrev jS : FuncId := 77
abbrev eZ : FuncId := 78
abbrev jB : FuncId := 79
abbrev bZ : FuncId := 80
abbrev iA : FuncId := 81
abbrev hU : FuncId := 82
abbrev fW : FuncId := 83
abbrev ij : FuncId := 87
abbrev gZ : FuncId := 88
abbrev jt : FuncId := 89
abbrev jd : FuncId := 90
abbrev wL : FuncId := 94
abbrev Cr : FuncId := 95
abbrev th : FuncId := 100
abbrev jZ : FuncId := 101
abbrev gR : FuncId := 102
abbrev mI : FuncId := 103
abbrev mi : FuncId := 104
abbrev kL : FuncId := 105
abbrev kh : FuncId := 106
abbrev lv : FuncId := 107
abbrev kX : FuncId := 108
abbrev jQ : FuncId := 109
abbrev m9 : FuncId := 110
abbrev lB : FuncId := 111
abbrev jD : FuncId := 119
abbrev cJ : FuncId := 120
abbrev nH : FuncId := 121
abbrev oQ : FuncId := 122
abbrev iD : FuncId := 123
abbrev cN : FuncId := 124
abbrev mF : FuncId := 125
abbrev mp : FuncId := 143
abbrev mo : FuncId := 144
abbrev ly : FuncId := 145
abbrev lS : FuncId := 146
abbrev mD : FuncId := 147
abbrev nk : FuncId := 148
abbrev m5 : FuncId := 149
abbrev lU : FuncId := 150
abbrev oM : FuncId := 151
abbrev rb : FuncId := 152
abbrev pN : FuncId := 153
abbrev mY : FuncId := 154
abbrev qN : FuncId := 155
abbrev iP : FuncId := 156
abbrev gE : FuncId := 157
abbrev fV : FuncId := 160
abbrev gL : FuncId := 161
abbrev iz : FuncId := 174
abbrev jf : FuncId := 175
abbrev nW : FuncId := 176
abbrev kG : FuncId := 177
abbrev lT : FuncId := 178
abbrev pZ : FuncId := 179
abbrev sy : FuncId := 180
abbrev ko : FuncId := 181
abbrev iH : FuncId := 184
abbrev uQ : FuncId := 185
abbrev ei : FuncId := 186
abbrev ry : FuncId := 187
abbrev fL : FuncId := 188
abbrev qu : FuncId := 189
abbrev iq : FuncId := 190
abbrev T_t : TypeId := 0
abbrev qd : TypeId := 3
abbrev C4 : TypeId := 4
abbrev od : TypeId := 5
abbrev dO : TypeId := 9
abbrev mJ : TypeId := 22
abbrev cT : TypeId := 25
abbrev qj : TypeId := 27
abbrev kU : TypeId := 28
abbrev rA : TypeId := 40
abbrev bK : TypeId := 46
abbrev vE : TypeId := 51
abbrev kA : TypeId := 53
abbrev kC : TypeId := 54
abbrev li : TypeId := 55
abbrev ov : TypeId := 56
abbrev lV : TypeId := 57
abbrev sO : TypeId := 59
abbrev cO : TypeId := 61
abbrev mK : TypeId := 62
abbrev oe : TypeId := 63
abbrev bU : TypeId := 65
abbrev bJ : TypeId := 76
abbrev oo : TypeId := 78
abbrev tL : TypeId := 79
abbrev oh : TypeId := 80
abbrev mO : TypeId := 82
abbrev dZ : TypeId := 84
abbrev qG : TypeId := 85
abbrev mw : TypeId := 87
abbrev aX : TypeId := 91
abbrev eJ : TypeId := 92
abbrev j7 : TypeId := 94
abbrev tN : TypeId := 96
abbrev dQ : TypeId := 97
abbrev aQ : TypeId := 98
abbrev iy : TypeId := 100
abbrev fK : TypeId := 101
abbrev rq : TypeId := 102
abbrev jA : TypeId := 104
abbrev tD : TypeId := 105
abbrev jM : TypeId := 108
abbrev jn : TypeId := 133
abbrev wn : TypeId := 137
abbrev pH : TypeId := 139
abbrev mP : TypeId := 142
abbrev sw : TypeId := 146
abbrev sE : TypeId := 149
abbrev ml : TypeId := 152
abbrev pR : TypeId := 155
abbrev bC : TypeId := 160
abbrev cB : TypeId := 165
abbrev kb : TypeId := 168
abbrev yg : TypeId := 170
abbrev fN : TypeId := 172
abbrev wJ : TypeId := 174
abbrev wz : TypeId := 194
abbrev qz : TypeId := 204
abbrev kJ : TypeId := 205
abbrev pJ : TypeId := 247
abbrev Ff : TypeId := 248
abbrev wq : TypeId := 254
theorem follows : Tryz.prog.follows .mixedOrders = true := by kernel_rfl
variable [Gh]
def cC (d : Option Addr) (f x : Nat) (a : Int) (c : Addr) (g : Bool) (Q : QT) (h : aA) : Prop :=
 if (!g) = true then (ldI h (c.add 7) .i64 fun r => if (r == 0) = true then (aD Tryz.prog gF #[] h fun v h10 => ∃ b, v = .bool b ∧ Q (.bool b) h10) else (if g = true then (ldI h (c.add 7) .i64 fun i => bQ a f (nn d fun j => ldI h ((j.add (a.toNat * 25)).add 7) .i64 fun k => if (i == k) = true then (ldS h (c.add 10) fun l => bQ a f (nn d fun m => ldS h ((m.add (a.toNat * 25)).add 10) fun n => if (l.toList == n.toList) = true then (ldL h (c.add 21) fun s o t => bQ a f (nn d fun p => ldL h ((p.add (a.toNat * 25)).add 21) fun u q w => if (((o : Nat) : Int) == ((q : Nat) : Int)) = true then (aD Tryz.prog gF #[] h fun v h11 => ∃ b, v = .bool b ∧ Q (.bool b) h11) else (Q (.bool false) h))) else (Q (.bool false) h))) else (Q (.bool false) h))) else (Q (.bool false) h))) else (if g = true then (ldI h (c.add 7) .i64 fun i => bQ a f (nn d fun j => ldI h ((j.add (a.toNat * 25)).add 7) .i64 fun k => if (i == k) = true then (ldS h (c.add 10) fun l => bQ a f (nn d fun m => ldS h ((m.add (a.toNat * 25)).add 10) fun n => if (l.toList == n.toList) = true then (ldL h (c.add 21) fun s o t => bQ a f (nn d fun p => ldL h ((p.add (a.toNat * 25)).add 21) fun u q w => if (((o : Nat) : Int) == ((q : Nat) : Int)) = true then (aD Tryz.prog gF #[] h fun v h12 => ∃ b, v = .bool b ∧ Q (.bool b) h12) else (Q (.bool false) h))) else (Q (.bool false) h))) else (Q (.bool false) h))) else (Q (.bool false) h))
def mj (b : Option Addr) (a c : Nat) (d : Int) (Q : QT) (h : aA) : Prop :=
 aD Tryz.prog qe #[.slice b a c] h fun v h1 => ∃ k, v = .bool k ∧ if (!k) = true then (aD Tryz.prog gF #[] h1 fun v h2 => ∃ l, v = .bool l ∧ Q (.bool l) h2) else (aD Tryz.prog jU #[.slice b a c] h1 fun v h3 => ∃ f m, v = .tuple #[.pointer f, .int .i64 m] ∧ aD Tryz.prog nL #[.slice b a c] h3 fun v h4 => ∃ aj i, v = .tuple #[.pointer aj, .int .i64 i] ∧ if (m != i) = true then (Q (.bool false) h4) else (if (!((Option.isNone f) == (i != 0))) = true then (Q (.bool false) h4) else (if (Option.isNone f) = true then (aD Tryz.prog gF #[] h4 fun v h5 => ∃ n, v = .bool n ∧ Q (.bool n) h5) else (aD Tryz.prog lF #[.pointer f, .int .i64 d] h4 fun v h6 => ∃ o p q r s t u w x y z A B C D G I J L M N O P R S U V W X Y Z a0 a1 a2 a3 a4 a5 a6 a7 a8 a9 aa ab ac ad ae af ag ah g, v = .tuple #[.agg #[.int .i64 o, .int .i64 p, .slice q r s, .slice t u w, .slice x y z, .slice A B C, .bool D, .int .i64 G, .int .i64 I, .int .i64 J, .string L, .int .i64 M, .int .i64 N, .slice O P R, .slice S U V, .slice W X Y, .slice Z a0 a1, .int .i64 a2, .int .i64 a3, .int .i64 a4, .int .i64 a5, .slice a6 a7 a8, .slice a9 aa ab, .slice ac ad ae, .slice af ag ah], .bool g] ∧ alV h6 (.cells #[.int .i64 0, .int .i64 0, .slice none 0 0, .slice none 0 0, .slice none 0 0, .slice none 0 0, .bool false, .int .i64 0, .int .i64 0, .int .i64 0, .string (⟨#[]⟩ : ByteArray), .int .i64 0, .int .i64 0, .slice none 0 0, .slice none 0 0, .slice none 0 0, .slice none 0 0, .int .i64 0, .int .i64 0, .int .i64 0, .int .i64 0, .slice none 0 0, .slice none 0 0, .slice none 0 0, .slice none 0 0] bU) fun j h7 => stN h7 j [.int .i64 o, .int .i64 p, .slice q r s, .slice t u w, .slice x y z, .slice A B C, .bool D, .int .i64 G, .int .i64 I, .int .i64 J, .string L, .int .i64 M, .int .i64 N, .slice O P R, .slice S U V, .slice W X Y, .slice Z a0 a1, .int .i64 a2, .int .i64 a3, .int .i64 a4, .int .i64 a5, .slice a6 a7 a8, .slice a9 aa ab, .slice ac ad ae, .slice af ag ah] 0 fun h8 => aD Tryz.prog iB #[.pointer f] h8 fun v h9 => ∃ ai, v = .int .i64 ai ∧ if (ai != ((a : Nat) : Int)) = true then (Q (.bool false) h9) else (if (decide (d ≥ 0)) = true then (if (!(g == (decide (d < ((a : Nat) : Int))))) = true then (Q (.bool false) h9) else (cC b a c d j g Q h9)) else (if (!(g == false)) = true then (Q (.bool false) h9) else (cC b a c d j g Q h9)))))))
set_option maxRecDepth 100000 in
theorem rk (a b c d : _) {Q : QT} {h : aA} (hk : mj a b c d Q h) : aD Tryz.prog lO #[.slice a b c, .int .i64 d] h Q :=
 aU follows Tryz.func4 (Tryz.call4 _) rfl rfl [(26, fun e h => dL (e 0) fun a b c => dI .i64 (e 1) fun d => dA (e 9) fun f => dB (e 10) fun g => cC a b c d f g Q h)] []
 ⟨fun e h _ hk => by
 have F := Ag.nil (e := e)
 have ⟨a, b, c, F, hk⟩ := eL F hk
 have ⟨d, F, hk⟩ := eI F hk
 have ⟨f, F, hk⟩ := eA F hk
 have ⟨g, F, hk⟩ := eB F hk
 exact jj F (by as_aux_lemma => kernel_rfl) hk, trivial⟩
 trivial (by as_aux_lemma => kernel_rfl) hk
def p8 (g : Option Addr) (d bk : Nat) (Q : QT) (a : Int) (h : aA) (Kn1 : Int → aA → Prop) : Prop :=
 if (decide (a < ((d : Nat) : Int))) = true then (bQ a d (nn g fun c => ldI h (c.add (a.toNat * 25)) .i64 fun i => ldI h ((c.add (a.toNat * 25)).add 1) .i64 fun j => ldL h ((c.add (a.toNat * 25)).add 2) fun k l m => ldL h ((c.add (a.toNat * 25)).add 3) fun n o p => ldL h ((c.add (a.toNat * 25)).add 4) fun q r s => ldL h ((c.add (a.toNat * 25)).add 5) fun t u w => ldB h ((c.add (a.toNat * 25)).add 6) fun x => ldI h ((c.add (a.toNat * 25)).add 7) .i64 fun y => ldI h ((c.add (a.toNat * 25)).add 8) .i64 fun z => ldI h ((c.add (a.toNat * 25)).add 9) .i64 fun A => ldS h ((c.add (a.toNat * 25)).add 10) fun B => ldI h ((c.add (a.toNat * 25)).add 11) .i64 fun C => ldI h ((c.add (a.toNat * 25)).add 12) .i64 fun D => ldL h ((c.add (a.toNat * 25)).add 13) fun G I J => ldL h ((c.add (a.toNat * 25)).add 14) fun L M N => ldL h ((c.add (a.toNat * 25)).add 15) fun O P R => ldL h ((c.add (a.toNat * 25)).add 16) fun S U V => ldI h ((c.add (a.toNat * 25)).add 17) .i64 fun W => ldI h ((c.add (a.toNat * 25)).add 18) .i64 fun X => ldI h ((c.add (a.toNat * 25)).add 19) .i64 fun Y => ldI h ((c.add (a.toNat * 25)).add 20) .i64 fun Z => ldL h ((c.add (a.toNat * 25)).add 21) fun a0 a1 a2 => ldL h ((c.add (a.toNat * 25)).add 22) fun a3 a4 a5 => ldL h ((c.add (a.toNat * 25)).add 23) fun a6 a7 a8 => ldL h ((c.add (a.toNat * 25)).add 24) fun a9 aa ab => alV h (.cells #[.int .i64 0, .int .i64 0, .slice none 0 0, .slice none 0 0, .slice none 0 0, .slice none 0 0, .bool false, .int .i64 0, .int .i64 0, .int .i64 0, .string (⟨#[]⟩ : ByteArray), .int .i64 0, .int .i64 0, .slice none 0 0, .slice none 0 0, .slice none 0 0, .slice none 0 0, .int .i64 0, .int .i64 0, .int .i64 0, .int .i64 0, .slice none 0 0, .slice none 0 0, .slice none 0 0, .slice none 0 0] bU) fun b h1 => stN h1 b [.int .i64 i, .int .i64 j, .slice k l m, .slice n o p, .slice q r s, .slice t u w, .bool x, .int .i64 y, .int .i64 z, .int .i64 A, .string B, .int .i64 C, .int .i64 D, .slice G I J, .slice L M N, .slice O P R, .slice S U V, .int .i64 W, .int .i64 X, .int .i64 Y, .int .i64 Z, .slice a0 a1 a2, .slice a3 a4 a5, .slice a6 a7 a8, .slice a9 aa ab] 0 fun h2 => ldL h2 (b.add 21) fun bl ac bm => if (decide (((ac : Nat) : Int) > 6)) = true then (Q (.bool false) h2) else (ldL h2 (b.add 22) fun bn ad bo => if (decide (((ad : Nat) : Int) > 6)) = true then (Q (.bool false) h2) else (ldL h2 (b.add 23) fun bp ae bq => if (decide (((ae : Nat) : Int) > 6)) = true then (Q (.bool false) h2) else (ldL h2 (b.add 24) fun br af bt => if (decide (((af : Nat) : Int) > 6)) = true then (Q (.bool false) h2) else (ldI h2 b .i64 fun ag => ldI h2 (b.add 1) .i64 fun ah => ldL h2 (b.add 2) fun ai aj ak => ldL h2 (b.add 3) fun al am an => ldL h2 (b.add 4) fun ao ap aq => ldL h2 (b.add 5) fun ar au av => ldB h2 (b.add 6) fun aw => ldI h2 (b.add 7) .i64 fun ax => ldI h2 (b.add 8) .i64 fun ay => ldI h2 (b.add 9) .i64 fun az => ldS h2 (b.add 10) fun b0 => ldI h2 (b.add 11) .i64 fun b1 => ldI h2 (b.add 12) .i64 fun b2 => ldL h2 (b.add 13) fun b3 b4 b5 => ldL h2 (b.add 14) fun b6 b7 b8 => ldL h2 (b.add 15) fun b9 ba bb => ldL h2 (b.add 16) fun bc bd bf => ldI h2 (b.add 17) .i64 fun bg => ldI h2 (b.add 18) .i64 fun bh => ldI h2 (b.add 19) .i64 fun bi => ldI h2 (b.add 20) .i64 fun bj => aD Tryz.prog pF #[.agg #[.int .i64 ag, .int .i64 ah, .slice ai aj ak, .slice al am an, .slice ao ap aq, .slice ar au av, .bool aw, .int .i64 ax, .int .i64 ay, .int .i64 az, .string b0, .int .i64 b1, .int .i64 b2, .slice b3 b4 b5, .slice b6 b7 b8, .slice b9 ba bb, .slice bc bd bf, .int .i64 bg, .int .i64 bh, .int .i64 bi, .int .i64 bj]] h2 fun v h3 => ∃ f, v = .int .i64 f ∧ if (f != 0) = true then (Q (.bool false) h3) else (Kn1 (wrap .i64 (a + 1)) h3))))))) else (Q (.bool true) h)
def vb (b : Option Addr) (a c : Nat) (Q : QT) (h : aA) : Prop :=
 if (decide (((a : Nat) : Int) > 12)) = true then (Q (.bool false) h) else (aJ (fun (s : Int) h Kn => p8 b a c Q s h Kn) 0 h)
set_option maxRecDepth 100000 in
theorem zw (b c d : _) {Q : QT} {h : aA} (hk : vb b c d Q h) : aD Tryz.prog qe #[.slice b c d] h Q :=
 aU follows Tryz.func7 (Tryz.call7 _) rfl rfl [] [(10, fun e h => dL (e 0) fun b c d => dI .i64 (e 3) fun a => aJ (fun (s : Int) h Kn => p8 b c d Q s h Kn) a h)]
 trivial
 ⟨⟨by kernel_rfl, fun e h he hk => by
 have F := Ag.nil (e := e)
 have ⟨b, c, d, F, hk⟩ := eL F hk
 have ⟨a, F, hk⟩ := eI F hk
 exact cE (s0 := a) follows (fun _ h => by cases h) he F (fun s => [(3, .int .i64 s)]) (by kernel_rfl) (F.take 1) hk (fun Kn1 e h => dI .i64 (e 3) fun a => Kn1 a h) (fun Kn1 e h hk => by
  have F := Ag.nil (e := e)
  have ⟨a, F, hk⟩ := eI F hk
  exact ⟨a, F, hk⟩)
  (fun Kn1 => []) (fun Kn1 => [])
  (fun Kn1 => trivial)
  (fun Kn1 => trivial) (fun e s h Kn1 => by as_aux_lemma => kernel_rfl)⟩, trivial⟩ (by as_aux_lemma => kernel_rfl) hk
def u4 (Q : QT) (h : aA) : Prop :=
 aD Tryz.prog mR #[.int .i64 1, .string (⟨#[101, 118, 105, 108]⟩ : ByteArray)] h fun v h1 => ∃ d f g i j k l m n o p q r s t u w x y z A B C D G I J L M N O P R S U V W X Y Z a0 a1 a2 a3 a4 a5 a6 a7 a8, v = .agg #[.int .i64 d, .int .i64 f, .slice g i j, .slice k l m, .slice n o p, .slice q r s, .bool t, .int .i64 u, .int .i64 w, .int .i64 x, .string y, .int .i64 z, .int .i64 A, .slice B C D, .slice G I J, .slice L M N, .slice O P R, .int .i64 S, .int .i64 U, .int .i64 V, .int .i64 W, .slice X Y Z, .slice a0 a1 a2, .slice a3 a4 a5, .slice a6 a7 a8] ∧ aD Tryz.prog mR #[.int .i64 2, .string (⟨#[98, 97, 100]⟩ : ByteArray)] h1 fun v h2 => ∃ a9 aa ab ac ad ae af ag ah ai aj ak al am an ao ap aq ar au av aw ax ay az b0 b1 b2 b3 b4 b5 b6 b7 b8 b9 ba bb bc bd bf bg bh bi bj bk bl bm bn bo, v = .agg #[.int .i64 a9, .int .i64 aa, .slice ab ac ad, .slice ae af ag, .slice ah ai aj, .slice ak al am, .bool an, .int .i64 ao, .int .i64 ap, .int .i64 aq, .string ar, .int .i64 au, .int .i64 av, .slice aw ax ay, .slice az b0 b1, .slice b2 b3 b4, .slice b5 b6 b7, .int .i64 b8, .int .i64 b9, .int .i64 ba, .int .i64 bb, .slice bc bd bf, .slice bg bh bi, .slice bj bk bl, .slice bm bn bo] ∧ aD Tryz.prog mR #[.int .i64 3, .string (⟨#[103, 111, 111, 100]⟩ : ByteArray)] h2 fun v h3 => ∃ bp bq br bt bu bv bw bx bz c0 c1 c2 c3 c4 c5 c6 c7 c8 c9 ca cb cc cd ce cf cg ch ci cj ck cl cm cn co cp cq cr cs ct cu cv cw cx cy cz d0 d1 d2 d3, v = .agg #[.int .i64 bp, .int .i64 bq, .slice br bt bu, .slice bv bw bx, .slice bz c0 c1, .slice c2 c3 c4, .bool c5, .int .i64 c6, .int .i64 c7, .int .i64 c8, .string c9, .int .i64 ca, .int .i64 cb, .slice cc cd ce, .slice cf cg ch, .slice ci cj ck, .slice cl cm cn, .int .i64 co, .int .i64 cp, .int .i64 cq, .int .i64 cr, .slice cs ct cu, .slice cv cw cx, .slice cy cz d0, .slice d1 d2 d3] ∧ alV h3 (.cells #[.int .i64 d, .int .i64 f, .slice g i j, .slice k l m, .slice n o p, .slice q r s, .bool t, .int .i64 u, .int .i64 w, .int .i64 x, .string y, .int .i64 z, .int .i64 A, .slice B C D, .slice G I J, .slice L M N, .slice O P R, .int .i64 S, .int .i64 U, .int .i64 V, .int .i64 W, .slice X Y Z, .slice a0 a1 a2, .slice a3 a4 a5, .slice a6 a7 a8, .int .i64 a9, .int .i64 aa, .slice ab ac ad, .slice ae af ag, .slice ah ai aj, .slice ak al am, .bool an, .int .i64 ao, .int .i64 ap, .int .i64 aq, .string ar, .int .i64 au, .int .i64 av, .slice aw ax ay, .slice az b0 b1, .slice b2 b3 b4, .slice b5 b6 b7, .int .i64 b8, .int .i64 b9, .int .i64 ba, .int .i64 bb, .slice bc bd bf, .slice bg bh bi, .slice bj bk bl, .slice bm bn bo, .int .i64 bp, .int .i64 bq, .slice br bt bu, .slice bv bw bx, .slice bz c0 c1, .slice c2 c3 c4, .bool c5, .int .i64 c6, .int .i64 c7, .int .i64 c8, .string c9, .int .i64 ca, .int .i64 cb, .slice cc cd ce, .slice cf cg ch, .slice ci cj ck, .slice cl cm cn, .int .i64 co, .int .i64 cp, .int .i64 cq, .int .i64 cr, .slice cs ct cu, .slice cv cw cx, .slice cy cz d0, .slice d1 d2 d3] bU) fun df h4 => aD Tryz.prog jU #[.slice (some df) 3 3] h4 fun v h5 => ∃ c d4, v = .tuple #[.pointer c, .int .i64 d4] ∧ if (d4 != 0) = true then (Q (.bool false) h5) else (if (Option.isNone c) = true then (Q (.bool false) h5) else (alV h5 (.cells #[.int .i64 0, .bool false, .int .u64 0, .int .u64 0, .bool false, .int .u64 0, .int .u64 0, .int .i64 0, .int .i64 0] qj) fun a h6 => stN h6 a [.int .i64 6, .bool false, .int .u64 0, .int .u64 0, .bool false, .int .u64 0, .int .u64 0, .int .i64 5, .int .i64 80] 0 fun h7 => ldI h7 a .i64 fun dg => ldB h7 (a.add 1) fun dh => ldI h7 (a.add 2) .u64 fun di => ldI h7 (a.add 3) .u64 fun dj => ldB h7 (a.add 4) fun dk => ldI h7 (a.add 5) .u64 fun dl => ldI h7 (a.add 6) .u64 fun dm => ldI h7 (a.add 7) .i64 fun dn => ldI h7 (a.add 8) .i64 fun dp => aD Tryz.prog je #[.pointer c, .agg #[.int .i64 dg, .bool dh, .int .u64 di, .int .u64 dj, .bool dk, .int .u64 dl, .int .u64 dm, .int .i64 dn, .int .i64 dp], .int .i64 4, .int .i64 1] h7 fun v h8 => ∃ b, v = .pointer b ∧ if (Option.isNone b) = true then (Q (.bool false) h8) else (aD Tryz.prog gB #[.pointer b, .string (⟨#[47, 101, 118]⟩ : ByteArray)] h8 fun v h9 => v = .tuple #[] ∧ aD Tryz.prog gB #[.pointer b, .string (⟨#[105, 108]⟩ : ByteArray)] h9 fun v h10 => v = .tuple #[] ∧ ldI h10 a .i64 fun dq => ldB h10 (a.add 1) fun dr => ldI h10 (a.add 2) .u64 fun dt => ldI h10 (a.add 3) .u64 fun du => ldB h10 (a.add 4) fun dv => ldI h10 (a.add 5) .u64 fun dw => ldI h10 (a.add 6) .u64 fun dx => ldI h10 (a.add 7) .i64 fun dy => ldI h10 (a.add 8) .i64 fun dz => aD Tryz.prog iK #[.pointer c, .agg #[.int .i64 dq, .bool dr, .int .u64 dt, .int .u64 du, .bool dv, .int .u64 dw, .int .u64 dx, .int .i64 dy, .int .i64 dz], .agg #[.int .i64 4, .int .i64 1, .int .i64 0, .string (⟨#[47, 101, 118, 105, 108]⟩ : ByteArray)]] h10 fun v h11 => ∃ d5 d6 d7, v = .slice d5 d6 d7 ∧ alV h11 (.cells #[.int .i64 0] qd) fun f0 h12 => aD Tryz.prog om #[.slice d5 d6 d7, .slice (some f0) 1 1] h12 fun v h13 => ∃ d8, v = .bool d8 ∧ if d8 = true then (aD Tryz.prog eO #[.pointer b] h13 fun v h14 => ∃ d9 da db, v = .slice d9 da db ∧ alV h14 (.cells #[.int .i64 0] qd) fun f1 h15 => aD Tryz.prog om #[.slice d9 da db, .slice (some f1) 1 1] h15 fun v h16 => ∃ dc, v = .bool dc ∧ if dc = true then (aD Tryz.prog kS #[.pointer b] h16 fun v h17 => ∃ dd, v = .int .i64 dd ∧ if (dd == 5) = true then (aD Tryz.prog iB #[.pointer c] h17 fun v h18 => ∃ de, v = .int .i64 de ∧ Q (.bool (de == 3)) h18) else (Q (.bool false) h17)) else (Q (.bool false) h16)) else (Q (.bool false) h13))))
set_option maxRecDepth 100000 in
theorem zc {Q : QT} {h : aA} (hk : u4 Q h) : aD Tryz.prog gF #[] h Q :=
 aU follows Tryz.func8 (Tryz.call8 _) rfl rfl [] []
 trivial
 trivial (by as_aux_lemma => kernel_rfl) hk
def fR (d : Addr) (a4 : Option Addr) (a5 ao : Nat) (a6 : Int) (Q : QT) (i : Int) (h : aA) (Kn3 : Int → aA → Prop) : Prop :=
 if (decide (i < a6)) = true then (bQ i a5 (nn a4 fun t => ldI h (t.add (i.toNat * 5)) .i64 fun a7 => ldL h ((t.add (i.toNat * 5)).add 1) fun a8 a9 aa => ldL h ((t.add (i.toNat * 5)).add 2) fun ab ac ad => ldL h ((t.add (i.toNat * 5)).add 3) fun ae af ag => ldL h ((t.add (i.toNat * 5)).add 4) fun ah ai aj => alV h (.cells #[.int .i64 0, .slice none 0 0, .slice none 0 0, .slice none 0 0, .slice none 0 0] mw) fun a h17 => stN h17 a [.int .i64 a7, .slice a8 a9 aa, .slice ab ac ad, .slice ae af ag, .slice ah ai aj] 0 fun h18 => ldL h18 (a.add 2) fun ak al am => aD Tryz.prog jW #[.slice ak al am] h18 fun v h19 => ∃ a3 an, v = .tuple #[.pointer a3, .int .i64 an] ∧ ldM h19 (d.add 1) fun f => ldI h19 a .i64 fun g => ldM h19 (d.add 1) fun l => ldI h19 a .i64 fun m => ldI h19 a .i64 fun u => ldL h19 (a.add 1) fun w x y => ldL h19 (a.add 2) fun z A B => ldL h19 (a.add 3) fun C D G => ldL h19 (a.add 4) fun I J L => (yB Tryz.prog bJ (.map l) (.int .i64 m) false h19 fun v h20 => ∃ n o p, v = .slice n o p ∧ (ldM h20 (d.add 1) fun b => (.map b : Value) = .map f) ∧ (ldI h20 a .i64 fun c => (.int .i64 c : Value) = .int .i64 g) ∧ (ldI h20 a .i64 fun M => ldL h20 (a.add 1) fun N O P => ldL h20 (a.add 2) fun R S U => ldL h20 (a.add 3) fun V W X => ldL h20 (a.add 4) fun Y Z a0 => (.agg #[.int .i64 M, .slice N O P, .slice R S U, .slice V W X, .slice Y Z a0] : Value) = .agg #[.int .i64 u, .slice w x y, .slice z A B, .slice C D G, .slice I J L]) ∧ alV h20 (.cells #[.int .i64 u, .slice w x y, .slice z A B, .slice C D G, .slice I J L, .pointer a3] j7) fun a2 h21 => (ldM h21 (d.add 1) fun b => (.map b : Value) = .map f) ∧ (ldI h21 a .i64 fun c => (.int .i64 c : Value) = .int .i64 g) ∧ (ldM h21 (d.add 1) fun j => (.map j : Value) = .map l) ∧ (ldI h21 a .i64 fun k => (.int .i64 k : Value) = .int .i64 m) ∧ alV h21 (.cells #[.pointer (some a2)] eJ) fun a1 h22 => (ldM h22 (d.add 1) fun b => (.map b : Value) = .map f) ∧ (ldI h22 a .i64 fun c => (.int .i64 c : Value) = .int .i64 g) ∧ (ldM h22 (d.add 1) fun j => (.map j : Value) = .map l) ∧ (ldI h22 a .i64 fun k => (.int .i64 k : Value) = .int .i64 m) ∧ dN Tryz.prog .append #[aX, aX] aX #[false, false] #[.slice n o p, .slice (some a1) 1 1] h22 fun v h23 => ∃ q r s, v = .slice q r s ∧ (ldM h23 (d.add 1) fun b => (.map b : Value) = .map f) ∧ (ldI h23 a .i64 fun c => (.int .i64 c : Value) = .int .i64 g) ∧ qC Tryz.prog bJ (.map f) (.int .i64 g) (.slice q r s) h23 fun h24 => Kn3 (wrap .i64 (i + 1)) h24) ∧ (alV h19 (.cells #[.int .i64 u, .slice w x y, .slice z A B, .slice C D G, .slice I J L, .pointer a3] j7) fun a2 h25 => (ldM h25 (d.add 1) fun b => (.map b : Value) = .map f) ∧ (ldI h25 a .i64 fun c => (.int .i64 c : Value) = .int .i64 g) ∧ (ldM h25 (d.add 1) fun j => (.map j : Value) = .map l) ∧ (ldI h25 a .i64 fun k => (.int .i64 k : Value) = .int .i64 m) ∧ (yB Tryz.prog bJ (.map l) (.int .i64 m) false h25 fun v h26 => ∃ n o p, v = .slice n o p ∧ (ldM h26 (d.add 1) fun b => (.map b : Value) = .map f) ∧ (ldI h26 a .i64 fun c => (.int .i64 c : Value) = .int .i64 g) ∧ (ldI h26 a .i64 fun M => ldL h26 (a.add 1) fun N O P => ldL h26 (a.add 2) fun R S U => ldL h26 (a.add 3) fun V W X => ldL h26 (a.add 4) fun Y Z a0 => (.agg #[.int .i64 M, .slice N O P, .slice R S U, .slice V W X, .slice Y Z a0] : Value) = .agg #[.int .i64 u, .slice w x y, .slice z A B, .slice C D G, .slice I J L]) ∧ alV h26 (.cells #[.pointer (some a2)] eJ) fun a1 h27 => (ldM h27 (d.add 1) fun b => (.map b : Value) = .map f) ∧ (ldI h27 a .i64 fun c => (.int .i64 c : Value) = .int .i64 g) ∧ (ldM h27 (d.add 1) fun j => (.map j : Value) = .map l) ∧ (ldI h27 a .i64 fun k => (.int .i64 k : Value) = .int .i64 m) ∧ dN Tryz.prog .append #[aX, aX] aX #[false, false] #[.slice n o p, .slice (some a1) 1 1] h27 fun v h28 => ∃ q r s, v = .slice q r s ∧ (ldM h28 (d.add 1) fun b => (.map b : Value) = .map f) ∧ (ldI h28 a .i64 fun c => (.int .i64 c : Value) = .int .i64 g) ∧ qC Tryz.prog bJ (.map f) (.int .i64 g) (.slice q r s) h28 fun h29 => Kn3 (wrap .i64 (i + 1)) h29) ∧ (alV h25 (.cells #[.pointer (some a2)] eJ) fun a1 h30 => (ldM h30 (d.add 1) fun b => (.map b : Value) = .map f) ∧ (ldI h30 a .i64 fun c => (.int .i64 c : Value) = .int .i64 g) ∧ (ldM h30 (d.add 1) fun j => (.map j : Value) = .map l) ∧ (ldI h30 a .i64 fun k => (.int .i64 k : Value) = .int .i64 m) ∧ yB Tryz.prog bJ (.map l) (.int .i64 m) false h30 fun v h31 => ∃ n o p, v = .slice n o p ∧ (ldM h31 (d.add 1) fun b => (.map b : Value) = .map f) ∧ (ldI h31 a .i64 fun c => (.int .i64 c : Value) = .int .i64 g) ∧ (ldI h31 a .i64 fun M => ldL h31 (a.add 1) fun N O P => ldL h31 (a.add 2) fun R S U => ldL h31 (a.add 3) fun V W X => ldL h31 (a.add 4) fun Y Z a0 => (.agg #[.int .i64 M, .slice N O P, .slice R S U, .slice V W X, .slice Y Z a0] : Value) = .agg #[.int .i64 u, .slice w x y, .slice z A B, .slice C D G, .slice I J L]) ∧ dN Tryz.prog .append #[aX, aX] aX #[false, false] #[.slice n o p, .slice (some a1) 1 1] h31 fun v h32 => ∃ q r s, v = .slice q r s ∧ (ldM h32 (d.add 1) fun b => (.map b : Value) = .map f) ∧ (ldI h32 a .i64 fun c => (.int .i64 c : Value) = .int .i64 g) ∧ qC Tryz.prog bJ (.map f) (.int .i64 g) (.slice q r s) h32 fun h33 => Kn3 (wrap .i64 (i + 1)) h33)))) else (Q (.tuple #[.pointer (some d), .int .i64 0]) h)
def jP (d : Addr) (f : Option Addr) (g i : Nat) (Q : QT) (h : aA) : Prop :=
 aD Tryz.prog iG #[.slice f g i] h fun v h16 => ∃ b a c, v = .slice b a c ∧ aJ (fun (s : Int) h Kn => fR d b a c ((a : Nat) : Int) Q s h Kn) 0 h16
def jX (f : Addr) (g : Option Nat) (ap : Option Addr) (aq ie : Nat) (ar : Int) (Q : QT) (i : Option Addr) (j k : Nat) (b : Int) (h : aA) (Kn1 : (Option Addr) × Nat × Nat × Int → aA → Prop) : Prop :=
 if (decide (b < ar)) = true then (bQ b aq (nn ap fun d => ldI h (d.add (b.toNat * 25)) .i64 fun au => ldI h ((d.add (b.toNat * 25)).add 1) .i64 fun av => ldL h ((d.add (b.toNat * 25)).add 2) fun aw ax ay => ldL h ((d.add (b.toNat * 25)).add 3) fun az b0 b1 => ldL h ((d.add (b.toNat * 25)).add 4) fun b2 b3 b4 => ldL h ((d.add (b.toNat * 25)).add 5) fun b5 b6 b7 => ldB h ((d.add (b.toNat * 25)).add 6) fun b8 => ldI h ((d.add (b.toNat * 25)).add 7) .i64 fun b9 => ldI h ((d.add (b.toNat * 25)).add 8) .i64 fun ba => ldI h ((d.add (b.toNat * 25)).add 9) .i64 fun bb => ldS h ((d.add (b.toNat * 25)).add 10) fun bc => ldI h ((d.add (b.toNat * 25)).add 11) .i64 fun bd => ldI h ((d.add (b.toNat * 25)).add 12) .i64 fun bf => ldL h ((d.add (b.toNat * 25)).add 13) fun bg bh bi => ldL h ((d.add (b.toNat * 25)).add 14) fun bj bk bl => ldL h ((d.add (b.toNat * 25)).add 15) fun bm bn bo => ldL h ((d.add (b.toNat * 25)).add 16) fun bp bq br => ldI h ((d.add (b.toNat * 25)).add 17) .i64 fun bt => ldI h ((d.add (b.toNat * 25)).add 18) .i64 fun bu => ldI h ((d.add (b.toNat * 25)).add 19) .i64 fun bv => ldI h ((d.add (b.toNat * 25)).add 20) .i64 fun bw => ldL h ((d.add (b.toNat * 25)).add 21) fun bx bz c0 => ldL h ((d.add (b.toNat * 25)).add 22) fun c1 c2 c3 => ldL h ((d.add (b.toNat * 25)).add 23) fun c4 c5 c6 => ldL h ((d.add (b.toNat * 25)).add 24) fun c7 c8 c9 => alV h (.cells #[.int .i64 0, .int .i64 0, .slice none 0 0, .slice none 0 0, .slice none 0 0, .slice none 0 0, .bool false, .int .i64 0, .int .i64 0, .int .i64 0, .string (⟨#[]⟩ : ByteArray), .int .i64 0, .int .i64 0, .slice none 0 0, .slice none 0 0, .slice none 0 0, .slice none 0 0, .int .i64 0, .int .i64 0, .int .i64 0, .int .i64 0, .slice none 0 0, .slice none 0 0, .slice none 0 0, .slice none 0 0] bU) fun c h4 => stN h4 c [.int .i64 au, .int .i64 av, .slice aw ax ay, .slice az b0 b1, .slice b2 b3 b4, .slice b5 b6 b7, .bool b8, .int .i64 b9, .int .i64 ba, .int .i64 bb, .string bc, .int .i64 bd, .int .i64 bf, .slice bg bh bi, .slice bj bk bl, .slice bm bn bo, .slice bp bq br, .int .i64 bt, .int .i64 bu, .int .i64 bv, .int .i64 bw, .slice bx bz c0, .slice c1 c2 c3, .slice c4 c5 c6, .slice c7 c8 c9] 0 fun h5 => ldI h5 (c.add 7) .i64 fun ca => yB Tryz.prog tL (.map g) (.int .i64 ca) false h5 fun v h6 => ∃ l, v = .bool l ∧ if l = true then (Q (.tuple #[.pointer none, .int .i64 7]) h6) else (ldI h6 (c.add 7) .i64 fun cb => qC Tryz.prog tL (.map g) (.int .i64 cb) (.bool true) h6 fun h7 => ldI h7 c .i64 fun cc => ldI h7 (c.add 1) .i64 fun cd => ldL h7 (c.add 2) fun ce cf cg => ldL h7 (c.add 3) fun ch ci cj => ldL h7 (c.add 4) fun ck cl cm => ldL h7 (c.add 5) fun cn co cp => ldB h7 (c.add 6) fun cq => ldI h7 (c.add 7) .i64 fun cr => ldI h7 (c.add 8) .i64 fun cs => ldI h7 (c.add 9) .i64 fun ct => ldS h7 (c.add 10) fun cu => ldI h7 (c.add 11) .i64 fun cv => ldI h7 (c.add 12) .i64 fun cw => ldL h7 (c.add 13) fun cx cy cz => ldL h7 (c.add 14) fun d0 d1 d2 => ldL h7 (c.add 15) fun d3 d4 d5 => ldL h7 (c.add 16) fun d6 d7 d8 => ldI h7 (c.add 17) .i64 fun d9 => ldI h7 (c.add 18) .i64 fun da => ldI h7 (c.add 19) .i64 fun db => ldI h7 (c.add 20) .i64 fun dc => ldL h7 (c.add 21) fun dd de df => ldL h7 (c.add 22) fun dg dh di => ldL h7 (c.add 23) fun dj dk dl => ldL h7 (c.add 24) fun dm dn dp => aD Tryz.prog kw #[.agg #[.int .i64 cc, .int .i64 cd, .slice ce cf cg, .slice ch ci cj, .slice ck cl cm, .slice cn co cp, .bool cq, .int .i64 cr, .int .i64 cs, .int .i64 ct, .string cu, .int .i64 cv, .int .i64 cw, .slice cx cy cz, .slice d0 d1 d2, .slice d3 d4 d5, .slice d6 d7 d8, .int .i64 d9, .int .i64 da, .int .i64 db, .int .i64 dc, .slice dd de df, .slice dg dh di, .slice dj dk dl, .slice dm dn dp]] h7 fun v h8 => ∃ m n o p q r s t u w x y z A B C D G I J L M N O P R S U V W X Y Z a0 a1 a2 a3 a4 a5 a6 a7 a8 a9 aa ab ac ad ae af, v = .agg #[.int .i64 m, .int .i64 n, .slice o p q, .slice r s t, .slice u w x, .slice y z A, .bool B, .int .i64 C, .int .i64 D, .int .i64 G, .string I, .int .i64 J, .int .i64 L, .slice M N O, .slice P R S, .slice U V W, .slice X Y Z, .int .i64 a0, .int .i64 a1, .int .i64 a2, .int .i64 a3, .slice a4 a5 a6, .slice a7 a8 a9, .slice aa ab ac, .slice ad ae af] ∧ alV h8 (.cells #[.int .i64 0, .int .i64 0, .slice none 0 0, .slice none 0 0, .slice none 0 0, .slice none 0 0, .bool false, .int .i64 0, .int .i64 0, .int .i64 0, .string (⟨#[]⟩ : ByteArray), .int .i64 0, .int .i64 0, .slice none 0 0, .slice none 0 0, .slice none 0 0, .slice none 0 0, .int .i64 0, .int .i64 0, .int .i64 0, .int .i64 0, .slice none 0 0, .slice none 0 0, .slice none 0 0, .slice none 0 0] bU) fun a h9 => stN h9 a [.int .i64 m, .int .i64 n, .slice o p q, .slice r s t, .slice u w x, .slice y z A, .bool B, .int .i64 C, .int .i64 D, .int .i64 G, .string I, .int .i64 J, .int .i64 L, .slice M N O, .slice P R S, .slice U V W, .slice X Y Z, .int .i64 a0, .int .i64 a1, .int .i64 a2, .int .i64 a3, .slice a4 a5 a6, .slice a7 a8 a9, .slice aa ab ac, .slice ad ae af] 0 fun h10 => ldL h10 f fun ag ah ai => ldI h10 a .i64 fun dq => ldI h10 (a.add 1) .i64 fun dr => ldL h10 (a.add 2) fun dt du dv => ldL h10 (a.add 3) fun dw dx dy => ldL h10 (a.add 4) fun dz f0 f1 => ldL h10 (a.add 5) fun f2 f3 f4 => ldB h10 (a.add 6) fun f5 => ldI h10 (a.add 7) .i64 fun f6 => ldI h10 (a.add 8) .i64 fun f7 => ldI h10 (a.add 9) .i64 fun f8 => ldS h10 (a.add 10) fun f9 => ldI h10 (a.add 11) .i64 fun fa => ldI h10 (a.add 12) .i64 fun fb => ldL h10 (a.add 13) fun fc fd fe => ldL h10 (a.add 14) fun ff fg fh => ldL h10 (a.add 15) fun fi fj fk => ldL h10 (a.add 16) fun fm fn fo => ldI h10 (a.add 17) .i64 fun fp => ldI h10 (a.add 18) .i64 fun fq => ldI h10 (a.add 19) .i64 fun fr => ldI h10 (a.add 20) .i64 fun fs => ldL h10 (a.add 21) fun ft fu fv => ldL h10 (a.add 22) fun fw fx fy => ldL h10 (a.add 23) fun fz g0 g1 => ldL h10 (a.add 24) fun g2 g3 g4 => alV h10 (.cells #[.int .i64 dq, .int .i64 dr, .slice dt du dv, .slice dw dx dy, .slice dz f0 f1, .slice f2 f3 f4, .bool f5, .int .i64 f6, .int .i64 f7, .int .i64 f8, .string f9, .int .i64 fa, .int .i64 fb, .slice fc fd fe, .slice ff fg fh, .slice fi fj fk, .slice fm fn fo, .int .i64 fp, .int .i64 fq, .int .i64 fr, .int .i64 fs, .slice ft fu fv, .slice fw fx fy, .slice fz g0 g1, .slice g2 g3 g4] bU) fun g5 h11 => (ldL h11 f fun g6 g7 g8 => (.slice g6 g7 g8 : Value) = .slice ag ah ai) ∧ dN Tryz.prog .append #[mJ, mJ] mJ #[false, false] #[.slice ag ah ai, .slice (some g5) 1 1] h11 fun v h12 => ∃ aj ak al, v = .slice aj ak al ∧ st1 h12 f (.slice aj ak al) fun h13 => ldI h13 a .i64 fun g9 => ldI h13 (a.add 1) .i64 fun ga => ldL h13 (a.add 2) fun gb gc gd => ldL h13 (a.add 3) fun gf gg gh => ldL h13 (a.add 4) fun gi gj gk => ldL h13 (a.add 5) fun gl gm gn => ldB h13 (a.add 6) fun go => ldI h13 (a.add 7) .i64 fun gp => ldI h13 (a.add 8) .i64 fun gq => ldI h13 (a.add 9) .i64 fun gr => ldS h13 (a.add 10) fun gs => ldI h13 (a.add 11) .i64 fun gu => ldI h13 (a.add 12) .i64 fun gv => ldL h13 (a.add 13) fun gw gx gy => ldL h13 (a.add 14) fun gz i0 i1 => ldL h13 (a.add 15) fun i2 i3 i4 => ldL h13 (a.add 16) fun i5 i6 i7 => ldI h13 (a.add 17) .i64 fun i8 => ldI h13 (a.add 18) .i64 fun i9 => ldI h13 (a.add 19) .i64 fun ia => ldI h13 (a.add 20) .i64 fun ib => alV h13 (.cells #[.int .i64 g9, .int .i64 ga, .slice gb gc gd, .slice gf gg gh, .slice gi gj gk, .slice gl gm gn, .bool go, .int .i64 gp, .int .i64 gq, .int .i64 gr, .string gs, .int .i64 gu, .int .i64 gv, .slice gw gx gy, .slice gz i0 i1, .slice i2 i3 i4, .slice i5 i6 i7, .int .i64 i8, .int .i64 i9, .int .i64 ia, .int .i64 ib] cO) fun ic h14 => dN Tryz.prog .append #[oh, oh] oh #[false, false] #[.slice i j k, .slice (some ic) 1 1] h14 fun v h15 => ∃ am an ao, v = .slice am an ao ∧ Kn1 (am, an, ao, wrap .i64 (b + 1)) h15))) else (jP f i j k Q h)
def qI (b : Option Addr) (a c : Nat) (Q : QT) (h : aA) : Prop :=
 if (decide (((a : Nat) : Int) > 128)) = true then (Q (.tuple #[.pointer none, .int .i64 3]) h) else (CU h fun d h1 => alV h1 (.cells #[.slice none 0 0, .map (some d)] oo) fun f h2 => CU h2 fun g h3 => aJ (fun (s : (Option Addr) × Nat × Nat × Int) h Kn => jX f (some g) b a c ((a : Nat) : Int) Q s.1 s.2.1 s.2.2.1 s.2.2.2 h Kn) (none, 0, 0, 0) h3)
set_option maxRecDepth 100000 in
theorem vD (i j k : _) {Q : QT} {h : aA} (hk : qI i j k Q h) : aD Tryz.prog jU #[.slice i j k] h Q :=
 aU follows Tryz.func9 (Tryz.call9 _) rfl rfl [(34, fun e h => dA (e 4) fun d => dL (e 6) fun a b c => jP d a b c Q h)] [(16, fun e h => dA (e 4) fun d => dM (e 5) fun l => dL (e 21) fun m n o => dI .i64 (e 22) fun p => dL (e 6) fun a b c => dI .i64 (e 23) fun f => aJ (fun (s : (Option Addr) × Nat × Nat × Int) h Kn => jX d l m n o p Q s.1 s.2.1 s.2.2.1 s.2.2.2 h Kn) (a, b, c, f) h), (36, fun e h => dA (e 4) fun d => dL (e 55) fun q r t => dI .i64 (e 56) fun u => dI .i64 (e 57) fun g => aJ (fun (s : Int) h Kn => fR d q r t u Q s h Kn) g h)]
 ⟨fun e h _ hk => by
 have F := Ag.nil (e := e)
 have ⟨d, F, hk⟩ := eA F hk
 have ⟨a, b, c, F, hk⟩ := eL F hk
 exact jj F (by as_aux_lemma => kernel_rfl) hk, trivial⟩
 ⟨⟨by kernel_rfl, fun e h he hk => by
 have F := Ag.nil (e := e)
 have ⟨d, F, hk⟩ := eA F hk
 have ⟨l, F, hk⟩ := eM F hk
 have ⟨m, n, o, F, hk⟩ := eL F hk
 have ⟨p, F, hk⟩ := eI F hk
 have ⟨a, b, c, F, hk⟩ := eL F hk
 have ⟨f, F, hk⟩ := eI F hk
 exact cE (s0 := (a, b, c, f)) follows (fun _ h => by cases h) he F (fun s => [(23, .int .i64 s.2.2.2), (6, .slice s.1 s.2.1 s.2.2.1)]) (by kernel_rfl) (F.take 2) hk (fun Kn1 e h => dL (e 6) fun a b c => dI .i64 (e 23) fun f => Kn1 (a, b, c, f) h) (fun Kn1 e h hk => by
  have F := Ag.nil (e := e)
  have ⟨a, b, c, F, hk⟩ := eL F hk
  have ⟨f, F, hk⟩ := eI F hk
  exact ⟨(a, b, c, f), F, hk⟩)
  (fun Kn1 => []) (fun Kn1 => [])
  (fun Kn1 => trivial)
  (fun Kn1 => trivial) (fun e s h Kn1 => by as_aux_lemma => kernel_rfl)⟩, ⟨by kernel_rfl, fun e h he hk => by
 have F := Ag.nil (e := e)
 have ⟨d, F, hk⟩ := eA F hk
 have ⟨q, r, t, F, hk⟩ := eL F hk
 have ⟨u, F, hk⟩ := eI F hk
 have ⟨g, F, hk⟩ := eI F hk
 exact cE (s0 := g) follows (fun _ h => by cases h) he F (fun s => [(57, .int .i64 s)]) (by kernel_rfl) (F.take 1) hk (fun Kn3 e h => dI .i64 (e 57) fun g => Kn3 g h) (fun Kn3 e h hk => by
  have F := Ag.nil (e := e)
  have ⟨g, F, hk⟩ := eI F hk
  exact ⟨g, F, hk⟩)
  (fun Kn3 => []) (fun Kn3 => [])
  (fun Kn3 => trivial)
  (fun Kn3 => trivial) (fun e s h Kn3 => by as_aux_lemma => kernel_rfl)⟩, trivial⟩ (by as_aux_lemma => kernel_rfl) hk
def nT (c : Option Addr) (d k : Nat) (a : Int) (Q : QT) (Kn1 : Int → aA → Prop) (b : Int) (h : aA) (Kn2 : Int → aA → Prop) : Prop :=
 if (decide (b < a)) = true then (bQ a d (nn c fun f => ldI h ((f.add (a.toNat * 25)).add 7) .i64 fun g => bQ b d (nn c fun i => ldI h ((i.add (b.toNat * 25)).add 7) .i64 fun j => if (g == j) = true then (Q (.tuple #[.pointer none, .int .i64 7]) h) else (Kn2 (wrap .i64 (b + 1)) h)))) else (Kn1 (wrap .i64 (a + 1)) h)
def nM (a : Option Addr) (b c : Nat) (Q : QT) (h : aA) : Prop :=
 alV h (.cells #[.slice a b c] tN) fun d h1 => Q (.tuple #[.pointer (some d), .int .i64 0]) h1
def nQ (b : Option Addr) (a c : Nat) (Q : QT) (d : Int) (h : aA) (Kn1 : Int → aA → Prop) : Prop :=
 if (decide (d < ((a : Nat) : Int))) = true then (aJ (fun (s : Int) h Kn => nT b a c d Q Kn1 s h Kn) 0 h) else (nM b a c Q h)
def sY (b : Option Addr) (a c : Nat) (Q : QT) (h : aA) : Prop :=
 if (decide (((a : Nat) : Int) > 128)) = true then (Q (.tuple #[.pointer none, .int .i64 3]) h) else (aJ (fun (s : Int) h Kn => nQ b a c Q s h Kn) 0 h)
set_option maxRecDepth 100000 in
theorem xo (a b c : _) {Q : QT} {h : aA} (hk : sY a b c Q h) : aD Tryz.prog nL #[.slice a b c] h Q :=
 aU follows Tryz.func10 (Tryz.call10 _) rfl rfl [(24, fun e h => dL (e 0) fun a b c => nM a b c Q h)] [(10, fun e h => dL (e 0) fun a b c => dI .i64 (e 4) fun d => aJ (fun (s : Int) h Kn => nQ a b c Q s h Kn) d h)]
 ⟨fun e h _ hk => by
 have F := Ag.nil (e := e)
 have ⟨a, b, c, F, hk⟩ := eL F hk
 exact jj F (by as_aux_lemma => kernel_rfl) hk, trivial⟩
 ⟨⟨by kernel_rfl, fun e h he hk => by
 have F := Ag.nil (e := e)
 have ⟨a, b, c, F, hk⟩ := eL F hk
 have ⟨d, F, hk⟩ := eI F hk
 exact cE (s0 := d) follows (fun _ h => by cases h) he F (fun s => [(4, .int .i64 s)]) (by kernel_rfl) (F.take 1) hk (fun Kn1 e h => dI .i64 (e 4) fun d => Kn1 d h) (fun Kn1 e h hk => by
  have F := Ag.nil (e := e)
  have ⟨d, F, hk⟩ := eI F hk
  exact ⟨d, F, hk⟩)
  (fun Kn1 => []) (fun Kn1 => [(16, fun e h => dL (e 0) fun a b c => dI .i64 (e 4) fun d => dI .i64 (e 5) fun f => aJ (fun (s : Int) h Kn => nT a b c d Q Kn1 s h Kn) f h)])
  (fun Kn1 => trivial)
  (fun Kn1 => ⟨⟨by kernel_rfl, fun e h he hk => by
 have F := Ag.nil (e := e)
 have ⟨a, b, c, F, hk⟩ := eL F hk
 have ⟨d, F, hk⟩ := eI F hk
 have ⟨f, F, hk⟩ := eI F hk
 exact cE (s0 := f) follows (uj (by kernel_rfl)) he F (fun s => [(5, .int .i64 s)]) (by kernel_rfl) (F.take 1) hk (fun Kn2 e h => dI .i64 (e 5) fun f => Kn2 f h) (fun Kn2 e h hk => by
  have F := Ag.nil (e := e)
  have ⟨f, F, hk⟩ := eI F hk
  exact ⟨f, F, hk⟩)
  (fun Kn2 => []) (fun Kn2 => [])
  (fun Kn2 => trivial)
  (fun Kn2 => trivial) (fun e s h Kn2 => by as_aux_lemma => kernel_rfl)⟩, trivial⟩) (fun e s h Kn1 => by as_aux_lemma => kernel_rfl)⟩, trivial⟩ (by as_aux_lemma => kernel_rfl) hk
def cU (a : Addr) (i : Bool) (c b : Addr) (U : Option Addr) (V W : Nat) (X d : Int) (Q : QT) (Kn1 : Bool × Int → aA → Prop) (h : aA) : Prop :=
 ldP h a fun f => ldP h a fun j => nn j fun k => ldL h (k.add 11) fun l m n => ldP h b fun t => alV h (.cells #[.pointer t] fK) fun u h19 => (ldP h19 a fun g => (.pointer g : Value) = .pointer f) ∧ (ldP h19 a fun w => (.pointer w : Value) = .pointer j) ∧ (ldL h19 (k.add 11) fun x y z => (.slice x y z : Value) = .slice l m n) ∧ dN Tryz.prog .append #[dQ, dQ] dQ #[false, false] #[.slice l m n, .slice (some u) 1 1] h19 fun v h20 => ∃ o p q, v = .slice o p q ∧ (ldP h20 a fun g => (.pointer g : Value) = .pointer f) ∧ nn f fun A => st1 h20 (A.add 11) (.slice o p q) fun h21 => ldP h21 c fun B => nn B fun C => ldL h21 (C.add 2) fun Y D Z => if (((D : Nat) : Int) == 0) = true then (Kn1 (i, wrap .i64 (d + 1)) h21) else (ldP h21 c fun G => nn G fun I => ldL h21 (I.add 1) fun a0 J a1 => if (((J : Nat) : Int) == 0) = true then (ldP h21 c fun L => nn L fun M => ldP h21 (M.add 5) fun N => aD Tryz.prog dY #[.pointer N] h21 fun v h22 => ∃ r, v = .pointer r ∧ alV h22 (.cells #[.pointer none] tD) fun s h23 => st1 h23 s (.pointer r) fun h24 => ldP h24 b fun O => nn O fun P => st1 h24 (P.add 2) (.func (.func 36) #[] #[.pointer (some a), .pointer (some b), .pointer (some s)]) fun h25 => Kn1 (i, wrap .i64 (d + 1)) h25) else (ldP h21 b fun R => nn R fun S => st1 h21 (S.add 3) (.func (.func 39) #[] #[.pointer (some c), .pointer (some a), .pointer (some b)]) fun h26 => Kn1 (true, wrap .i64 (d + 1)) h26))
def iQ (a : Addr) (s : Bool) (Q : QT) (h : aA) : Prop :=
 if s = true then (ldP h a fun c => ldP h a fun j => nn j fun k => ldL h (k.add 11) fun l m n => alV h (.cells #[.int .i64 0, .slice none 0 0, .slice none 0 0, .slice none 0 0, .slice none 0 0, .pointer none] j7) fun t h27 => (ldP h27 a fun b => (.pointer b : Value) = .pointer c) ∧ (ldP h27 a fun d => (.pointer d : Value) = .pointer j) ∧ (ldL h27 (k.add 11) fun f g i => (.slice f g i : Value) = .slice l m n) ∧ alV h27 (.cells #[.pointer (some t), .slice none 0 0, .func (.func 41) #[] #[.pointer (some a)], .func (.func 42) #[] #[]] jA) fun u h28 => (ldP h28 a fun b => (.pointer b : Value) = .pointer c) ∧ (ldP h28 a fun d => (.pointer d : Value) = .pointer j) ∧ (ldL h28 (k.add 11) fun f g i => (.slice f g i : Value) = .slice l m n) ∧ alV h28 (.cells #[.pointer (some u)] fK) fun w h29 => (ldP h29 a fun b => (.pointer b : Value) = .pointer c) ∧ (ldP h29 a fun d => (.pointer d : Value) = .pointer j) ∧ (ldL h29 (k.add 11) fun f g i => (.slice f g i : Value) = .slice l m n) ∧ dN Tryz.prog .append #[dQ, dQ] dQ #[false, false] #[.slice l m n, .slice (some w) 1 1] h29 fun v h30 => ∃ p q r, v = .slice p q r ∧ (ldP h30 a fun b => (.pointer b : Value) = .pointer c) ∧ nn c fun x => st1 h30 (x.add 11) (.slice p q r) fun h31 => ldP h31 a fun o => Q (.pointer o) h31) else (ldP h a fun o => Q (.pointer o) h)
def kT (q : Addr) (r : Option Addr) (s y : Nat) (t : Int) (Q : QT) (u : Bool) (g : Int) (h : aA) (Kn1 : Bool × Int → aA → Prop) : Prop :=
 if (decide (g < t)) = true then (bQ g s (nn r fun B => ldP h (B.add (g.toNat * 1)) fun C => alV h (.cells #[.pointer none] eJ) fun a h6 => st1 h6 a (.pointer C) fun h7 => ldP h7 a fun c => ldP h7 a fun w => nn w fun x => ldL h7 (x.add 2) fun z f A => (xg Tryz.prog rq (.int .i64 ((f : Nat) : Int)) (.int .i64 ((f : Nat) : Int)) h7 fun v h8 => ∃ i j k, v = .slice i j k ∧ (ldP h8 a fun b => (.pointer b : Value) = .pointer c) ∧ (alV h8 (.cells #[.pointer c, .slice i j k, .func (.func 33) #[] #[], .func (.func 34) #[] #[]] jA) fun l h9 => alV h9 (.cells #[.pointer none] fK) fun d h10 => (ldP h10 a fun b => (.pointer b : Value) = .pointer c) ∧ (ldP h10 a fun m => (.pointer m : Value) = .pointer w) ∧ (ldL h10 (x.add 2) fun n o p => (.slice n o p : Value) = .slice z f A) ∧ st1 h10 d (.pointer (some l)) fun h11 => cU q u a d r s y t g Q Kn1 h11) ∧ (alV h8 (.cells #[.pointer none] fK) fun d h12 => (ldP h12 a fun b => (.pointer b : Value) = .pointer c) ∧ (ldP h12 a fun m => (.pointer m : Value) = .pointer w) ∧ (ldL h12 (x.add 2) fun n o p => (.slice n o p : Value) = .slice z f A) ∧ alV h12 (.cells #[.pointer c, .slice i j k, .func (.func 33) #[] #[], .func (.func 34) #[] #[]] jA) fun l h13 => st1 h13 d (.pointer (some l)) fun h14 => cU q u a d r s y t g Q Kn1 h14)) ∧ (alV h7 (.cells #[.pointer none] fK) fun d h15 => (ldP h15 a fun b => (.pointer b : Value) = .pointer c) ∧ (ldP h15 a fun m => (.pointer m : Value) = .pointer w) ∧ (ldL h15 (x.add 2) fun n o p => (.slice n o p : Value) = .slice z f A) ∧ xg Tryz.prog rq (.int .i64 ((f : Nat) : Int)) (.int .i64 ((f : Nat) : Int)) h15 fun v h16 => ∃ i j k, v = .slice i j k ∧ (ldP h16 a fun b => (.pointer b : Value) = .pointer c) ∧ alV h16 (.cells #[.pointer c, .slice i j k, .func (.func 33) #[] #[], .func (.func 34) #[] #[]] jA) fun l h17 => st1 h17 d (.pointer (some l)) fun h18 => cU q u a d r s y t g Q Kn1 h18))) else (iQ q u Q h)
def pf (b : Option Addr) (i : Int) (j : Bool) (k l : Int) (m : Bool) (n o p q r t : Int) (Q : QT) (h : aA) : Prop :=
 alV h (.cells #[.int .i64 i, .bool j, .int .u64 k, .int .u64 l, .bool m, .int .u64 n, .int .u64 o, .int .i64 p, .int .i64 q] qj) fun a h1 => if (Option.isNone b) = true then (Q (.pointer none) h1) else (ldI h1 a .i64 fun u => ldB h1 (a.add 1) fun w => ldI h1 (a.add 2) .u64 fun x => ldI h1 (a.add 3) .u64 fun y => ldB h1 (a.add 4) fun z => ldI h1 (a.add 5) .u64 fun A => ldI h1 (a.add 6) .u64 fun B => ldI h1 (a.add 7) .i64 fun C => ldI h1 (a.add 8) .i64 fun D => alV h1 (.cells #[.pointer b, .int .i64 u, .bool w, .int .u64 x, .int .u64 y, .bool z, .int .u64 A, .int .u64 B, .int .i64 C, .int .i64 D, .int .i64 t, .slice none 0 0, .slice none 0 0, .int .i64 0, .bool false, .slice none 0 0] iy) fun G h2 => alV h2 (.cells #[.pointer none] rA) fun d h3 => st1 h3 d (.pointer (some G)) fun h4 => nn b fun I => ldM h4 (I.add 1) fun J => yB Tryz.prog bJ (.map J) (.int .i64 r) false h4 fun v h5 => ∃ f c g, v = .slice f c g ∧ aJ (fun (s : Bool × Int) h Kn => kT d f c g ((c : Nat) : Int) Q s.1 s.2 h Kn) (false, 0) h5)
set_option maxRecDepth 100000 in
theorem uP (j k l m n o p q r t u w : _) {Q : QT} {h : aA} (hk : pf j k l m n o p q r t u w Q h) : aD Tryz.prog je #[.pointer j, .agg #[.int .i64 k, .bool l, .int .u64 m, .int .u64 n, .bool o, .int .u64 p, .int .u64 q, .int .i64 r, .int .i64 t], .int .i64 u, .int .i64 w] h Q :=
 aU follows Tryz.func11 (Tryz.call11 _) rfl rfl [(36, fun e h => dA (e 9) fun c => dB (e 10) fun a => iQ c a Q h)] [(14, fun e h => dA (e 9) fun c => dL (e 27) fun d f g => dI .i64 (e 28) fun i => dB (e 10) fun a => dI .i64 (e 29) fun b => aJ (fun (s : Bool × Int) h Kn => kT c d f g i Q s.1 s.2 h Kn) (a, b) h)]
 ⟨fun e h _ hk => by
 have F := Ag.nil (e := e)
 have ⟨c, F, hk⟩ := eA F hk
 have ⟨a, F, hk⟩ := eB F hk
 exact jj F (by as_aux_lemma => kernel_rfl) hk, trivial⟩
 ⟨⟨by kernel_rfl, fun e h he hk => by
 have F := Ag.nil (e := e)
 have ⟨c, F, hk⟩ := eA F hk
 have ⟨d, f, g, F, hk⟩ := eL F hk
 have ⟨i, F, hk⟩ := eI F hk
 have ⟨a, F, hk⟩ := eB F hk
 have ⟨b, F, hk⟩ := eI F hk
 exact cE (s0 := (a, b)) follows (fun _ h => by cases h) he F (fun s => [(29, .int .i64 s.2), (10, .bool s.1)]) (by kernel_rfl) (F.take 2) hk (fun Kn1 e h => dB (e 10) fun a => dI .i64 (e 29) fun b => Kn1 (a, b) h) (fun Kn1 e h hk => by
  have F := Ag.nil (e := e)
  have ⟨a, F, hk⟩ := eB F hk
  have ⟨b, F, hk⟩ := eI F hk
  exact ⟨(a, b), F, hk⟩)
  (fun Kn1 => [(20, fun e h => dA (e 9) fun c => dB (e 10) fun a => dA (e 12) fun x => dA (e 13) fun y => dL (e 27) fun d f g => dI .i64 (e 28) fun i => dI .i64 (e 29) fun b => cU c a x y d f g i b Q Kn1 h)]) (fun Kn1 => [])
  (fun Kn1 => ⟨fun e h _ hk => by
 have F := Ag.nil (e := e)
 have ⟨c, F, hk⟩ := eA F hk
 have ⟨a, F, hk⟩ := eB F hk
 have ⟨x, F, hk⟩ := eA F hk
 have ⟨y, F, hk⟩ := eA F hk
 have ⟨d, f, g, F, hk⟩ := eL F hk
 have ⟨i, F, hk⟩ := eI F hk
 have ⟨b, F, hk⟩ := eI F hk
 exact jj F (by as_aux_lemma => kernel_rfl) hk, trivial⟩)
  (fun Kn1 => trivial) (fun e s h Kn1 => by as_aux_lemma => kernel_rfl)⟩, trivial⟩ (by as_aux_lemma => kernel_rfl) hk
def lb (b : ByteArray) (c : Option Addr) (d l : Nat) (f : Int) (Q : QT) (a : Int) (h : aA) (Kn1 : Int → aA → Prop) : Prop :=
 if (decide (a < f)) = true then (bQ a d (nn c fun g => ldP h (g.add (a.toNat * 1)) fun i => nn i fun j => ldV h (j.add 2) fun k => lQ Tryz.prog k #[.string b] h fun v h1 => v = .tuple #[] ∧ Kn1 (wrap .i64 (a + 1)) h1)) else (Q (.tuple #[]) h)
def pj (a : Option Addr) (c : ByteArray) (Q : QT) (h : aA) : Prop :=
 if (Option.isNone a) = true then (Q (.tuple #[]) h) else (nn a fun d => ldB h (d.add 14) fun f => if f = true then (Q (.tuple #[]) h) else (nn a fun g => ldL h (g.add 11) fun i b j => aJ (fun (s : Int) h Kn => lb c i b j ((b : Nat) : Int) Q s h Kn) 0 h))
set_option maxRecDepth 100000 in
theorem uJ (c b : _) {Q : QT} {h : aA} (hk : pj c b Q h) : aD Tryz.prog gB #[.pointer c, .string b] h Q :=
 aU follows Tryz.func13 (Tryz.call13 _) rfl rfl [] [(6, fun e h => dS (e 1) fun b => dL (e 17) fun d f g => dI .i64 (e 18) fun i => dI .i64 (e 19) fun a => aJ (fun (s : Int) h Kn => lb b d f g i Q s h Kn) a h)]
 trivial
 ⟨⟨by kernel_rfl, fun e h he hk => by
 have F := Ag.nil (e := e)
 have ⟨b, F, hk⟩ := eS F hk
 have ⟨d, f, g, F, hk⟩ := eL F hk
 have ⟨i, F, hk⟩ := eI F hk
 have ⟨a, F, hk⟩ := eI F hk
 exact cE (s0 := a) follows (fun _ h => by cases h) he F (fun s => [(19, .int .i64 s)]) (by kernel_rfl) (F.take 1) hk (fun Kn1 e h => dI .i64 (e 19) fun a => Kn1 a h) (fun Kn1 e h hk => by
  have F := Ag.nil (e := e)
  have ⟨a, F, hk⟩ := eI F hk
  exact ⟨a, F, hk⟩)
  (fun Kn1 => []) (fun Kn1 => [])
  (fun Kn1 => trivial)
  (fun Kn1 => trivial) (fun e s h Kn1 => by as_aux_lemma => kernel_rfl)⟩, trivial⟩ (by as_aux_lemma => kernel_rfl) hk
def pe (a : Option Addr) (Q : QT) (h : aA) : Prop :=
 if (Option.isNone a) = true then (Q (.int .i64 0) h) else (nn a fun b => ldI h (b.add 13) .i64 fun c => Q (.int .i64 c) h)
set_option maxRecDepth 100000 in
theorem uN (a : _) {Q : QT} {h : aA} (hk : pe a Q h) : aD Tryz.prog kS #[.pointer a] h Q :=
 aU follows Tryz.func15 (Tryz.call15 _) rfl rfl [] []
 trivial
 trivial (by as_aux_lemma => kernel_rfl) hk
def cV (b : Addr) (i J : Option Addr) (L M : Nat) (N j : Int) (k : Option Addr) (l O : Nat) (m : Int) (Q : QT) (Kn1 : Int → aA → Prop) (a : Int) (h : aA) (Kn2 : Int → aA → Prop) : Prop :=
 if (decide (a < m)) = true then (bQ a l (nn k fun n => ldB h (n.add (a.toNat * 1)) fun o => if o = true then (ldP h b fun c => ldP h b fun p => nn p fun q => ldL h (q.add 15) fun r s t => nn i fun u => ldP h u fun w => nn w fun x => ldL h (x.add 3) fun y z P => bQ a z (nn y fun A => ldL h (A.add (a.toNat * 1)) fun B C D => dN Tryz.prog .append #[bK, bK] bK #[false, false] #[.slice r s t, .slice B C D] h fun v h6 => ∃ d f g, v = .slice d f g ∧ (ldP h6 b fun G => (.pointer G : Value) = .pointer c) ∧ nn c fun I => st1 h6 (I.add 15) (.slice d f g) fun h7 => Kn2 (wrap .i64 (a + 1)) h7)) else (Kn2 (wrap .i64 (a + 1)) h))) else (Kn1 (wrap .i64 (j + 1)) h)
def fA (d : Addr) (Q : QT) (h : aA) : Prop :=
 ldP h d fun f => nn f fun g => ldL h (g.add 15) fun i j k => aD Tryz.prog cR #[.slice i j k] h fun v h13 => ∃ a b c, v = .slice a b c ∧ Q (.slice a b c) h13
def eX (a : Addr) (Q : QT) (h : aA) : Prop :=
 ldP h a fun b => ldP h a fun l => nn l fun m => ldL h (m.add 15) fun n o p => aD Tryz.prog gQ #[.slice n o p, .func (.func 46) #[] #[.pointer (some a)]] h fun v h8 => ∃ c d f, v = .slice c d f ∧ (ldP h8 a fun q => (.pointer q : Value) = .pointer b) ∧ nn b fun r => st1 h8 (r.add 15) (.slice c d f) fun h9 => ldP h9 a fun s => nn s fun t => ldL h9 (t.add 15) fun u w x => aD Tryz.prog ii #[.slice u w x] h9 fun v h10 => v = .tuple #[] ∧ ldP h10 a fun g => ldP h10 a fun y => nn y fun z => ldL h10 (z.add 15) fun A B C => aD Tryz.prog iM #[.slice A B C] h10 fun v h11 => ∃ i j k, v = .slice i j k ∧ (ldP h11 a fun D => (.pointer D : Value) = .pointer g) ∧ nn g fun G => st1 h11 (G.add 15) (.slice i j k) fun h12 => fA a Q h12
def ix (a : Addr) (d : Option Addr) (f n : Nat) (g : Int) (Q : QT) (b : Int) (h : aA) (Kn1 : Int → aA → Prop) : Prop :=
 if (decide (b < g)) = true then (bQ b f (nn d fun o => ldP h (o.add (b.toNat * 1)) fun c => nn c fun p => ldV h (p.add 3) fun q => lQ Tryz.prog q #[] h fun v h3 => v = .tuple #[] ∧ ldP h3 a fun i => ldP h3 a fun r => nn r fun t => ldL h3 (t.add 15) fun u w x => nn c fun y => ldP h3 y fun z => nn z fun A => ldL h3 (A.add 4) fun B C D => dN Tryz.prog .append #[bK, bK] bK #[false, false] #[.slice u w x, .slice B C D] h3 fun v h4 => ∃ j k l, v = .slice j k l ∧ (ldP h4 a fun G => (.pointer G : Value) = .pointer i) ∧ nn i fun I => st1 h4 (I.add 15) (.slice j k l) fun h5 => nn c fun J => ldL h5 (J.add 1) fun L m M => aJ (fun (s : Int) h Kn => cV a c d f n g b L m M ((m : Nat) : Int) Q Kn1 s h Kn) 0 h5)) else (eX a Q h)
def lz (c : Option Addr) (Q : QT) (h : aA) : Prop :=
 alV h (.cells #[.pointer c] rA) fun a h1 => ldP h1 a fun d => if (Option.isNone d) = true then (Q (.slice none 0 0) h1) else (ldP h1 a fun f => nn f fun g => ldB h1 (g.add 14) fun i => if (!i) = true then (ldP h1 a fun j => nn j fun k => st1 h1 (k.add 14) (.bool true) fun h2 => ldP h2 a fun l => nn l fun m => ldL h2 (m.add 11) fun n b o => aJ (fun (s : Int) h Kn => ix a n b o ((b : Nat) : Int) Q s h Kn) 0 h2) else (fA a Q h1))
set_option maxRecDepth 100000 in
theorem qs (j : _) {Q : QT} {h : aA} (hk : lz j Q h) : aD Tryz.prog eO #[.pointer j] h Q :=
 aU follows Tryz.func17 (Tryz.call17 _) rfl rfl [(36, fun e h => dA (e 1) fun a => eX a Q h), (42, fun e h => dA (e 1) fun a => fA a Q h)] [(14, fun e h => dA (e 1) fun a => dL (e 20) fun d f g => dI .i64 (e 21) fun i => dI .i64 (e 22) fun b => aJ (fun (s : Int) h Kn => ix a d f g i Q s h Kn) b h)]
 ⟨fun e h _ hk => by
 have F := Ag.nil (e := e)
 have ⟨a, F, hk⟩ := eA F hk
 exact jj F (by as_aux_lemma => kernel_rfl) hk, fun e h _ hk => by
 have F := Ag.nil (e := e)
 have ⟨a, F, hk⟩ := eA F hk
 exact jj F (by as_aux_lemma => kernel_rfl) hk, trivial⟩
 ⟨⟨by kernel_rfl, fun e h he hk => by
 have F := Ag.nil (e := e)
 have ⟨a, F, hk⟩ := eA F hk
 have ⟨d, f, g, F, hk⟩ := eL F hk
 have ⟨i, F, hk⟩ := eI F hk
 have ⟨b, F, hk⟩ := eI F hk
 exact cE (s0 := b) follows (fun _ h => by cases h) he F (fun s => [(22, .int .i64 s)]) (by kernel_rfl) (F.take 1) hk (fun Kn1 e h => dI .i64 (e 22) fun b => Kn1 b h) (fun Kn1 e h hk => by
  have F := Ag.nil (e := e)
  have ⟨b, F, hk⟩ := eI F hk
  exact ⟨b, F, hk⟩)
  (fun Kn1 => []) (fun Kn1 => [(24, fun e h => dA (e 1) fun a => dP (e 4) fun k => dL (e 20) fun d f g => dI .i64 (e 21) fun i => dI .i64 (e 22) fun b => dL (e 50) fun l m n => dI .i64 (e 51) fun o => dI .i64 (e 52) fun c => aJ (fun (s : Int) h Kn => cV a k d f g i b l m n o Q Kn1 s h Kn) c h)])
  (fun Kn1 => trivial)
  (fun Kn1 => ⟨⟨by kernel_rfl, fun e h he hk => by
 have F := Ag.nil (e := e)
 have ⟨a, F, hk⟩ := eA F hk
 have ⟨k, F, hk⟩ := eP F hk
 have ⟨d, f, g, F, hk⟩ := eL F hk
 have ⟨i, F, hk⟩ := eI F hk
 have ⟨b, F, hk⟩ := eI F hk
 have ⟨l, m, n, F, hk⟩ := eL F hk
 have ⟨o, F, hk⟩ := eI F hk
 have ⟨c, F, hk⟩ := eI F hk
 exact cE (s0 := c) follows (uj (by kernel_rfl)) he F (fun s => [(52, .int .i64 s)]) (by kernel_rfl) (F.take 1) hk (fun Kn2 e h => dI .i64 (e 52) fun c => Kn2 c h) (fun Kn2 e h hk => by
  have F := Ag.nil (e := e)
  have ⟨c, F, hk⟩ := eI F hk
  exact ⟨c, F, hk⟩)
  (fun Kn2 => []) (fun Kn2 => [])
  (fun Kn2 => trivial)
  (fun Kn2 => trivial) (fun e s h Kn2 => by as_aux_lemma => kernel_rfl)⟩, trivial⟩) (fun e s h Kn1 => by as_aux_lemma => kernel_rfl)⟩, trivial⟩ (by as_aux_lemma => kernel_rfl) hk
def qS (c : Option Addr) (b l : Nat) (d : Option Addr) (f m : Nat) (Q : QT) (a : Int) (h : aA) (Kn1 : Int → aA → Prop) : Prop :=
 if (decide (a < ((b : Nat) : Int))) = true then (bQ a b (nn c fun g => ldI h (g.add (a.toNat * 1)) .i64 fun i => bQ a f (nn d fun j => ldI h (j.add (a.toNat * 1)) .i64 fun k => if (i != k) = true then (Q (.bool false) h) else (Kn1 (wrap .i64 (a + 1)) h)))) else (Q (.bool true) h)
def vV (c : Option Addr) (a d : Nat) (f : Option Addr) (b g : Nat) (Q : QT) (h : aA) : Prop :=
 if (((a : Nat) : Int) != ((b : Nat) : Int)) = true then (Q (.bool false) h) else (aJ (fun (s : Int) h Kn => qS c a d f b g Q s h Kn) 0 h)
set_option maxRecDepth 100000 in
theorem Bc (b c d f g i : _) {Q : QT} {h : aA} (hk : vV b c d f g i Q h) : aD Tryz.prog om #[.slice b c d, .slice f g i] h Q :=
 aU follows Tryz.func18 (Tryz.call18 _) rfl rfl [] [(10, fun e h => dL (e 0) fun b c d => dL (e 1) fun f g i => dI .i64 (e 5) fun a => aJ (fun (s : Int) h Kn => qS b c d f g i Q s h Kn) a h)]
 trivial
 ⟨⟨by kernel_rfl, fun e h he hk => by
 have F := Ag.nil (e := e)
 have ⟨b, c, d, F, hk⟩ := eL F hk
 have ⟨f, g, i, F, hk⟩ := eL F hk
 have ⟨a, F, hk⟩ := eI F hk
 exact cE (s0 := a) follows (fun _ h => by cases h) he F (fun s => [(5, .int .i64 s)]) (by kernel_rfl) (F.take 1) hk (fun Kn1 e h => dI .i64 (e 5) fun a => Kn1 a h) (fun Kn1 e h hk => by
  have F := Ag.nil (e := e)
  have ⟨a, F, hk⟩ := eI F hk
  exact ⟨a, F, hk⟩)
  (fun Kn1 => []) (fun Kn1 => [])
  (fun Kn1 => trivial)
  (fun Kn1 => trivial) (fun e s h Kn1 => by as_aux_lemma => kernel_rfl)⟩, trivial⟩ (by as_aux_lemma => kernel_rfl) hk
def lK (i : Option Addr) (j : Int) (k : Bool) (l m : Int) (n : Bool) (o p q r s t u : Int) (w : ByteArray) (Q : QT) (h : aA) : Prop :=
 alV h (.cells #[.int .i64 j, .bool k, .int .u64 l, .int .u64 m, .bool n, .int .u64 o, .int .u64 p, .int .i64 q, .int .i64 r] qj) fun a h1 => alV h1 (.cells #[.int .i64 s, .int .i64 t, .int .i64 u, .string w] vE) fun b h2 => ldI h2 a .i64 fun x => ldB h2 (a.add 1) fun y => ldI h2 (a.add 2) .u64 fun z => ldI h2 (a.add 3) .u64 fun A => ldB h2 (a.add 4) fun B => ldI h2 (a.add 5) .u64 fun C => ldI h2 (a.add 6) .u64 fun D => ldI h2 (a.add 7) .i64 fun G => ldI h2 (a.add 8) .i64 fun I => ldI h2 b .i64 fun J => ldI h2 (b.add 1) .i64 fun L => aD Tryz.prog je #[.pointer i, .agg #[.int .i64 x, .bool y, .int .u64 z, .int .u64 A, .bool B, .int .u64 C, .int .u64 D, .int .i64 G, .int .i64 I], .int .i64 J, .int .i64 L] h2 fun v h3 => ∃ c, v = .pointer c ∧ ldS h3 (b.add 3) fun M => aD Tryz.prog gB #[.pointer c, .string M] h3 fun v h4 => v = .tuple #[] ∧ aD Tryz.prog eO #[.pointer c] h4 fun v h5 => ∃ d f g, v = .slice d f g ∧ Q (.slice d f g) h5
set_option maxRecDepth 100000 in
theorem qU (a b c d f g i j k l m n o p : _) {Q : QT} {h : aA} (hk : lK a b c d f g i j k l m n o p Q h) : aD Tryz.prog iK #[.pointer a, .agg #[.int .i64 b, .bool c, .int .u64 d, .int .u64 f, .bool g, .int .u64 i, .int .u64 j, .int .i64 k, .int .i64 l], .agg #[.int .i64 m, .int .i64 n, .int .i64 o, .string p]] h Q :=
 aU follows Tryz.func20 (Tryz.call20 _) rfl rfl [] []
 trivial
 trivial (by as_aux_lemma => kernel_rfl) hk
def gT (a : Addr) (Q : QT) (h : aA) : Prop :=
 stN h a [.int .i64 0, .int .i64 0, .slice none 0 0, .slice none 0 0, .slice none 0 0, .slice none 0 0, .bool false, .int .i64 0, .int .i64 0, .int .i64 0, .string (⟨#[]⟩ : ByteArray), .int .i64 0, .int .i64 0, .slice none 0 0, .slice none 0 0, .slice none 0 0, .slice none 0 0, .int .i64 0, .int .i64 0, .int .i64 0, .int .i64 0, .slice none 0 0, .slice none 0 0, .slice none 0 0, .slice none 0 0] 0 fun h5 => ldI h5 a .i64 fun b => ldI h5 (a.add 1) .i64 fun c => ldL h5 (a.add 2) fun d f g => ldL h5 (a.add 3) fun i j k => ldL h5 (a.add 4) fun l m n => ldL h5 (a.add 5) fun o p q => ldB h5 (a.add 6) fun r => ldI h5 (a.add 7) .i64 fun s => ldI h5 (a.add 8) .i64 fun t => ldI h5 (a.add 9) .i64 fun u => ldS h5 (a.add 10) fun w => ldI h5 (a.add 11) .i64 fun x => ldI h5 (a.add 12) .i64 fun y => ldL h5 (a.add 13) fun z A B => ldL h5 (a.add 14) fun C D G => ldL h5 (a.add 15) fun I J L => ldL h5 (a.add 16) fun M N O => ldI h5 (a.add 17) .i64 fun P => ldI h5 (a.add 18) .i64 fun R => ldI h5 (a.add 19) .i64 fun S => ldI h5 (a.add 20) .i64 fun U => ldL h5 (a.add 21) fun V W X => ldL h5 (a.add 22) fun Y Z a0 => ldL h5 (a.add 23) fun a1 a2 a3 => ldL h5 (a.add 24) fun a4 a5 a6 => Q (.tuple #[.agg #[.int .i64 b, .int .i64 c, .slice d f g, .slice i j k, .slice l m n, .slice o p q, .bool r, .int .i64 s, .int .i64 t, .int .i64 u, .string w, .int .i64 x, .int .i64 y, .slice z A B, .slice C D G, .slice I J L, .slice M N O, .int .i64 P, .int .i64 R, .int .i64 S, .int .i64 U, .slice V W X, .slice Y Z a0, .slice a1 a2 a3, .slice a4 a5 a6], .bool false]) h5
def ql (d : Option Addr) (a : Int) (Q : QT) (h : aA) : Prop :=
 alV h (.cells #[.int .i64 0, .int .i64 0, .slice none 0 0, .slice none 0 0, .slice none 0 0, .slice none 0 0, .bool false, .int .i64 0, .int .i64 0, .int .i64 0, .string (⟨#[]⟩ : ByteArray), .int .i64 0, .int .i64 0, .slice none 0 0, .slice none 0 0, .slice none 0 0, .slice none 0 0, .int .i64 0, .int .i64 0, .int .i64 0, .int .i64 0, .slice none 0 0, .slice none 0 0, .slice none 0 0, .slice none 0 0] bU) fun b h1 => if (decide (a < 0)) = true then (gT b Q h1) else (aD Tryz.prog iB #[.pointer d] h1 fun v h2 => ∃ f, v = .int .i64 f ∧ if (decide (a ≥ f)) = true then (gT b Q h2) else (nn d fun ab => ldL h2 ab fun ac ad d9 => bQ a ad (nn ac fun c => ldI h2 (c.add (a.toNat * 25)) .i64 fun ae => ldI h2 ((c.add (a.toNat * 25)).add 1) .i64 fun af => ldL h2 ((c.add (a.toNat * 25)).add 2) fun ag ah ai => ldL h2 ((c.add (a.toNat * 25)).add 3) fun aj ak al => ldL h2 ((c.add (a.toNat * 25)).add 4) fun am an ao => ldL h2 ((c.add (a.toNat * 25)).add 5) fun ap aq ar => ldB h2 ((c.add (a.toNat * 25)).add 6) fun au => ldI h2 ((c.add (a.toNat * 25)).add 7) .i64 fun av => ldI h2 ((c.add (a.toNat * 25)).add 8) .i64 fun aw => ldI h2 ((c.add (a.toNat * 25)).add 9) .i64 fun ax => ldS h2 ((c.add (a.toNat * 25)).add 10) fun ay => ldI h2 ((c.add (a.toNat * 25)).add 11) .i64 fun az => ldI h2 ((c.add (a.toNat * 25)).add 12) .i64 fun b0 => ldL h2 ((c.add (a.toNat * 25)).add 13) fun b1 b2 b3 => ldL h2 ((c.add (a.toNat * 25)).add 14) fun b4 b5 b6 => ldL h2 ((c.add (a.toNat * 25)).add 15) fun b7 b8 b9 => ldL h2 ((c.add (a.toNat * 25)).add 16) fun ba bb bc => ldI h2 ((c.add (a.toNat * 25)).add 17) .i64 fun bd => ldI h2 ((c.add (a.toNat * 25)).add 18) .i64 fun bf => ldI h2 ((c.add (a.toNat * 25)).add 19) .i64 fun bg => ldI h2 ((c.add (a.toNat * 25)).add 20) .i64 fun bh => ldL h2 ((c.add (a.toNat * 25)).add 21) fun bi bj bk => ldL h2 ((c.add (a.toNat * 25)).add 22) fun bl bm bn => ldL h2 ((c.add (a.toNat * 25)).add 23) fun bo bp bq => ldL h2 ((c.add (a.toNat * 25)).add 24) fun br bt bu => aD Tryz.prog kw #[.agg #[.int .i64 ae, .int .i64 af, .slice ag ah ai, .slice aj ak al, .slice am an ao, .slice ap aq ar, .bool au, .int .i64 av, .int .i64 aw, .int .i64 ax, .string ay, .int .i64 az, .int .i64 b0, .slice b1 b2 b3, .slice b4 b5 b6, .slice b7 b8 b9, .slice ba bb bc, .int .i64 bd, .int .i64 bf, .int .i64 bg, .int .i64 bh, .slice bi bj bk, .slice bl bm bn, .slice bo bp bq, .slice br bt bu]] h2 fun v h3 => ∃ g i j k l m n o p q r s t u w x y z A B C D G I J L M N O P R S U V W X Y Z a0 a1 a2 a3 a4 a5 a6 a7 a8 a9 aa, v = .agg #[.int .i64 g, .int .i64 i, .slice j k l, .slice m n o, .slice p q r, .slice s t u, .bool w, .int .i64 x, .int .i64 y, .int .i64 z, .string A, .int .i64 B, .int .i64 C, .slice D G I, .slice J L M, .slice N O P, .slice R S U, .int .i64 V, .int .i64 W, .int .i64 X, .int .i64 Y, .slice Z a0 a1, .slice a2 a3 a4, .slice a5 a6 a7, .slice a8 a9 aa] ∧ stN h3 b [.int .i64 g, .int .i64 i, .slice j k l, .slice m n o, .slice p q r, .slice s t u, .bool w, .int .i64 x, .int .i64 y, .int .i64 z, .string A, .int .i64 B, .int .i64 C, .slice D G I, .slice J L M, .slice N O P, .slice R S U, .int .i64 V, .int .i64 W, .int .i64 X, .int .i64 Y, .slice Z a0 a1, .slice a2 a3 a4, .slice a5 a6 a7, .slice a8 a9 aa] 0 fun h4 => ldI h4 b .i64 fun bv => ldI h4 (b.add 1) .i64 fun bw => ldL h4 (b.add 2) fun bx bz c0 => ldL h4 (b.add 3) fun c1 c2 c3 => ldL h4 (b.add 4) fun c4 c5 c6 => ldL h4 (b.add 5) fun c7 c8 c9 => ldB h4 (b.add 6) fun ca => ldI h4 (b.add 7) .i64 fun cb => ldI h4 (b.add 8) .i64 fun cc => ldI h4 (b.add 9) .i64 fun cd => ldS h4 (b.add 10) fun ce => ldI h4 (b.add 11) .i64 fun cf => ldI h4 (b.add 12) .i64 fun cg => ldL h4 (b.add 13) fun ch ci cj => ldL h4 (b.add 14) fun ck cl cm => ldL h4 (b.add 15) fun cn co cp => ldL h4 (b.add 16) fun cq cr cs => ldI h4 (b.add 17) .i64 fun ct => ldI h4 (b.add 18) .i64 fun cu => ldI h4 (b.add 19) .i64 fun cv => ldI h4 (b.add 20) .i64 fun cw => ldL h4 (b.add 21) fun cx cy cz => ldL h4 (b.add 22) fun d0 d1 d2 => ldL h4 (b.add 23) fun d3 d4 d5 => ldL h4 (b.add 24) fun d6 d7 d8 => Q (.tuple #[.agg #[.int .i64 bv, .int .i64 bw, .slice bx bz c0, .slice c1 c2 c3, .slice c4 c5 c6, .slice c7 c8 c9, .bool ca, .int .i64 cb, .int .i64 cc, .int .i64 cd, .string ce, .int .i64 cf, .int .i64 cg, .slice ch ci cj, .slice ck cl cm, .slice cn co cp, .slice cq cr cs, .int .i64 ct, .int .i64 cu, .int .i64 cv, .int .i64 cw, .slice cx cy cz, .slice d0 d1 d2, .slice d3 d4 d5, .slice d6 d7 d8], .bool true]) h4)))
set_option maxRecDepth 100000 in
theorem vn (a b : _) {Q : QT} {h : aA} (hk : ql a b Q h) : aD Tryz.prog lF #[.pointer a, .int .i64 b] h Q :=
 aU follows Tryz.func21 (Tryz.call21 _) rfl rfl [(7, fun e h => dA (e 4) fun c => gT c Q h)] []
 ⟨fun e h _ hk => by
 have F := Ag.nil (e := e)
 have ⟨c, F, hk⟩ := eA F hk
 exact jj F (by as_aux_lemma => kernel_rfl) hk, trivial⟩
 trivial (by as_aux_lemma => kernel_rfl) hk
def qy (a : Option Addr) (Q : QT) (h : aA) : Prop :=
 if (Option.isNone a) = true then (Q (.int .i64 0) h) else (nn a fun b => ldL h b fun d c f => Q (.int .i64 ((c : Nat) : Int)) h)
set_option maxRecDepth 100000 in
theorem wh (a : _) {Q : QT} {h : aA} (hk : qy a Q h) : aD Tryz.prog iB #[.pointer a] h Q :=
 aU follows Tryz.func22 (Tryz.call22 _) rfl rfl [] []
 trivial
 trivial (by as_aux_lemma => kernel_rfl) hk
def nU (d : Option Addr) (f k : Nat) (g : Int) (Q : QT) (b : ByteArray) (a : Int) (h : aA) (Kn1 : ByteArray × Int → aA → Prop) : Prop :=
 if (decide (a < g)) = true then (bQ a f (nn d fun i => ldI h (i.add (a.toNat * 1)) .i64 fun j => aD Tryz.prog ma #[.int .i64 j, .string b] h fun v h1 => ∃ c, v = .string c ∧ Kn1 (c, wrap .i64 (a + 1)) h1)) else (Q (.string b) h)
def sM (c : Option Addr) (a d : Nat) (f : ByteArray) (Q : QT) (h : aA) : Prop :=
 fX 1 c a d none (some (if (4 : Int) < ((a : Nat) : Int) then (4 : Int) else ((a : Nat) : Int))) none fun g b i => aJ (fun (s : ByteArray × Int) h Kn => nU g b i ((b : Nat) : Int) Q s.1 s.2 h Kn) (f, 0) h
set_option maxRecDepth 100000 in
theorem xq (c d f a : _) {Q : QT} {h : aA} (hk : sM c d f a Q h) : aD Tryz.prog nZ #[.slice c d f, .string a] h Q :=
 aU follows Tryz.func27 (Tryz.call27 _) rfl rfl [] [(6, fun e h => dL (e 11) fun g i j => dI .i64 (e 12) fun k => dS (e 1) fun a => dI .i64 (e 13) fun b => aJ (fun (s : ByteArray × Int) h Kn => nU g i j k Q s.1 s.2 h Kn) (a, b) h)]
 trivial
 ⟨⟨by kernel_rfl, fun e h he hk => by
 have F := Ag.nil (e := e)
 have ⟨g, i, j, F, hk⟩ := eL F hk
 have ⟨k, F, hk⟩ := eI F hk
 have ⟨a, F, hk⟩ := eS F hk
 have ⟨b, F, hk⟩ := eI F hk
 exact cE (s0 := (a, b)) follows (fun _ h => by cases h) he F (fun s => [(13, .int .i64 s.2), (1, .string s.1)]) (by kernel_rfl) (F.take 2) hk (fun Kn1 e h => dS (e 1) fun a => dI .i64 (e 13) fun b => Kn1 (a, b) h) (fun Kn1 e h hk => by
  have F := Ag.nil (e := e)
  have ⟨a, F, hk⟩ := eS F hk
  have ⟨b, F, hk⟩ := eI F hk
  exact ⟨(a, b), F, hk⟩)
  (fun Kn1 => []) (fun Kn1 => [])
  (fun Kn1 => trivial)
  (fun Kn1 => trivial) (fun e s h Kn1 => by as_aux_lemma => kernel_rfl)⟩, trivial⟩ (by as_aux_lemma => kernel_rfl) hk
def pM (a : Addr) (Q : QT) (h : aA) : Prop :=
 ldL h (a.add 14) fun j k l => aD Tryz.prog mZ #[.slice j k l] h fun v h10 => ∃ b, v = .int .i64 b ∧ if (b != 0) = true then (Q (.int .i64 b) h10) else (ldL h10 (a.add 15) fun m n o => aD Tryz.prog pQ #[.slice m n o] h10 fun v h11 => ∃ c, v = .bool c ∧ if (!c) = true then (Q (.int .i64 4) h11) else (ldI h11 a .i64 fun p => ldI h11 (a.add 1) .i64 fun q => ldL h11 (a.add 2) fun r s t => ldL h11 (a.add 3) fun u w x => ldL h11 (a.add 4) fun y z A => ldL h11 (a.add 5) fun B C D => ldB h11 (a.add 6) fun G => ldI h11 (a.add 7) .i64 fun I => ldI h11 (a.add 8) .i64 fun J => ldI h11 (a.add 9) .i64 fun L => ldS h11 (a.add 10) fun M => ldI h11 (a.add 11) .i64 fun N => ldI h11 (a.add 12) .i64 fun O => ldL h11 (a.add 13) fun P R S => ldL h11 (a.add 14) fun U V W => ldL h11 (a.add 15) fun X Y Z => ldL h11 (a.add 16) fun a0 a1 a2 => ldI h11 (a.add 17) .i64 fun a3 => ldI h11 (a.add 18) .i64 fun a4 => ldI h11 (a.add 19) .i64 fun a5 => ldI h11 (a.add 20) .i64 fun a6 => aD Tryz.prog nX #[.agg #[.int .i64 p, .int .i64 q, .slice r s t, .slice u w x, .slice y z A, .slice B C D, .bool G, .int .i64 I, .int .i64 J, .int .i64 L, .string M, .int .i64 N, .int .i64 O, .slice P R S, .slice U V W, .slice X Y Z, .slice a0 a1 a2, .int .i64 a3, .int .i64 a4, .int .i64 a5, .int .i64 a6]] h11 fun v h12 => ∃ d, v = .bool d ∧ if (!d) = true then (Q (.int .i64 4) h12) else (ldL h12 (a.add 2) fun a7 a8 a9 => aD Tryz.prog kD #[.slice a7 a8 a9] h12 fun v h13 => ∃ f, v = .bool f ∧ if (!f) = true then (Q (.int .i64 2) h13) else (ldL h13 (a.add 3) fun aa ab ac => aD Tryz.prog kD #[.slice aa ab ac] h13 fun v h14 => ∃ g, v = .bool g ∧ if (!g) = true then (Q (.int .i64 2) h14) else (ldL h14 (a.add 14) fun ad ae af => aD Tryz.prog qM #[.slice ad ae af] h14 fun v h15 => ∃ i, v = .bool i ∧ if (!i) = true then (Q (.int .i64 2) h15) else (ldL h15 (a.add 14) fun ai ag aj => ldL h15 (a.add 15) fun ak ah al => if ((wrap .i64 (((ag : Nat) : Int) + ((ah : Nat) : Int))) == 0) = true then (Q (.int .i64 2) h15) else (Q (.int .i64 0) h15)))))))
def qm (b : Addr) (Q : QT) (a : Int) (h : aA) (Kn1 : Int → aA → Prop) : Prop :=
 ldL h (b.add 13) fun n c o => if (decide (a < ((c : Nat) : Int))) = true then (ldL h (b.add 13) fun d f p => bQ a f (nn d fun g => ldI h (g.add (a.toNat * 1)) .i64 fun i => if (decide (i < 1)) = true then (Q (.int .i64 4) h) else (ldL h (b.add 13) fun j k q => bQ a k (nn j fun l => ldI h (l.add (a.toNat * 1)) .i64 fun m => if (decide (m > 6)) = true then (Q (.int .i64 4) h) else (Kn1 (wrap .i64 (a + 1)) h))))) else (pM b Q h)
def vd (l m : Int) (n : Option Addr) (o p : Nat) (q : Option Addr) (r t : Nat) (u : Option Addr) (w x : Nat) (y : Option Addr) (z A : Nat) (B : Bool) (C D G : Int) (I : ByteArray) (J L : Int) (M : Option Addr) (N O : Nat) (P : Option Addr) (R S : Nat) (U : Option Addr) (V W : Nat) (X : Option Addr) (Y Z : Nat) (a0 a1 a2 a3 : Int) (Q : QT) (h : aA) : Prop :=
 alV h (.cells #[.int .i64 l, .int .i64 m, .slice n o p, .slice q r t, .slice u w x, .slice y z A, .bool B, .int .i64 C, .int .i64 D, .int .i64 G, .string I, .int .i64 J, .int .i64 L, .slice M N O, .slice P R S, .slice U V W, .slice X Y Z, .int .i64 a0, .int .i64 a1, .int .i64 a2, .int .i64 a3] cO) fun a h1 => ldI h1 a .i64 fun a4 => ldI h1 (a.add 1) .i64 fun a5 => ldL h1 (a.add 2) fun a6 a7 a8 => ldL h1 (a.add 3) fun a9 aa ab => ldL h1 (a.add 4) fun ac ad ae => ldL h1 (a.add 5) fun af ag ah => ldB h1 (a.add 6) fun ai => ldI h1 (a.add 7) .i64 fun aj => ldI h1 (a.add 8) .i64 fun ak => ldI h1 (a.add 9) .i64 fun al => ldS h1 (a.add 10) fun am => ldI h1 (a.add 11) .i64 fun an => ldI h1 (a.add 12) .i64 fun ao => ldL h1 (a.add 13) fun ap aq ar => ldL h1 (a.add 14) fun au av aw => ldL h1 (a.add 15) fun ax ay az => ldL h1 (a.add 16) fun b0 b1 b2 => ldI h1 (a.add 17) .i64 fun b3 => ldI h1 (a.add 18) .i64 fun b4 => ldI h1 (a.add 19) .i64 fun b5 => ldI h1 (a.add 20) .i64 fun b6 => aD Tryz.prog pI #[.agg #[.int .i64 a4, .int .i64 a5, .slice a6 a7 a8, .slice a9 aa ab, .slice ac ad ae, .slice af ag ah, .bool ai, .int .i64 aj, .int .i64 ak, .int .i64 al, .string am, .int .i64 an, .int .i64 ao, .slice ap aq ar, .slice au av aw, .slice ax ay az, .slice b0 b1 b2, .int .i64 b3, .int .i64 b4, .int .i64 b5, .int .i64 b6]] h1 fun v h2 => ∃ b, v = .bool b ∧ if (!b) = true then (Q (.int .i64 4) h2) else (ldI h2 a .i64 fun b7 => ldI h2 (a.add 1) .i64 fun b8 => ldL h2 (a.add 2) fun b9 ba bb => ldL h2 (a.add 3) fun bc bd bf => ldL h2 (a.add 4) fun bg bh bi => ldL h2 (a.add 5) fun bj bk bl => ldB h2 (a.add 6) fun bm => ldI h2 (a.add 7) .i64 fun bn => ldI h2 (a.add 8) .i64 fun bo => ldI h2 (a.add 9) .i64 fun bp => ldS h2 (a.add 10) fun bq => ldI h2 (a.add 11) .i64 fun br => ldI h2 (a.add 12) .i64 fun bt => ldL h2 (a.add 13) fun bu bv bw => ldL h2 (a.add 14) fun bx bz c0 => ldL h2 (a.add 15) fun c1 c2 c3 => ldL h2 (a.add 16) fun c4 c5 c6 => ldI h2 (a.add 17) .i64 fun c7 => ldI h2 (a.add 18) .i64 fun c8 => ldI h2 (a.add 19) .i64 fun c9 => ldI h2 (a.add 20) .i64 fun ca => aD Tryz.prog qp #[.agg #[.int .i64 b7, .int .i64 b8, .slice b9 ba bb, .slice bc bd bf, .slice bg bh bi, .slice bj bk bl, .bool bm, .int .i64 bn, .int .i64 bo, .int .i64 bp, .string bq, .int .i64 br, .int .i64 bt, .slice bu bv bw, .slice bx bz c0, .slice c1 c2 c3, .slice c4 c5 c6, .int .i64 c7, .int .i64 c8, .int .i64 c9, .int .i64 ca]] h2 fun v h3 => ∃ c, v = .bool c ∧ if (!c) = true then (Q (.int .i64 13) h3) else (ldI h3 a .i64 fun cb => ldI h3 (a.add 1) .i64 fun cc => ldL h3 (a.add 2) fun cd ce cf => ldL h3 (a.add 3) fun cg ch ci => ldL h3 (a.add 4) fun cj ck cl => ldL h3 (a.add 5) fun cm cn co => ldB h3 (a.add 6) fun cp => ldI h3 (a.add 7) .i64 fun cq => ldI h3 (a.add 8) .i64 fun cr => ldI h3 (a.add 9) .i64 fun cs => ldS h3 (a.add 10) fun ct => ldI h3 (a.add 11) .i64 fun cu => ldI h3 (a.add 12) .i64 fun cv => ldL h3 (a.add 13) fun cw cx cy => ldL h3 (a.add 14) fun cz d0 d1 => ldL h3 (a.add 15) fun d2 d3 d4 => ldL h3 (a.add 16) fun d5 d6 d7 => ldI h3 (a.add 17) .i64 fun d8 => ldI h3 (a.add 18) .i64 fun d9 => ldI h3 (a.add 19) .i64 fun da => ldI h3 (a.add 20) .i64 fun db => aD Tryz.prog pL #[.agg #[.int .i64 cb, .int .i64 cc, .slice cd ce cf, .slice cg ch ci, .slice cj ck cl, .slice cm cn co, .bool cp, .int .i64 cq, .int .i64 cr, .int .i64 cs, .string ct, .int .i64 cu, .int .i64 cv, .slice cw cx cy, .slice cz d0 d1, .slice d2 d3 d4, .slice d5 d6 d7, .int .i64 d8, .int .i64 d9, .int .i64 da, .int .i64 db]] h3 fun v h4 => ∃ d, v = .bool d ∧ if (!d) = true then (Q (.int .i64 3) h4) else (ldL h4 (a.add 2) fun dc dd de => aD Tryz.prog jV #[.slice dc dd de] h4 fun v h5 => ∃ f, v = .bool f ∧ if (!f) = true then (Q (.int .i64 5) h5) else (ldL h5 (a.add 3) fun df dg dh => aD Tryz.prog jV #[.slice df dg dh] h5 fun v h6 => ∃ g, v = .bool g ∧ if (!g) = true then (Q (.int .i64 5) h6) else (ldL h6 (a.add 4) fun di dj dk => aD Tryz.prog jO #[.slice di dj dk] h6 fun v h7 => ∃ i, v = .bool i ∧ if (!i) = true then (Q (.int .i64 5) h7) else (ldL h7 (a.add 5) fun dl dm dn => aD Tryz.prog jO #[.slice dl dm dn] h7 fun v h8 => ∃ j, v = .bool j ∧ if (!j) = true then (Q (.int .i64 5) h8) else (ldL h8 (a.add 16) fun dp dq dr => aD Tryz.prog l6 #[.slice dp dq dr] h8 fun v h9 => ∃ k, v = .bool k ∧ if (!k) = true then (Q (.int .i64 5) h9) else (aJ (fun (s : Int) h Kn => qm a Q s h Kn) 0 h9))))))))
set_option maxRecDepth 100000 in
theorem zt (c d f g i j k l m n o p q r t u w x y z A B C D G I J L M N O P R S U V W : _) {Q : QT} {h : aA} (hk : vd c d f g i j k l m n o p q r t u w x y z A B C D G I J L M N O P R S U V W Q h) : aD Tryz.prog pF #[.agg #[.int .i64 c, .int .i64 d, .slice f g i, .slice j k l, .slice m n o, .slice p q r, .bool t, .int .i64 u, .int .i64 w, .int .i64 x, .string y, .int .i64 z, .int .i64 A, .slice B C D, .slice G I J, .slice L M N, .slice O P R, .int .i64 S, .int .i64 U, .int .i64 V, .int .i64 W]] h Q :=
 aU follows Tryz.func28 (Tryz.call28 _) rfl rfl [(30, fun e h => dA (e 1) fun b => pM b Q h)] [(22, fun e h => dA (e 1) fun b => dI .i64 (e 3) fun a => aJ (fun (s : Int) h Kn => qm b Q s h Kn) a h)]
 ⟨fun e h _ hk => by
 have F := Ag.nil (e := e)
 have ⟨b, F, hk⟩ := eA F hk
 exact jj F (by as_aux_lemma => kernel_rfl) hk, trivial⟩
 ⟨⟨by kernel_rfl, fun e h he hk => by
 have F := Ag.nil (e := e)
 have ⟨b, F, hk⟩ := eA F hk
 have ⟨a, F, hk⟩ := eI F hk
 exact cE (s0 := a) follows (fun _ h => by cases h) he F (fun s => [(3, .int .i64 s)]) (by kernel_rfl) (F.take 1) hk (fun Kn1 e h => dI .i64 (e 3) fun a => Kn1 a h) (fun Kn1 e h hk => by
  have F := Ag.nil (e := e)
  have ⟨a, F, hk⟩ := eI F hk
  exact ⟨a, F, hk⟩)
  (fun Kn1 => []) (fun Kn1 => [])
  (fun Kn1 => trivial)
  (fun Kn1 => trivial) (fun e s h Kn1 => by as_aux_lemma => kernel_rfl)⟩, trivial⟩ (by as_aux_lemma => kernel_rfl) hk
def xc (a7 : Int) (a8 : ByteArray) (Q : QT) (h : aA) : Prop :=
 alV h (.cells #[.int .i64 0, .int .i64 0, .slice none 0 0, .slice none 0 0, .slice none 0 0, .slice none 0 0, .bool false, .int .i64 0, .int .i64 0, .int .i64 0, .string (⟨#[]⟩ : ByteArray), .int .i64 0, .int .i64 0, .slice none 0 0, .slice none 0 0, .slice none 0 0, .slice none 0 0, .int .i64 0, .int .i64 0, .int .i64 0, .int .i64 0, .slice none 0 0, .slice none 0 0, .slice none 0 0, .slice none 0 0] bU) fun a h1 => alV h1 (.cells #[.string a8, .bool false, .bool false, .bool false, .int .i64 0, .int .i64 0, .bool false] jn) fun a9 h2 => aD Tryz.prog qX #[.agg #[.int .i64 1, .int .i64 6, .slice none 0 0, .slice none 0 0, .slice none 0 0, .slice none 0 0, .bool false, .int .i64 a7, .int .i64 1, .int .i64 2, .string (⟨#[]⟩ : ByteArray), .int .i64 0, .int .i64 4, .slice none 0 0, .slice (some a9) 1 1, .slice none 0 0, .slice none 0 0, .int .i64 0, .int .i64 0, .int .i64 0, .int .i64 0]] h2 fun v h3 => ∃ b c d f g i j k l m n o p q r s t u w x y z A B C D G I J L M N O P R S U V W X Y Z a0 a1 a2 a3 a4 a5 a6, v = .agg #[.int .i64 b, .int .i64 c, .slice d f g, .slice i j k, .slice l m n, .slice o p q, .bool r, .int .i64 s, .int .i64 t, .int .i64 u, .string w, .int .i64 x, .int .i64 y, .slice z A B, .slice C D G, .slice I J L, .slice M N O, .int .i64 P, .int .i64 R, .int .i64 S, .int .i64 U, .slice V W X, .slice Y Z a0, .slice a1 a2 a3, .slice a4 a5 a6] ∧ stN h3 a [.int .i64 b, .int .i64 c, .slice d f g, .slice i j k, .slice l m n, .slice o p q, .bool r, .int .i64 s, .int .i64 t, .int .i64 u, .string w, .int .i64 x, .int .i64 y, .slice z A B, .slice C D G, .slice I J L, .slice M N O, .int .i64 P, .int .i64 R, .int .i64 S, .int .i64 U, .slice V W X, .slice Y Z a0, .slice a1 a2 a3, .slice a4 a5 a6] 0 fun h4 => ldI h4 a .i64 fun aa => ldI h4 (a.add 1) .i64 fun ab => ldL h4 (a.add 2) fun ac ad ae => ldL h4 (a.add 3) fun af ag ah => ldL h4 (a.add 4) fun ai aj ak => ldL h4 (a.add 5) fun al am an => ldB h4 (a.add 6) fun ao => ldI h4 (a.add 7) .i64 fun ap => ldI h4 (a.add 8) .i64 fun aq => ldI h4 (a.add 9) .i64 fun ar => ldS h4 (a.add 10) fun au => ldI h4 (a.add 11) .i64 fun av => ldI h4 (a.add 12) .i64 fun aw => ldL h4 (a.add 13) fun ax ay az => ldL h4 (a.add 14) fun b0 b1 b2 => ldL h4 (a.add 15) fun b3 b4 b5 => ldL h4 (a.add 16) fun b6 b7 b8 => ldI h4 (a.add 17) .i64 fun b9 => ldI h4 (a.add 18) .i64 fun ba => ldI h4 (a.add 19) .i64 fun bb => ldI h4 (a.add 20) .i64 fun bc => ldL h4 (a.add 21) fun bd bf bg => ldL h4 (a.add 22) fun bh bi bj => ldL h4 (a.add 23) fun bk bl bm => ldL h4 (a.add 24) fun bn bo bp => Q (.agg #[.int .i64 aa, .int .i64 ab, .slice ac ad ae, .slice af ag ah, .slice ai aj ak, .slice al am an, .bool ao, .int .i64 ap, .int .i64 aq, .int .i64 ar, .string au, .int .i64 av, .int .i64 aw, .slice ax ay az, .slice b0 b1 b2, .slice b3 b4 b5, .slice b6 b7 b8, .int .i64 b9, .int .i64 ba, .int .i64 bb, .int .i64 bc, .slice bd bf bg, .slice bh bi bj, .slice bk bl bm, .slice bn bo bp]) h4
set_option maxRecDepth 100000 in
theorem Co (a b : _) {Q : QT} {h : aA} (hk : xc a b Q h) : aD Tryz.prog mR #[.int .i64 a, .string b] h Q :=
 aU follows Tryz.func29 (Tryz.call29 _) rfl rfl [] []
 trivial
 trivial (by as_aux_lemma => kernel_rfl) hk
def rN (ad ae : Int) (af : Option Addr) (ag ah : Nat) (ai : Option Addr) (aj ak : Nat) (al : Option Addr) (am an : Nat) (ao : Option Addr) (ap aq : Nat) (ar : Bool) (au av aw : Int) (ax : ByteArray) (ay az : Int) (b0 : Option Addr) (b1 b2 : Nat) (b3 : Option Addr) (b4 b5 : Nat) (b6 : Option Addr) (b7 b8 : Nat) (b9 : Option Addr) (ba bb : Nat) (bc bd bf bg : Int) (bh : Option Addr) (bi bj : Nat) (bk : Option Addr) (bl bm : Nat) (bn : Option Addr) (bo bp : Nat) (bq : Option Addr) (br bt : Nat) (Q : QT) (h : aA) : Prop :=
 alV h (.cells #[.int .i64 ad, .int .i64 ae, .slice af ag ah, .slice ai aj ak, .slice al am an, .slice ao ap aq, .bool ar, .int .i64 au, .int .i64 av, .int .i64 aw, .string ax, .int .i64 ay, .int .i64 az, .slice b0 b1 b2, .slice b3 b4 b5, .slice b6 b7 b8, .slice b9 ba bb, .int .i64 bc, .int .i64 bd, .int .i64 bf, .int .i64 bg, .slice bh bi bj, .slice bk bl bm, .slice bn bo bp, .slice bq br bt] bU) fun a h1 => alV h1 (.cells #[.int .i64 0, .int .i64 0, .slice none 0 0, .slice none 0 0, .slice none 0 0, .slice none 0 0, .bool false, .int .i64 0, .int .i64 0, .int .i64 0, .string (⟨#[]⟩ : ByteArray), .int .i64 0, .int .i64 0, .slice none 0 0, .slice none 0 0, .slice none 0 0, .slice none 0 0, .int .i64 0, .int .i64 0, .int .i64 0, .int .i64 0, .slice none 0 0, .slice none 0 0, .slice none 0 0, .slice none 0 0] bU) fun b h2 => ldL h2 (a.add 2) fun bu bv bw => ldL h2 (a.add 3) fun c d f => aD Tryz.prog bX #[.slice bu bv bw] h2 fun v h3 => ∃ g i j, v = .slice g i j ∧ (ldL h3 (a.add 3) fun bx bz c0 => (.slice bx bz c0 : Value) = .slice c d f) ∧ aD Tryz.prog bX #[.slice c d f] h3 fun v h4 => ∃ k l m, v = .slice k l m ∧ st1 h4 (a.add 2) (.slice g i j) fun h5 => st1 h5 (a.add 3) (.slice k l m) fun h6 => ldL h6 (a.add 4) fun c1 c2 c3 => ldL h6 (a.add 5) fun n o p => aD Tryz.prog bW #[.slice c1 c2 c3] h6 fun v h7 => ∃ q r s, v = .slice q r s ∧ (ldL h7 (a.add 5) fun c4 c5 c6 => (.slice c4 c5 c6 : Value) = .slice n o p) ∧ aD Tryz.prog bW #[.slice n o p] h7 fun v h8 => ∃ t u w, v = .slice t u w ∧ st1 h8 (a.add 4) (.slice q r s) fun h9 => st1 h9 (a.add 5) (.slice t u w) fun h10 => ldL h10 (a.add 13) fun c7 c8 c9 => ldL h10 (a.add 14) fun x y z => aD Tryz.prog cR #[.slice c7 c8 c9] h10 fun v h11 => ∃ A B C, v = .slice A B C ∧ (ldL h11 (a.add 14) fun ca cb cc => (.slice ca cb cc : Value) = .slice x y z) ∧ aD Tryz.prog cP #[.slice x y z] h11 fun v h12 => ∃ D G I, v = .slice D G I ∧ st1 h12 (a.add 13) (.slice A B C) fun h13 => st1 h13 (a.add 14) (.slice D G I) fun h14 => ldL h14 (a.add 15) fun cd ce cf => ldL h14 (a.add 16) fun J L M => aD Tryz.prog eu #[.slice cd ce cf] h14 fun v h15 => ∃ N O P, v = .slice N O P ∧ (ldL h15 (a.add 16) fun cg ch ci => (.slice cg ch ci : Value) = .slice J L M) ∧ aD Tryz.prog cY #[.slice J L M] h15 fun v h16 => ∃ R S U, v = .slice R S U ∧ st1 h16 (a.add 15) (.slice N O P) fun h17 => st1 h17 (a.add 16) (.slice R S U) fun h18 => ldL h18 (a.add 21) fun cj ck cl => ldL h18 (a.add 22) fun V W X => aD Tryz.prog cH #[.slice cj ck cl] h18 fun v h19 => ∃ Y Z a0, v = .slice Y Z a0 ∧ (ldL h19 (a.add 22) fun cm cn co => (.slice cm cn co : Value) = .slice V W X) ∧ aD Tryz.prog cH #[.slice V W X] h19 fun v h20 => ∃ a1 a2 a3, v = .slice a1 a2 a3 ∧ st1 h20 (a.add 21) (.slice Y Z a0) fun h21 => st1 h21 (a.add 22) (.slice a1 a2 a3) fun h22 => ldL h22 (a.add 23) fun cp cq cr => ldL h22 (a.add 24) fun a4 a5 a6 => aD Tryz.prog cM #[.slice cp cq cr] h22 fun v h23 => ∃ a7 a8 a9, v = .slice a7 a8 a9 ∧ (ldL h23 (a.add 24) fun cs ct cu => (.slice cs ct cu : Value) = .slice a4 a5 a6) ∧ aD Tryz.prog cM #[.slice a4 a5 a6] h23 fun v h24 => ∃ aa ab ac, v = .slice aa ab ac ∧ st1 h24 (a.add 23) (.slice a7 a8 a9) fun h25 => st1 h25 (a.add 24) (.slice aa ab ac) fun h26 => ldI h26 a .i64 fun cv => ldI h26 (a.add 1) .i64 fun cw => ldL h26 (a.add 2) fun cx cy cz => ldL h26 (a.add 3) fun d0 d1 d2 => ldL h26 (a.add 4) fun d3 d4 d5 => ldL h26 (a.add 5) fun d6 d7 d8 => ldB h26 (a.add 6) fun d9 => ldI h26 (a.add 7) .i64 fun da => ldI h26 (a.add 8) .i64 fun db => ldI h26 (a.add 9) .i64 fun dc => ldS h26 (a.add 10) fun dd => ldI h26 (a.add 11) .i64 fun de => ldI h26 (a.add 12) .i64 fun df => ldL h26 (a.add 13) fun dg dh di => ldL h26 (a.add 14) fun dj dk dl => ldL h26 (a.add 15) fun dm dn dp => ldL h26 (a.add 16) fun dq dr dt => ldI h26 (a.add 17) .i64 fun du => ldI h26 (a.add 18) .i64 fun dv => ldI h26 (a.add 19) .i64 fun dw => ldI h26 (a.add 20) .i64 fun dx => ldL h26 (a.add 21) fun dy dz f0 => ldL h26 (a.add 22) fun f1 f2 f3 => ldL h26 (a.add 23) fun f4 f5 f6 => ldL h26 (a.add 24) fun f7 f8 f9 => stN h26 b [.int .i64 cv, .int .i64 cw, .slice cx cy cz, .slice d0 d1 d2, .slice d3 d4 d5, .slice d6 d7 d8, .bool d9, .int .i64 da, .int .i64 db, .int .i64 dc, .string dd, .int .i64 de, .int .i64 df, .slice dg dh di, .slice dj dk dl, .slice dm dn dp, .slice dq dr dt, .int .i64 du, .int .i64 dv, .int .i64 dw, .int .i64 dx, .slice dy dz f0, .slice f1 f2 f3, .slice f4 f5 f6, .slice f7 f8 f9] 0 fun h27 => ldI h27 b .i64 fun fa => ldI h27 (b.add 1) .i64 fun fb => ldL h27 (b.add 2) fun fc fd fe => ldL h27 (b.add 3) fun ff fg fh => ldL h27 (b.add 4) fun fi fj fk => ldL h27 (b.add 5) fun fm fn fo => ldB h27 (b.add 6) fun fp => ldI h27 (b.add 7) .i64 fun fq => ldI h27 (b.add 8) .i64 fun fr => ldI h27 (b.add 9) .i64 fun fs => ldS h27 (b.add 10) fun ft => ldI h27 (b.add 11) .i64 fun fu => ldI h27 (b.add 12) .i64 fun fv => ldL h27 (b.add 13) fun fw fx fy => ldL h27 (b.add 14) fun fz g0 g1 => ldL h27 (b.add 15) fun g2 g3 g4 => ldL h27 (b.add 16) fun g5 g6 g7 => ldI h27 (b.add 17) .i64 fun g8 => ldI h27 (b.add 18) .i64 fun g9 => ldI h27 (b.add 19) .i64 fun ga => ldI h27 (b.add 20) .i64 fun gb => ldL h27 (b.add 21) fun gc gd gf => ldL h27 (b.add 22) fun gg gh gi => ldL h27 (b.add 23) fun gj gk gl => ldL h27 (b.add 24) fun gm gn go => Q (.agg #[.int .i64 fa, .int .i64 fb, .slice fc fd fe, .slice ff fg fh, .slice fi fj fk, .slice fm fn fo, .bool fp, .int .i64 fq, .int .i64 fr, .int .i64 fs, .string ft, .int .i64 fu, .int .i64 fv, .slice fw fx fy, .slice fz g0 g1, .slice g2 g3 g4, .slice g5 g6 g7, .int .i64 g8, .int .i64 g9, .int .i64 ga, .int .i64 gb, .slice gc gd gf, .slice gg gh gi, .slice gj gk gl, .slice gm gn go]) h27
set_option maxRecDepth 100000 in
theorem wH (a b c d f g i j k l m n o p q r s t u w x y z A B C D G I J L M N O P R S U V W X Y Z a0 a1 a2 a3 a4 a5 : _) {Q : QT} {h : aA} (hk : rN a b c d f g i j k l m n o p q r s t u w x y z A B C D G I J L M N O P R S U V W X Y Z a0 a1 a2 a3 a4 a5 Q h) : aD Tryz.prog kw #[.agg #[.int .i64 a, .int .i64 b, .slice c d f, .slice g i j, .slice k l m, .slice n o p, .bool q, .int .i64 r, .int .i64 s, .int .i64 t, .string u, .int .i64 w, .int .i64 x, .slice y z A, .slice B C D, .slice G I J, .slice L M N, .int .i64 O, .int .i64 P, .int .i64 R, .int .i64 S, .slice U V W, .slice X Y Z, .slice a0 a1 a2, .slice a3 a4 a5]] h Q :=
 aU follows Tryz.func30 (Tryz.call30 _) rfl rfl [] []
 trivial
 trivial (by as_aux_lemma => kernel_rfl) hk
def fC (t : Option Addr) (u w : Nat) (x : Int) (a : Addr) (b : Int) (M : Option Addr) (N O : Nat) (P y : Int) (Q : QT) (Kn1 : (Option Addr) × Nat × Nat × Int → aA → Prop) (h : aA) : Prop :=
 ldL h (a.add 3) fun c d j => ldL h (a.add 3) fun k l z => bQ b l (nn k fun m => ldL h (m.add (b.toNat * 1)) fun n o p => alV h (.cells #[.int .i64 x] qd) fun A h20 => (ldL h20 (a.add 3) fun f g i => (.slice f g i : Value) = .slice c d j) ∧ (ldL h20 (a.add 3) fun B C D => (.slice B C D : Value) = .slice k l z) ∧ (ldL h20 (m.add (b.toNat * 1)) fun G I J => (.slice G I J : Value) = .slice n o p) ∧ dN Tryz.prog .append #[bK, bK] bK #[false, false] #[.slice n o p, .slice (some A) 1 1] h20 fun v h21 => ∃ q r s, v = .slice q r s ∧ (ldL h21 (a.add 3) fun f g i => (.slice f g i : Value) = .slice c d j) ∧ bQ b d (nn c fun L => st1 h21 (L.add (b.toNat * 1)) (.slice q r s) fun h22 => Kn1 (t, u, w, wrap .i64 (y + 1)) h22))
def fE (d : Option Addr) (f j : Nat) (k : Int) (a : Addr) (b : Int) (m : Option Addr) (n o : Nat) (p l : Int) (Q : QT) (Kn1 : (Option Addr) × Nat × Nat × Int → aA → Prop) (h : aA) : Prop :=
 bQ b f (nn d fun c => ldI h a .i64 fun J => ldI h (a.add 1) .i64 fun L => ldL h (a.add 2) fun M N O => ldL h (a.add 3) fun P R S => ldL h (a.add 4) fun U V W => ldL h (a.add 5) fun X Y Z => ldB h (a.add 6) fun a0 => ldI h (a.add 7) .i64 fun a1 => ldI h (a.add 8) .i64 fun a2 => ldI h (a.add 9) .i64 fun a3 => ldS h (a.add 10) fun a4 => ldI h (a.add 11) .i64 fun a5 => ldI h (a.add 12) .i64 fun a6 => ldL h (a.add 13) fun a7 a8 a9 => ldL h (a.add 14) fun aa ab ac => ldL h (a.add 15) fun ad ae af => ldL h (a.add 16) fun ag ah ai => ldI h (a.add 17) .i64 fun aj => ldI h (a.add 18) .i64 fun ak => ldI h (a.add 19) .i64 fun al => ldI h (a.add 20) .i64 fun am => aD Tryz.prog jS #[.agg #[.int .i64 J, .int .i64 L, .slice M N O, .slice P R S, .slice U V W, .slice X Y Z, .bool a0, .int .i64 a1, .int .i64 a2, .int .i64 a3, .string a4, .int .i64 a5, .int .i64 a6, .slice a7 a8 a9, .slice aa ab ac, .slice ad ae af, .slice ag ah ai, .int .i64 aj, .int .i64 ak, .int .i64 al, .int .i64 am]] h fun v h7 => ∃ q r s, v = .tuple #[.agg #[.string q, .bool r], .bool s] ∧ alV h7 (.cells #[.string (⟨#[]⟩ : ByteArray), .bool false] bC) fun g h8 => stN h8 g [.string q, .bool r] 0 fun h9 => if (!s) = true then (ldL h9 ((c.add (b.toNat * 5)).add 4) fun an ao ap => alV h9 (.cells #[.int .i64 k] qd) fun aq h10 => dN Tryz.prog .append #[bK, bK] bK #[false, false] #[.slice an ao ap, .slice (some aq) 1 1] h10 fun v h11 => ∃ t u w, v = .slice t u w ∧ st1 h11 ((c.add (b.toNat * 5)).add 4) (.slice t u w) fun h12 => Kn1 (d, f, j, wrap .i64 (l + 1)) h12) else (ldL h9 ((c.add (b.toNat * 5)).add 2) fun ar au av => aD Tryz.prog eZ #[.slice ar au av, .func (.func 79) #[] #[.pointer (some g)]] h9 fun v h13 => ∃ i, v = .int .i64 i ∧ ldL h13 ((c.add (b.toNat * 5)).add 2) fun b7 aw b8 => if (i == ((aw : Nat) : Int)) = true then (ldL h13 ((c.add (b.toNat * 5)).add 2) fun x y z => ldS h13 g fun ax => ldB h13 (g.add 1) fun ay => alV h13 (.cells #[.string ax, .bool ay] bC) fun az h14 => (ldL h14 ((c.add (b.toNat * 5)).add 2) fun b0 b1 b2 => (.slice b0 b1 b2 : Value) = .slice x y z) ∧ dN Tryz.prog .append #[dZ, dZ] dZ #[false, false] #[.slice x y z, .slice (some az) 1 1] h14 fun v h15 => ∃ A B C, v = .slice A B C ∧ st1 h15 ((c.add (b.toNat * 5)).add 2) (.slice A B C) fun h16 => ldL h16 ((c.add (b.toNat * 5)).add 3) fun b3 b4 b5 => alV h16 (.cells #[.slice none 0 0] bK) fun b6 h17 => dN Tryz.prog .append #[qG, qG] qG #[false, false] #[.slice b3 b4 b5, .slice (some b6) 1 1] h17 fun v h18 => ∃ D G I, v = .slice D G I ∧ st1 h18 ((c.add (b.toNat * 5)).add 3) (.slice D G I) fun h19 => fC d f j k (c.add (b.toNat * 5)) i m n o p l Q Kn1 h19) else (fC d f j k (c.add (b.toNat * 5)) i m n o p l Q Kn1 h13)))
def kj (j : Option Addr) (k m : Nat) (l : Int) (Q : QT) (f : Option Addr) (d g : Nat) (a : Int) (h : aA) (Kn1 : (Option Addr) × Nat × Nat × Int → aA → Prop) : Prop :=
 if (decide (a < l)) = true then (bQ a k (nn j fun b => ldI h (b.add (a.toNat * 21)) .i64 fun u => ldI h ((b.add (a.toNat * 21)).add 1) .i64 fun w => ldL h ((b.add (a.toNat * 21)).add 2) fun x y z => ldL h ((b.add (a.toNat * 21)).add 3) fun A B C => ldL h ((b.add (a.toNat * 21)).add 4) fun D G I => ldL h ((b.add (a.toNat * 21)).add 5) fun J L M => ldB h ((b.add (a.toNat * 21)).add 6) fun N => ldI h ((b.add (a.toNat * 21)).add 7) .i64 fun O => ldI h ((b.add (a.toNat * 21)).add 8) .i64 fun P => ldI h ((b.add (a.toNat * 21)).add 9) .i64 fun R => ldS h ((b.add (a.toNat * 21)).add 10) fun S => ldI h ((b.add (a.toNat * 21)).add 11) .i64 fun U => ldI h ((b.add (a.toNat * 21)).add 12) .i64 fun V => ldL h ((b.add (a.toNat * 21)).add 13) fun W X Y => ldL h ((b.add (a.toNat * 21)).add 14) fun Z a0 a1 => ldL h ((b.add (a.toNat * 21)).add 15) fun a2 a3 a4 => ldL h ((b.add (a.toNat * 21)).add 16) fun a5 a6 a7 => ldI h ((b.add (a.toNat * 21)).add 17) .i64 fun a8 => ldI h ((b.add (a.toNat * 21)).add 18) .i64 fun a9 => ldI h ((b.add (a.toNat * 21)).add 19) .i64 fun aa => ldI h ((b.add (a.toNat * 21)).add 20) .i64 fun ab => alV h (.cells #[.int .i64 0, .int .i64 0, .slice none 0 0, .slice none 0 0, .slice none 0 0, .slice none 0 0, .bool false, .int .i64 0, .int .i64 0, .int .i64 0, .string (⟨#[]⟩ : ByteArray), .int .i64 0, .int .i64 0, .slice none 0 0, .slice none 0 0, .slice none 0 0, .slice none 0 0, .int .i64 0, .int .i64 0, .int .i64 0, .int .i64 0] cO) fun c h1 => stN h1 c [.int .i64 u, .int .i64 w, .slice x y z, .slice A B C, .slice D G I, .slice J L M, .bool N, .int .i64 O, .int .i64 P, .int .i64 R, .string S, .int .i64 U, .int .i64 V, .slice W X Y, .slice Z a0 a1, .slice a2 a3 a4, .slice a5 a6 a7, .int .i64 a8, .int .i64 a9, .int .i64 aa, .int .i64 ab] 0 fun h2 => aD Tryz.prog fQ #[.slice f d g, .func (.func 75) #[] #[.pointer (some c)]] h2 fun v h3 => ∃ i, v = .int .i64 i ∧ if (i == ((d : Nat) : Int)) = true then (ldI h3 (c.add 12) .i64 fun n => ldL h3 (c.add 13) fun ac ad ae => aD Tryz.prog cR #[.slice ac ad ae] h3 fun v h4 => ∃ o p q, v = .slice o p q ∧ (ldI h4 (c.add 12) .i64 fun af => (.int .i64 af : Value) = .int .i64 n) ∧ alV h4 (.cells #[.int .i64 n, .slice o p q, .slice none 0 0, .slice none 0 0, .slice none 0 0] mw) fun ag h5 => dN Tryz.prog .append #[mO, mO] mO #[false, false] #[.slice f d g, .slice (some ag) 1 1] h5 fun v h6 => ∃ r s t, v = .slice r s t ∧ fE r s t a c i j k m l a Q Kn1 h6) else (fE f d g a c i j k m l a Q Kn1 h3))) else (Q (.slice f d g) h)
def oG (b : Option Addr) (a c : Nat) (Q : QT) (h : aA) : Prop :=
 aJ (fun (s : (Option Addr) × Nat × Nat × Int) h Kn => kj b a c ((a : Nat) : Int) Q s.1 s.2.1 s.2.2.1 s.2.2.2 h Kn) (none, 0, 0, 0) h
set_option maxRecDepth 100000 in
theorem tG (l m n : _) {Q : QT} {h : aA} (hk : oG l m n Q h) : aD Tryz.prog iG #[.slice l m n] h Q :=
 aU follows Tryz.func31 (Tryz.call31 _) rfl rfl [] [(8, fun e h => dL (e 11) fun f g i => dI .i64 (e 12) fun j => dL (e 3) fun a b c => dI .i64 (e 13) fun d => aJ (fun (s : (Option Addr) × Nat × Nat × Int) h Kn => kj f g i j Q s.1 s.2.1 s.2.2.1 s.2.2.2 h Kn) (a, b, c, d) h)]
 trivial
 ⟨⟨by kernel_rfl, fun e h he hk => by
 have F := Ag.nil (e := e)
 have ⟨f, g, i, F, hk⟩ := eL F hk
 have ⟨j, F, hk⟩ := eI F hk
 have ⟨a, b, c, F, hk⟩ := eL F hk
 have ⟨d, F, hk⟩ := eI F hk
 exact cE (s0 := (a, b, c, d)) follows (fun _ h => by cases h) he F (fun s => [(13, .int .i64 s.2.2.2), (3, .slice s.1 s.2.1 s.2.2.1)]) (by kernel_rfl) (F.take 2) hk (fun Kn1 e h => dL (e 3) fun a b c => dI .i64 (e 13) fun d => Kn1 (a, b, c, d) h) (fun Kn1 e h hk => by
  have F := Ag.nil (e := e)
  have ⟨a, b, c, F, hk⟩ := eL F hk
  have ⟨d, F, hk⟩ := eI F hk
  exact ⟨(a, b, c, d), F, hk⟩)
  (fun Kn1 => [(18, fun e h => dL (e 3) fun a b c => dI .i64 (e 4) fun k => dA (e 5) fun o => dI .i64 (e 6) fun p => dL (e 11) fun f g i => dI .i64 (e 12) fun j => dI .i64 (e 13) fun d => fE a b c k o p f g i j d Q Kn1 h), (34, fun e h => dL (e 3) fun a b c => dI .i64 (e 4) fun k => dA (e 7) fun q => dI .i64 (e 10) fun r => dL (e 11) fun f g i => dI .i64 (e 12) fun j => dI .i64 (e 13) fun d => fC a b c k q r f g i j d Q Kn1 h)]) (fun Kn1 => [])
  (fun Kn1 => ⟨fun e h _ hk => by
 have F := Ag.nil (e := e)
 have ⟨a, b, c, F, hk⟩ := eL F hk
 have ⟨k, F, hk⟩ := eI F hk
 have ⟨o, F, hk⟩ := eA F hk
 have ⟨p, F, hk⟩ := eI F hk
 have ⟨f, g, i, F, hk⟩ := eL F hk
 have ⟨j, F, hk⟩ := eI F hk
 have ⟨d, F, hk⟩ := eI F hk
 exact jj F (by as_aux_lemma => kernel_rfl) hk, fun e h _ hk => by
 have F := Ag.nil (e := e)
 have ⟨a, b, c, F, hk⟩ := eL F hk
 have ⟨k, F, hk⟩ := eI F hk
 have ⟨q, F, hk⟩ := eA F hk
 have ⟨r, F, hk⟩ := eI F hk
 have ⟨f, g, i, F, hk⟩ := eL F hk
 have ⟨j, F, hk⟩ := eI F hk
 have ⟨d, F, hk⟩ := eI F hk
 exact jj F (by as_aux_lemma => kernel_rfl) hk, trivial⟩)
  (fun Kn1 => trivial) (fun e s h Kn1 => by as_aux_lemma => kernel_rfl)⟩, trivial⟩ (by as_aux_lemma => kernel_rfl) hk
def iu (a : Addr) (Q : QT) (h : aA) : Prop :=
 aD Tryz.prog hU #[.pointer (some a)] h fun v h12 => v = .tuple #[] ∧ Q (.tuple #[.pointer (some a), .int .i64 0]) h12
def fO (b : Addr) (f : Option Addr) (g m : Nat) (i : Int) (Q : QT) (a : Int) (h : aA) (Kn3 : Int → aA → Prop) : Prop :=
 if (decide (a < i)) = true then (bQ a g (nn f fun c => ldS h (c.add (a.toNat * 2)) fun j => ldB h ((c.add (a.toNat * 2)).add 1) fun k => alV h (.cells #[.string (⟨#[]⟩ : ByteArray), .bool false] bC) fun d h6 => stN h6 d [.string j, .bool k] 0 fun h7 => ldS h7 d fun l => aD Tryz.prog iA #[.pointer (some b), .int .i64 a, .string l] h7 fun v h8 => v = .tuple #[] ∧ Kn3 (wrap .i64 (a + 1)) h8)) else (iu b Q h)
def l7 (j : Option Addr) (a k : Nat) (Q : QT) (h : aA) : Prop :=
 (xg Tryz.prog cB (.int .i64 1) (.int .i64 1) h fun v h3 => ∃ b c d, v = .slice b c d ∧ aD Tryz.prog bZ #[.slice j a k] h3 fun v h4 => ∃ f g i, v = .slice f g i ∧ alV h4 (.cells #[.slice b c d, .slice f g i] kb) fun l h5 => aJ (fun (s : Int) h Kn => fO l j a k ((a : Nat) : Int) Q s h Kn) 0 h5) ∧ (aD Tryz.prog bZ #[.slice j a k] h fun v h9 => ∃ f g i, v = .slice f g i ∧ xg Tryz.prog cB (.int .i64 1) (.int .i64 1) h9 fun v h10 => ∃ b c d, v = .slice b c d ∧ alV h10 (.cells #[.slice b c d, .slice f g i] kb) fun l h11 => aJ (fun (s : Int) h Kn => fO l j a k ((a : Nat) : Int) Q s h Kn) 0 h11)
def mb (d : Option Addr) (f g : Nat) (i : Option Addr) (j p : Nat) (k : Int) (Q : QT) (a : Int) (h : aA) (Kn1 : Int → aA → Prop) : Prop :=
 if (decide (a < k)) = true then (bQ a j (nn i fun c => ldS h (c.add (a.toNat * 2)) fun l => ldB h ((c.add (a.toNat * 2)).add 1) fun m => alV h (.cells #[.string (⟨#[]⟩ : ByteArray), .bool false] bC) fun b h1 => stN h1 b [.string l, .bool m] 0 fun h2 => ldS h2 b fun n => if (n.toList == (⟨#[]⟩ : ByteArray).toList) = true then (Q (.tuple #[.pointer none, .int .i64 2]) h2) else (ldS h2 b fun o => if (decide (((o.size : Nat) : Int) > 64)) = true then (Q (.tuple #[.pointer none, .int .i64 3]) h2) else (Kn1 (wrap .i64 (a + 1)) h2)))) else (l7 d f g Q h)
def qL (b : Option Addr) (a c : Nat) (Q : QT) (h : aA) : Prop :=
 if (decide (((a : Nat) : Int) > 512)) = true then (Q (.tuple #[.pointer none, .int .i64 3]) h) else (aJ (fun (s : Int) h Kn => mb b a c b a c ((a : Nat) : Int) Q s h Kn) 0 h)
set_option maxRecDepth 100000 in
theorem vG (a b c : _) {Q : QT} {h : aA} (hk : qL a b c Q h) : aD Tryz.prog jW #[.slice a b c] h Q :=
 aU follows Tryz.func32 (Tryz.call32 _) rfl rfl [(24, fun e h => dL (e 0) fun a b c => l7 a b c Q h), (36, fun e h => dA (e 6) fun g => iu g Q h)] [(10, fun e h => dL (e 0) fun a b c => dL (e 12) fun i j k => dI .i64 (e 13) fun l => dI .i64 (e 14) fun d => aJ (fun (s : Int) h Kn => mb a b c i j k l Q s h Kn) d h), (28, fun e h => dA (e 6) fun g => dL (e 33) fun m n o => dI .i64 (e 34) fun p => dI .i64 (e 35) fun f => aJ (fun (s : Int) h Kn => fO g m n o p Q s h Kn) f h)]
 ⟨fun e h _ hk => by
 have F := Ag.nil (e := e)
 have ⟨a, b, c, F, hk⟩ := eL F hk
 exact jj F (by as_aux_lemma => kernel_rfl) hk, fun e h _ hk => by
 have F := Ag.nil (e := e)
 have ⟨g, F, hk⟩ := eA F hk
 exact jj F (by as_aux_lemma => kernel_rfl) hk, trivial⟩
 ⟨⟨by kernel_rfl, fun e h he hk => by
 have F := Ag.nil (e := e)
 have ⟨a, b, c, F, hk⟩ := eL F hk
 have ⟨i, j, k, F, hk⟩ := eL F hk
 have ⟨l, F, hk⟩ := eI F hk
 have ⟨d, F, hk⟩ := eI F hk
 exact cE (s0 := d) follows (fun _ h => by cases h) he F (fun s => [(14, .int .i64 s)]) (by kernel_rfl) (F.take 1) hk (fun Kn1 e h => dI .i64 (e 14) fun d => Kn1 d h) (fun Kn1 e h hk => by
  have F := Ag.nil (e := e)
  have ⟨d, F, hk⟩ := eI F hk
  exact ⟨d, F, hk⟩)
  (fun Kn1 => []) (fun Kn1 => [])
  (fun Kn1 => trivial)
  (fun Kn1 => trivial) (fun e s h Kn1 => by as_aux_lemma => kernel_rfl)⟩, ⟨by kernel_rfl, fun e h he hk => by
 have F := Ag.nil (e := e)
 have ⟨g, F, hk⟩ := eA F hk
 have ⟨m, n, o, F, hk⟩ := eL F hk
 have ⟨p, F, hk⟩ := eI F hk
 have ⟨f, F, hk⟩ := eI F hk
 exact cE (s0 := f) follows (fun _ h => by cases h) he F (fun s => [(35, .int .i64 s)]) (by kernel_rfl) (F.take 1) hk (fun Kn3 e h => dI .i64 (e 35) fun f => Kn3 f h) (fun Kn3 e h hk => by
  have F := Ag.nil (e := e)
  have ⟨f, F, hk⟩ := eI F hk
  exact ⟨f, F, hk⟩)
  (fun Kn3 => []) (fun Kn3 => [])
  (fun Kn3 => trivial)
  (fun Kn3 => trivial) (fun e s h Kn3 => by as_aux_lemma => kernel_rfl)⟩, trivial⟩ (by as_aux_lemma => kernel_rfl) hk
def ki (a : ByteArray) (Q : QT) (h : aA) : Prop :=
 Q (.tuple #[]) h
set_option maxRecDepth 100000 in
theorem np (a : _) {Q : QT} {h : aA} (hk : ki a Q h) : aD Tryz.prog rX #[.string a] h Q :=
 aU follows Tryz.func33 (Tryz.call33 _) rfl rfl [] []
 trivial
 trivial (by as_aux_lemma => kernel_rfl) hk
def nr (Q : QT) (h : aA) : Prop :=
 Q (.tuple #[]) h
set_option maxRecDepth 100000 in
theorem tA {Q : QT} {h : aA} (hk : nr Q h) : aD Tryz.prog sb #[] h Q :=
 aU follows Tryz.func34 (Tryz.call34 _) rfl rfl [] []
 trivial
 trivial (by as_aux_lemma => kernel_rfl) hk
def kz (a : Option Addr) (Q : QT) (h : aA) : Prop :=
 if (Option.isNone a) = true then (Q (.pointer none) h) else (alV h (.cells #[.pointer a, .int .u16 0, .int .i64 0, .slice none 0 0] fN) fun b h1 => Q (.pointer (some b)) h1)
set_option maxRecDepth 100000 in
theorem pr (a : _) {Q : QT} {h : aA} (hk : kz a Q h) : aD Tryz.prog dY #[.pointer a] h Q :=
 aU follows Tryz.func35 (Tryz.call35 _) rfl rfl [] []
 trivial
 trivial (by as_aux_lemma => kernel_rfl) hk
def nC (a : ByteArray) (j b k : Addr) (Q : QT) (h : aA) : Prop :=
 ldP h j fun c => nn c fun l => ldI h (l.add 13) .i64 fun m => nn c fun n => st1 h (n.add 13) (.int .i64 (wrap .i64 (m + ((a.size : Nat) : Int)))) fun h1 => ldP h1 b fun d => ldP h1 k fun o => aD Tryz.prog fY #[.pointer o, .string a] h1 fun v h2 => ∃ f g i, v = .slice f g i ∧ (ldP h2 b fun p => (.pointer p : Value) = .pointer d) ∧ aD Tryz.prog iU #[.pointer d, .slice f g i] h2 fun v h3 => v = .tuple #[] ∧ Q (.tuple #[]) h3
set_option maxRecDepth 100000 in
theorem tC (a b c d : _) {Q : QT} {h : aA} (hk : nC a b c d Q h) : aD Tryz.prog r4 #[.string a, .pointer (some b), .pointer (some c), .pointer (some d)] h Q :=
 aU follows Tryz.func36 (Tryz.call36 _) rfl rfl [] []
 trivial
 trivial (by as_aux_lemma => kernel_rfl) hk
def kY (f g : Option Addr) (i q : Nat) (j : Int) (Q : QT) (a : Int) (h : aA) (Kn1 : Int → aA → Prop) : Prop :=
 if (decide (a < j)) = true then (bQ a i (nn g fun b => ldI h (b.add (a.toNat * 2)) .i64 fun k => ldI h ((b.add (a.toNat * 2)).add 1) .i64 fun l => alV h (.cells #[.int .i64 0, .int .i64 0] wJ) fun c h1 => stN h1 c [.int .i64 k, .int .i64 l] 0 fun h2 => nn f fun m => ldL h2 (m.add 1) fun n o r => ldI h2 c .i64 fun d => bQ d o (nn n fun p => st1 h2 (p.add (d.toNat * 1)) (.bool true) fun h3 => Kn1 (wrap .i64 (a + 1)) h3))) else (Q (.tuple #[]) h)
def po (b c : Option Addr) (a d : Nat) (Q : QT) (h : aA) : Prop :=
 aJ (fun (s : Int) h Kn => kY b c a d ((a : Nat) : Int) Q s h Kn) 0 h
set_option maxRecDepth 100000 in
theorem uE (b c d f : _) {Q : QT} {h : aA} (hk : po b c d f Q h) : aD Tryz.prog iU #[.pointer b, .slice c d f] h Q :=
 aU follows Tryz.func37 (Tryz.call37 _) rfl rfl [] [(4, fun e h => dP (e 0) fun b => dL (e 6) fun g i j => dI .i64 (e 7) fun k => dI .i64 (e 8) fun a => aJ (fun (s : Int) h Kn => kY b g i j k Q s h Kn) a h)]
 trivial
 ⟨⟨by kernel_rfl, fun e h he hk => by
 have F := Ag.nil (e := e)
 have ⟨b, F, hk⟩ := eP F hk
 have ⟨g, i, j, F, hk⟩ := eL F hk
 have ⟨k, F, hk⟩ := eI F hk
 have ⟨a, F, hk⟩ := eI F hk
 exact cE (s0 := a) follows (fun _ h => by cases h) he F (fun s => [(8, .int .i64 s)]) (by kernel_rfl) (F.take 1) hk (fun Kn1 e h => dI .i64 (e 8) fun a => Kn1 a h) (fun Kn1 e h hk => by
  have F := Ag.nil (e := e)
  have ⟨a, F, hk⟩ := eI F hk
  exact ⟨a, F, hk⟩)
  (fun Kn1 => []) (fun Kn1 => [])
  (fun Kn1 => trivial)
  (fun Kn1 => trivial) (fun e s h Kn1 => by as_aux_lemma => kernel_rfl)⟩, trivial⟩ (by as_aux_lemma => kernel_rfl) hk
def jk (j : Option Addr) (t : ByteArray) (u k : Int) (l : Option Addr) (m w : Nat) (n : Int) (Q : QT) (Kn1 : (Option Addr) × Nat × Nat × Int → aA → Prop) (b : Option Addr) (c d : Nat) (a : Int) (h : aA) (Kn2 : (Option Addr) × Nat × Nat × Int → aA → Prop) : Prop :=
 if (decide (a < n)) = true then (bQ a m (nn l fun o => ldI h (o.add (a.toNat * 1)) .i64 fun p => nn j fun q => ldI h (q.add 2) .i64 fun r => alV h (.cells #[.int .i64 p, .int .i64 r] wJ) fun s h2 => dN Tryz.prog .append #[jM, jM] jM #[false, false] #[.slice b c d, .slice (some s) 1 1] h2 fun v h3 => ∃ f g i, v = .slice f g i ∧ Kn2 (f, g, i, wrap .i64 (a + 1)) h3)) else (Kn1 (b, c, d, wrap .i64 (k + 1)) h)
def jo (c : Option Addr) (d : ByteArray) (f : Int) (Q : QT) (g : Option Addr) (i j : Nat) (a : Int) (h : aA) (Kn1 : (Option Addr) × Nat × Nat × Int → aA → Prop) : Prop :=
 if (decide (a < f)) = true then (rY d a fun m => aD Tryz.prog fW #[.pointer c, .int .u8 m] h fun v h1 => ∃ k b l, v = .slice k b l ∧ aJ (fun (s : (Option Addr) × Nat × Nat × Int) h Kn => jk c d f a k b l ((b : Nat) : Int) Q Kn1 s.1 s.2.1 s.2.2.1 s.2.2.2 h Kn) (g, i, j, 0) h1) else (Q (.slice g i j) h)
def mn (a : Option Addr) (b : ByteArray) (Q : QT) (h : aA) : Prop :=
 if (Option.isNone a) = true then (Q (.slice none 0 0) h) else (aJ (fun (s : (Option Addr) × Nat × Nat × Int) h Kn => jo a b ((b.size : Nat) : Int) Q s.1 s.2.1 s.2.2.1 s.2.2.2 h Kn) (none, 0, 0, 0) h)
set_option maxRecDepth 100000 in
theorem rE (f g : _) {Q : QT} {h : aA} (hk : mn f g Q h) : aD Tryz.prog fY #[.pointer f, .string g] h Q :=
 aU follows Tryz.func38 (Tryz.call38 _) rfl rfl [] [(12, fun e h => dP (e 0) fun f => dS (e 1) fun g => dI .i64 (e 12) fun j => dL (e 5) fun a b c => dI .i64 (e 13) fun d => aJ (fun (s : (Option Addr) × Nat × Nat × Int) h Kn => jo f g j Q s.1 s.2.1 s.2.2.1 s.2.2.2 h Kn) (a, b, c, d) h)]
 trivial
 ⟨⟨by kernel_rfl, fun e h he hk => by
 have F := Ag.nil (e := e)
 have ⟨f, F, hk⟩ := eP F hk
 have ⟨g, F, hk⟩ := eS F hk
 have ⟨j, F, hk⟩ := eI F hk
 have ⟨a, b, c, F, hk⟩ := eL F hk
 have ⟨d, F, hk⟩ := eI F hk
 exact cE (s0 := (a, b, c, d)) follows (fun _ h => by cases h) he F (fun s => [(13, .int .i64 s.2.2.2), (5, .slice s.1 s.2.1 s.2.2.1)]) (by kernel_rfl) (F.take 2) hk (fun Kn1 e h => dL (e 5) fun a b c => dI .i64 (e 13) fun d => Kn1 (a, b, c, d) h) (fun Kn1 e h hk => by
  have F := Ag.nil (e := e)
  have ⟨a, b, c, F, hk⟩ := eL F hk
  have ⟨d, F, hk⟩ := eI F hk
  exact ⟨(a, b, c, d), F, hk⟩)
  (fun Kn1 => []) (fun Kn1 => [(18, fun e h => dP (e 0) fun f => dS (e 1) fun g => dI .i64 (e 12) fun j => dI .i64 (e 13) fun d => dL (e 20) fun k l m => dI .i64 (e 21) fun n => dL (e 5) fun a b c => dI .i64 (e 22) fun i => aJ (fun (s : (Option Addr) × Nat × Nat × Int) h Kn => jk f g j d k l m n Q Kn1 s.1 s.2.1 s.2.2.1 s.2.2.2 h Kn) (a, b, c, i) h)])
  (fun Kn1 => trivial)
  (fun Kn1 => ⟨⟨by kernel_rfl, fun e h he hk => by
 have F := Ag.nil (e := e)
 have ⟨f, F, hk⟩ := eP F hk
 have ⟨g, F, hk⟩ := eS F hk
 have ⟨j, F, hk⟩ := eI F hk
 have ⟨d, F, hk⟩ := eI F hk
 have ⟨k, l, m, F, hk⟩ := eL F hk
 have ⟨n, F, hk⟩ := eI F hk
 have ⟨a, b, c, F, hk⟩ := eL F hk
 have ⟨i, F, hk⟩ := eI F hk
 exact cE (s0 := (a, b, c, i)) follows (uj (by kernel_rfl)) he F (fun s => [(22, .int .i64 s.2.2.2), (5, .slice s.1 s.2.1 s.2.2.1)]) (by kernel_rfl) (F.take 2) hk (fun Kn2 e h => dL (e 5) fun a b c => dI .i64 (e 22) fun i => Kn2 (a, b, c, i) h) (fun Kn2 e h hk => by
  have F := Ag.nil (e := e)
  have ⟨a, b, c, F, hk⟩ := eL F hk
  have ⟨i, F, hk⟩ := eI F hk
  exact ⟨(a, b, c, i), F, hk⟩)
  (fun Kn2 => []) (fun Kn2 => [])
  (fun Kn2 => trivial)
  (fun Kn2 => trivial) (fun e s h Kn2 => by as_aux_lemma => kernel_rfl)⟩, trivial⟩) (fun e s h Kn1 => by as_aux_lemma => kernel_rfl)⟩, trivial⟩ (by as_aux_lemma => kernel_rfl) hk
def nt (a c d : Addr) (Q : QT) (h : aA) : Prop :=
 ldP h a fun f => nn f fun g => ldL h (g.add 1) fun i j k => ldP h c fun r => nn r fun s => ldL h (s.add 12) fun t u w => oJ Tryz.prog aQ dO (.slice t u w) h fun v h1 => ∃ l, v = .string l ∧ (ldP h1 a fun x => (.pointer x : Value) = .pointer f) ∧ (ldL h1 (g.add 1) fun y z A => (.slice y z A : Value) = .slice i j k) ∧ aD Tryz.prog nZ #[.slice i j k, .string l] h1 fun v h2 => ∃ b, v = .string b ∧ ldP h2 c fun m => nn m fun B => ldI h2 (B.add 13) .i64 fun C => nn m fun D => st1 h2 (D.add 13) (.int .i64 (wrap .i64 (C + ((b.size : Nat) : Int)))) fun h3 => ldP h3 d fun n => ldP h3 a fun G => nn G fun I => ldP h3 (I.add 5) fun J => aD Tryz.prog iE #[.pointer J, .string b] h3 fun v h4 => ∃ o p q, v = .slice o p q ∧ (ldP h4 d fun L => (.pointer L : Value) = .pointer n) ∧ aD Tryz.prog iU #[.pointer n, .slice o p q] h4 fun v h5 => v = .tuple #[] ∧ Q (.tuple #[]) h5
set_option maxRecDepth 100000 in
theorem tv (a b c : _) {Q : QT} {h : aA} (hk : nt a b c Q h) : aD Tryz.prog r3 #[.pointer (some a), .pointer (some b), .pointer (some c)] h Q :=
 aU follows Tryz.func39 (Tryz.call39 _) rfl rfl [] []
 trivial
 trivial (by as_aux_lemma => kernel_rfl) hk
def lw (f : Option Addr) (g : ByteArray) (Q : QT) (h : aA) : Prop :=
 aD Tryz.prog dY #[.pointer f] h fun v h1 => ∃ a, v = .pointer a ∧ aD Tryz.prog fY #[.pointer a, .string g] h1 fun v h2 => ∃ b c d, v = .slice b c d ∧ Q (.slice b c d) h2
set_option maxRecDepth 100000 in
theorem qr (a b : _) {Q : QT} {h : aA} (hk : lw a b Q h) : aD Tryz.prog iE #[.pointer a, .string b] h Q :=
 aU follows Tryz.func40 (Tryz.call40 _) rfl rfl [] []
 trivial
 trivial (by as_aux_lemma => kernel_rfl) hk
def ni (g : ByteArray) (a : Addr) (Q : QT) (h : aA) : Prop :=
 ldP h a fun b => ldP h a fun i => nn i fun j => ldL h (j.add 12) fun k l m => dN Tryz.prog .append #[aQ, dO] aQ #[false, false] #[.slice k l m, .string g] h fun v h1 => ∃ c d f, v = .slice c d f ∧ (ldP h1 a fun n => (.pointer n : Value) = .pointer b) ∧ nn b fun o => st1 h1 (o.add 12) (.slice c d f) fun h2 => Q (.tuple #[]) h2
set_option maxRecDepth 100000 in
theorem tj (a b : _) {Q : QT} {h : aA} (hk : ni a b Q h) : aD Tryz.prog sD #[.string a, .pointer (some b)] h Q :=
 aU follows Tryz.func41 (Tryz.call41 _) rfl rfl [] []
 trivial
 trivial (by as_aux_lemma => kernel_rfl) hk
def ny (Q : QT) (h : aA) : Prop :=
 Q (.tuple #[]) h
set_option maxRecDepth 100000 in
theorem tw {Q : QT} {h : aA} (hk : ny Q h) : aD Tryz.prog sr #[] h Q :=
 aU follows Tryz.func42 (Tryz.call42 _) rfl rfl [] []
 trivial
 trivial (by as_aux_lemma => kernel_rfl) hk
end Go.Proofs.YtjmfpeiidlpngaaGreatDoor
namespace Go.Proofs.YtjmfpeiidlpngaaGreatDoor
set_option linter.unusedSimpArgs false
set_option linter.unusedVariables false
set_option maxRecDepth 20000
open Go IntKind
variable [Gh]
def gN (a : Option Addr) (b c : Nat) (d : Int) (Q : QT) (h : aA) : Prop :=
 fX 1 a b c (some d) none none fun f g i => dN Tryz.prog .clear #[bK] T_t #[false] #[.slice f g i] h fun v h4 => v = .tuple #[] ∧ fX 1 a b c none (some d) none fun j k l => Q (.slice j k l) h4
def gO (d : Option Addr) (c i : Nat) (j : Value) (Q : QT) (a b : Int) (h : aA) (Kn1 : Int × Int → aA → Prop) : Prop :=
 if (decide (b < ((c : Nat) : Int))) = true then (bQ b c (nn d fun k => ldI h (k.add (b.toNat * 1)) .i64 fun f => lQ Tryz.prog j #[.int .i64 f] h fun v h2 => ∃ g, v = .bool g ∧ if (!g) = true then (bQ a c (nn d fun l => st1 h2 (l.add (a.toNat * 1)) (.int .i64 f) fun h3 => Kn1 (wrap .i64 (a + 1), wrap .i64 (b + 1)) h3)) else (Kn1 (a, wrap .i64 (b + 1)) h2))) else (gN d c i a Q h)
def kB (b : Option Addr) (c d : Nat) (f : Value) (Q : QT) (h : aA) : Prop :=
 aD Tryz.prog ij #[.slice b c d, f] h fun v h1 => ∃ a, v = .int .i64 a ∧ if (a == (-1)) = true then (Q (.slice b c d) h1) else (aJ (fun (s : Int × Int) h Kn => gO b c d f Q s.1 s.2 h Kn) (a, wrap .i64 (a + 1)) h1)
set_option maxRecDepth 100000 in
theorem pu (b c d g : _) {Q : QT} {h : aA} (hk : kB b c d g Q h) : aD Tryz.prog gQ #[.slice b c d, g] h Q :=
 aU follows Tryz.func45 (Tryz.call45 _) rfl rfl [(24, fun e h => dL (e 0) fun b c d => dI .i64 (e 5) fun a => gN b c d a Q h)] [(12, fun e h => dL (e 0) fun b c d => dV (e 1) fun g => dI .i64 (e 5) fun a => dI .i64 (e 6) fun f => aJ (fun (s : Int × Int) h Kn => gO b c d g Q s.1 s.2 h Kn) (a, f) h)]
 ⟨fun e h _ hk => by
 have F := Ag.nil (e := e)
 have ⟨b, c, d, F, hk⟩ := eL F hk
 have ⟨a, F, hk⟩ := eI F hk
 exact jj F (by as_aux_lemma => kernel_rfl) hk, trivial⟩
 ⟨⟨by kernel_rfl, fun e h he hk => by
 have F := Ag.nil (e := e)
 have ⟨b, c, d, F, hk⟩ := eL F hk
 have ⟨g, F, hk⟩ := eV F hk
 have ⟨a, F, hk⟩ := eI F hk
 have ⟨f, F, hk⟩ := eI F hk
 exact cE (s0 := (a, f)) follows (fun _ h => by cases h) he F (fun s => [(6, .int .i64 s.2), (5, .int .i64 s.1)]) (by kernel_rfl) (F.take 2) hk (fun Kn1 e h => dI .i64 (e 5) fun a => dI .i64 (e 6) fun f => Kn1 (a, f) h) (fun Kn1 e h hk => by
  have F := Ag.nil (e := e)
  have ⟨a, F, hk⟩ := eI F hk
  have ⟨f, F, hk⟩ := eI F hk
  exact ⟨(a, f), F, hk⟩)
  (fun Kn1 => []) (fun Kn1 => [])
  (fun Kn1 => trivial)
  (fun Kn1 => trivial) (fun e s h Kn1 => by as_aux_lemma => kernel_rfl)⟩, trivial⟩ (by as_aux_lemma => kernel_rfl) hk
def kv (a : Int) (d : Addr) (Q : QT) (h : aA) : Prop :=
 ldP h d fun g => nn g fun i => ldP h i fun j => nn j fun k => ldL h k fun l m aw => bQ a m (nn l fun b => ldI h (b.add (a.toNat * 25)) .i64 fun n => ldI h ((b.add (a.toNat * 25)).add 1) .i64 fun o => ldL h ((b.add (a.toNat * 25)).add 2) fun p q r => ldL h ((b.add (a.toNat * 25)).add 3) fun s t u => ldL h ((b.add (a.toNat * 25)).add 4) fun w x y => ldL h ((b.add (a.toNat * 25)).add 5) fun z A B => ldB h ((b.add (a.toNat * 25)).add 6) fun C => ldI h ((b.add (a.toNat * 25)).add 7) .i64 fun D => ldI h ((b.add (a.toNat * 25)).add 8) .i64 fun G => ldI h ((b.add (a.toNat * 25)).add 9) .i64 fun I => ldS h ((b.add (a.toNat * 25)).add 10) fun J => ldI h ((b.add (a.toNat * 25)).add 11) .i64 fun L => ldI h ((b.add (a.toNat * 25)).add 12) .i64 fun M => ldL h ((b.add (a.toNat * 25)).add 13) fun N O P => ldL h ((b.add (a.toNat * 25)).add 14) fun R S U => ldL h ((b.add (a.toNat * 25)).add 15) fun V W X => ldL h ((b.add (a.toNat * 25)).add 16) fun Y Z a0 => ldI h ((b.add (a.toNat * 25)).add 17) .i64 fun a1 => ldI h ((b.add (a.toNat * 25)).add 18) .i64 fun a2 => ldI h ((b.add (a.toNat * 25)).add 19) .i64 fun a3 => ldI h ((b.add (a.toNat * 25)).add 20) .i64 fun a4 => ldL h ((b.add (a.toNat * 25)).add 21) fun a5 a6 a7 => ldL h ((b.add (a.toNat * 25)).add 22) fun a8 a9 aa => ldL h ((b.add (a.toNat * 25)).add 23) fun ab ac ad => ldL h ((b.add (a.toNat * 25)).add 24) fun ae af ag => ldP h d fun ah => nn ah fun c => ldI h (c.add 1) .i64 fun ai => ldB h (c.add 2) fun aj => ldI h (c.add 3) .u64 fun ak => ldI h (c.add 4) .u64 fun al => ldB h (c.add 5) fun am => ldI h (c.add 6) .u64 fun an => ldI h (c.add 7) .u64 fun ao => ldI h (c.add 8) .i64 fun ap => ldI h (c.add 9) .i64 fun aq => ldP h d fun ar => nn ar fun au => ldI h (au.add 10) .i64 fun av => aD Tryz.prog kP #[.agg #[.int .i64 n, .int .i64 o, .slice p q r, .slice s t u, .slice w x y, .slice z A B, .bool C, .int .i64 D, .int .i64 G, .int .i64 I, .string J, .int .i64 L, .int .i64 M, .slice N O P, .slice R S U, .slice V W X, .slice Y Z a0, .int .i64 a1, .int .i64 a2, .int .i64 a3, .int .i64 a4, .slice a5 a6 a7, .slice a8 a9 aa, .slice ab ac ad, .slice ae af ag], .agg #[.int .i64 ai, .bool aj, .int .u64 ak, .int .u64 al, .bool am, .int .u64 an, .int .u64 ao, .int .i64 ap, .int .i64 aq], .int .i64 av] h fun v h1 => ∃ f, v = .bool f ∧ Q (.bool (!f)) h1)
set_option maxRecDepth 100000 in
theorem px (a b : _) {Q : QT} {h : aA} (hk : kv a b Q h) : aD Tryz.prog oO #[.int .i64 a, .pointer (some b)] h Q :=
 aU follows Tryz.func46 (Tryz.call46 _) rfl rfl [] []
 trivial
 trivial (by as_aux_lemma => kernel_rfl) hk
def cS (a f b : Addr) (Q : QT) (h : aA) : Prop :=
 ldB h (a.add 1) fun g => ldI h (a.add 2) .u64 fun i => ldI h (a.add 3) .u64 fun j => ldB h (a.add 4) fun k => ldI h (a.add 5) .u64 fun l => ldI h (a.add 6) .u64 fun m => ldI h (a.add 7) .i64 fun n => ldI h (a.add 8) .i64 fun o => aD Tryz.prog gZ #[.agg #[.bool g, .int .u64 i, .int .u64 j], .agg #[.bool k, .int .u64 l, .int .u64 m], .int .i64 n, .int .i64 o, .pointer (some b)] h fun v h5 => ∃ c, v = .bool c ∧ if c = true then (Q (.bool true) h5) else (ldB h5 (f.add 6) fun p => if p = true then (ldB h5 (a.add 4) fun q => ldI h5 (a.add 5) .u64 fun r => ldI h5 (a.add 6) .u64 fun s => ldB h5 (a.add 1) fun t => ldI h5 (a.add 2) .u64 fun u => ldI h5 (a.add 3) .u64 fun w => ldI h5 (a.add 8) .i64 fun x => ldI h5 (a.add 7) .i64 fun y => aD Tryz.prog gZ #[.agg #[.bool q, .int .u64 r, .int .u64 s], .agg #[.bool t, .int .u64 u, .int .u64 w], .int .i64 x, .int .i64 y, .pointer (some b)] h5 fun v h6 => ∃ d, v = .bool d ∧ Q (.bool d) h6) else (Q (.bool false) h5))
def ph (i j : Int) (k : Option Addr) (l m : Nat) (n : Option Addr) (o p : Nat) (q : Option Addr) (r s : Nat) (t : Option Addr) (u w : Nat) (x : Bool) (y z A : Int) (B : ByteArray) (C D : Int) (G : Option Addr) (I J : Nat) (L : Option Addr) (M N : Nat) (O : Option Addr) (P R : Nat) (S : Option Addr) (U V : Nat) (W X Y Z : Int) (a0 : Option Addr) (a1 a2 : Nat) (a3 : Option Addr) (a4 a5 : Nat) (a6 : Option Addr) (a7 a8 : Nat) (a9 : Option Addr) (aa ab : Nat) (ac : Int) (ad : Bool) (ae af : Int) (ag : Bool) (ah ai aj ak d : Int) (Q : QT) (h : aA) : Prop :=
 alV h (.cells #[.int .i64 i, .int .i64 j, .slice k l m, .slice n o p, .slice q r s, .slice t u w, .bool x, .int .i64 y, .int .i64 z, .int .i64 A, .string B, .int .i64 C, .int .i64 D, .slice G I J, .slice L M N, .slice O P R, .slice S U V, .int .i64 W, .int .i64 X, .int .i64 Y, .int .i64 Z, .slice a0 a1 a2, .slice a3 a4 a5, .slice a6 a7 a8, .slice a9 aa ab] bU) fun a h1 => alV h1 (.cells #[.int .i64 ac, .bool ad, .int .u64 ae, .int .u64 af, .bool ag, .int .u64 ah, .int .u64 ai, .int .i64 aj, .int .i64 ak] qj) fun c h2 => ldI h2 a .i64 fun al => ldI h2 (a.add 1) .i64 fun am => ldL h2 (a.add 2) fun an ao ap => ldL h2 (a.add 3) fun aq ar au => ldL h2 (a.add 4) fun av aw ax => ldL h2 (a.add 5) fun ay az b0 => ldB h2 (a.add 6) fun b1 => ldI h2 (a.add 7) .i64 fun b2 => ldI h2 (a.add 8) .i64 fun b3 => ldI h2 (a.add 9) .i64 fun b4 => ldS h2 (a.add 10) fun b5 => ldI h2 (a.add 11) .i64 fun b6 => ldI h2 (a.add 12) .i64 fun b7 => ldL h2 (a.add 13) fun b8 b9 ba => ldL h2 (a.add 14) fun bb bc bd => ldL h2 (a.add 15) fun bf bg bh => ldL h2 (a.add 16) fun bi bj bk => ldI h2 (a.add 17) .i64 fun bl => ldI h2 (a.add 18) .i64 fun bm => ldI h2 (a.add 19) .i64 fun bn => ldI h2 (a.add 20) .i64 fun bo => alV h2 (.cells #[.int .i64 0, .int .i64 0, .slice none 0 0, .slice none 0 0, .slice none 0 0, .slice none 0 0, .bool false, .int .i64 0, .int .i64 0, .int .i64 0, .string (⟨#[]⟩ : ByteArray), .int .i64 0, .int .i64 0, .slice none 0 0, .slice none 0 0, .slice none 0 0, .slice none 0 0, .int .i64 0, .int .i64 0, .int .i64 0, .int .i64 0] cO) fun b h3 => stN h3 b [.int .i64 al, .int .i64 am, .slice an ao ap, .slice aq ar au, .slice av aw ax, .slice ay az b0, .bool b1, .int .i64 b2, .int .i64 b3, .int .i64 b4, .string b5, .int .i64 b6, .int .i64 b7, .slice b8 b9 ba, .slice bb bc bd, .slice bf bg bh, .slice bi bj bk, .int .i64 bl, .int .i64 bm, .int .i64 bn, .int .i64 bo] 0 fun h4 => ldI h4 (b.add 1) .i64 fun bp => ldI h4 c .i64 fun bq => if (bp != bq) = true then (Q (.bool false) h4) else (if (d != 1) = true then (if (d != 2) = true then (Q (.bool false) h4) else (ldI h4 (b.add 11) .i64 fun f => if (f != 0) = true then (ldI h4 (b.add 11) .i64 fun g => if (g != d) = true then (Q (.bool false) h4) else (cS c b a Q h4)) else (cS c b a Q h4))) else (ldI h4 (b.add 11) .i64 fun f => if (f != 0) = true then (ldI h4 (b.add 11) .i64 fun g => if (g != d) = true then (Q (.bool false) h4) else (cS c b a Q h4)) else (cS c b a Q h4)))
set_option maxRecDepth 100000 in
theorem uF (a b c d f g i j k l m n o p r s t u w x y z A B C D G I J L M N O P R S U V W X Y Z a0 a1 a2 a3 a4 a5 a6 a7 a8 a9 aa ab ac ad ae af ag : _) {Q : QT} {h : aA} (hk : ph a b c d f g i j k l m n o p r s t u w x y z A B C D G I J L M N O P R S U V W X Y Z a0 a1 a2 a3 a4 a5 a6 a7 a8 a9 aa ab ac ad ae af ag Q h) : aD Tryz.prog kP #[.agg #[.int .i64 a, .int .i64 b, .slice c d f, .slice g i j, .slice k l m, .slice n o p, .bool r, .int .i64 s, .int .i64 t, .int .i64 u, .string w, .int .i64 x, .int .i64 y, .slice z A B, .slice C D G, .slice I J L, .slice M N O, .int .i64 P, .int .i64 R, .int .i64 S, .int .i64 U, .slice V W X, .slice Y Z a0, .slice a1 a2 a3, .slice a4 a5 a6], .agg #[.int .i64 a7, .bool a8, .int .u64 a9, .int .u64 aa, .bool ab, .int .u64 ac, .int .u64 ad, .int .i64 ae, .int .i64 af], .int .i64 ag] h Q :=
 aU follows Tryz.func47 (Tryz.call47 _) rfl rfl [(12, fun e h => dA (e 4) fun ah => dA (e 7) fun ai => dF 88 (e 8) fun aj => dC aj fun ak al => dA ak fun am => dE al (cS ah ai am Q h))] []
 ⟨fun e h _ hk => by
 have F := Ag.nil (e := e)
 have ⟨ah, F, hk⟩ := eA F hk
 have ⟨ai, F, hk⟩ := eA F hk
 obtain ⟨aj, F, hk2⟩ := eF F hk; clear hk; have hk := hk2; clear hk2
 obtain ⟨ak, al, q, hk2⟩ := DZ hk
 clear hk; subst q; have hk := hk2; clear hk2
 obtain ⟨am, q, hk2⟩ := D0 hk
 clear hk; subst q; have hk := hk2; clear hk2
 obtain ⟨q, hk2⟩ := DH hk
 clear hk; subst q; have hk := hk2; clear hk2
 exact jj F (by as_aux_lemma => kernel_rfl) hk, trivial⟩
 trivial (by as_aux_lemma => kernel_rfl) hk
def iJ (a : Option Addr) (b c : Nat) (d : Int) (Q : QT) (Kn1 : Int → aA → Prop) (h : aA) : Prop :=
 fX 1 a b c (some d) none none fun f g i => dN Tryz.prog .clear #[bK] T_t #[false] #[.slice f g i] h fun v h2 => v = .tuple #[] ∧ fX 1 a b c none (some d) none fun j k l => Q (.slice j k l) h2
def iL (f : Option Addr) (g i : Nat) (d : Option Addr) (c q : Nat) (Q : QT) (Kn1 : Int → aA → Prop) (b a : Int) (h : aA) (Kn2 : Int × Int → aA → Prop) : Prop :=
 if (decide (a < ((c : Nat) : Int))) = true then (bQ a c (nn d fun j => ldI h (j.add (a.toNat * 1)) .i64 fun k => bQ (wrap .i64 (a - 1)) c (nn d fun l => ldI h (l.add (((wrap .i64 (a - 1))).toNat * 1)) .i64 fun m => if (k != m) = true then (bQ a c (nn d fun n => ldI h (n.add (a.toNat * 1)) .i64 fun o => bQ b g (nn f fun p => st1 h (p.add (b.toNat * 1)) (.int .i64 o) fun h1 => Kn2 (wrap .i64 (b + 1), wrap .i64 (a + 1)) h1))) else (Kn2 (b, wrap .i64 (a + 1)) h)))) else (iJ f g i b Q Kn1 h)
def iN (c : Option Addr) (b d : Nat) (Q : QT) (a : Int) (h : aA) (Kn1 : Int → aA → Prop) : Prop :=
 if (decide (a < ((b : Nat) : Int))) = true then (bQ a b (nn c fun f => ldI h (f.add (a.toNat * 1)) .i64 fun g => bQ (wrap .i64 (a - 1)) b (nn c fun i => ldI h (i.add (((wrap .i64 (a - 1))).toNat * 1)) .i64 fun j => if (g == j) = true then (fX 1 c b d (some a) none none fun k l m => aJ (fun (s : Int × Int) h Kn => iL c b d k l m Q Kn1 s.1 s.2 h Kn) (a, 1) h) else (Kn1 (wrap .i64 (a + 1)) h)))) else (Q (.slice c b d) h)
def lI (b : Option Addr) (a c : Nat) (Q : QT) (h : aA) : Prop :=
 if (decide (((a : Nat) : Int) < 2)) = true then (Q (.slice b a c) h) else (aJ (fun (s : Int) h Kn => iN b a c Q s h Kn) 1 h)
set_option maxRecDepth 100000 in
theorem qY (b c d : _) {Q : QT} {h : aA} (hk : lI b c d Q h) : aD Tryz.prog iM #[.slice b c d] h Q :=
 aU follows Tryz.func49 (Tryz.call49 _) rfl rfl [] [(10, fun e h => dL (e 0) fun b c d => dI .i64 (e 3) fun a => aJ (fun (s : Int) h Kn => iN b c d Q s h Kn) a h)]
 trivial
 ⟨⟨by kernel_rfl, fun e h he hk => by
 have F := Ag.nil (e := e)
 have ⟨b, c, d, F, hk⟩ := eL F hk
 have ⟨a, F, hk⟩ := eI F hk
 exact cE (s0 := a) follows (fun _ h => by cases h) he F (fun s => [(3, .int .i64 s)]) (by kernel_rfl) (F.take 1) hk (fun Kn1 e h => dI .i64 (e 3) fun a => Kn1 a h) (fun Kn1 e h hk => by
  have F := Ag.nil (e := e)
  have ⟨a, F, hk⟩ := eI F hk
  exact ⟨a, F, hk⟩)
  (fun Kn1 => [(30, fun e h => dL (e 0) fun b c d => dI .i64 (e 3) fun a => iJ b c d a Q Kn1 h)]) (fun Kn1 => [(20, fun e h => dL (e 0) fun b c d => dL (e 4) fun g i j => dI .i64 (e 3) fun a => dI .i64 (e 5) fun f => aJ (fun (s : Int × Int) h Kn => iL b c d g i j Q Kn1 s.1 s.2 h Kn) (a, f) h)])
  (fun Kn1 => ⟨fun e h _ hk => by
 have F := Ag.nil (e := e)
 have ⟨b, c, d, F, hk⟩ := eL F hk
 have ⟨a, F, hk⟩ := eI F hk
 exact jj F (by as_aux_lemma => kernel_rfl) hk, trivial⟩)
  (fun Kn1 => ⟨⟨by kernel_rfl, fun e h he hk => by
 have F := Ag.nil (e := e)
 have ⟨b, c, d, F, hk⟩ := eL F hk
 have ⟨g, i, j, F, hk⟩ := eL F hk
 have ⟨a, F, hk⟩ := eI F hk
 have ⟨f, F, hk⟩ := eI F hk
 exact cE (s0 := (a, f)) follows (uj (by kernel_rfl)) he F (fun s => [(5, .int .i64 s.2), (3, .int .i64 s.1)]) (by kernel_rfl) (F.take 2) hk (fun Kn2 e h => dI .i64 (e 3) fun a => dI .i64 (e 5) fun f => Kn2 (a, f) h) (fun Kn2 e h hk => by
  have F := Ag.nil (e := e)
  have ⟨a, F, hk⟩ := eI F hk
  have ⟨f, F, hk⟩ := eI F hk
  exact ⟨(a, f), F, hk⟩)
  (fun Kn2 => []) (fun Kn2 => [])
  (fun Kn2 => trivial)
  (fun Kn2 => trivial) (fun e s h Kn2 => by as_aux_lemma => kernel_rfl)⟩, trivial⟩) (fun e s h Kn1 => by as_aux_lemma => kernel_rfl)⟩, trivial⟩ (by as_aux_lemma => kernel_rfl) hk
def jL (a : Option Addr) (f g : Nat) (Q : QT) (h : aA) : Prop :=
 if (Option.isNone a) = true then (Q (.slice none 0 0) h) else (alV h (.cells #[] qd) fun i h1 => dN Tryz.prog .append #[bK, bK] bK #[false, false] #[.slice (some i) 0 0, .slice a f g] h1 fun v h2 => ∃ b c d, v = .slice b c d ∧ Q (.slice b c d) h2)
set_option maxRecDepth 100000 in
theorem nb (a b c : _) {Q : QT} {h : aA} (hk : jL a b c Q h) : aD Tryz.prog cR #[.slice a b c] h Q :=
 aU follows Tryz.func50 (Tryz.call50 _) rfl rfl [] []
 trivial
 trivial (by as_aux_lemma => kernel_rfl) hk
def rz (b : Addr) (c : ByteArray) (Q : QT) (a : Int) (h : aA) (Kn1 : Int → aA → Prop) : Prop :=
 if (decide (a ≤ ((c.size : Nat) : Int))) = true then (ldS h b fun f => ldB h (b.add 1) fun g => aD Tryz.prog Cr #[.agg #[.string f, .bool g, .bool false, .bool false, .int .i64 0, .int .i64 0, .bool false], .string c, .int .i64 a] h fun v h10 => ∃ d, v = .bool d ∧ if d = true then (Q (.bool true) h10) else (Kn1 (wrap .i64 (a + 1)) h10)) else (Q (.bool false) h)
def xr (i : Option Addr) (a p : Int) (q : Bool) (r t : Int) (u : Bool) (w x y z A B C : Int) (D : ByteArray) (Q : QT) (h : aA) : Prop :=
 alV h (.cells #[.int .i64 p, .bool q, .int .u64 r, .int .u64 t, .bool u, .int .u64 w, .int .u64 x, .int .i64 y, .int .i64 z] qj) fun f h1 => alV h1 (.cells #[.int .i64 A, .int .i64 B, .int .i64 C, .string D] vE) fun g h2 => nn i fun G => ldL h2 G fun I J dr => bQ a J (nn I fun d => ldI h2 (d.add (a.toNat * 25)) .i64 fun L => ldI h2 ((d.add (a.toNat * 25)).add 1) .i64 fun M => ldL h2 ((d.add (a.toNat * 25)).add 2) fun N O P => ldL h2 ((d.add (a.toNat * 25)).add 3) fun R S U => ldL h2 ((d.add (a.toNat * 25)).add 4) fun V W X => ldL h2 ((d.add (a.toNat * 25)).add 5) fun Y Z a0 => ldB h2 ((d.add (a.toNat * 25)).add 6) fun a1 => ldI h2 ((d.add (a.toNat * 25)).add 7) .i64 fun a2 => ldI h2 ((d.add (a.toNat * 25)).add 8) .i64 fun a3 => ldI h2 ((d.add (a.toNat * 25)).add 9) .i64 fun a4 => ldS h2 ((d.add (a.toNat * 25)).add 10) fun a5 => ldI h2 ((d.add (a.toNat * 25)).add 11) .i64 fun a6 => ldI h2 ((d.add (a.toNat * 25)).add 12) .i64 fun a7 => ldL h2 ((d.add (a.toNat * 25)).add 13) fun a8 a9 aa => ldL h2 ((d.add (a.toNat * 25)).add 14) fun ab ac ad => ldL h2 ((d.add (a.toNat * 25)).add 15) fun ae af ag => ldL h2 ((d.add (a.toNat * 25)).add 16) fun ah ai aj => ldI h2 ((d.add (a.toNat * 25)).add 17) .i64 fun ak => ldI h2 ((d.add (a.toNat * 25)).add 18) .i64 fun al => ldI h2 ((d.add (a.toNat * 25)).add 19) .i64 fun am => ldI h2 ((d.add (a.toNat * 25)).add 20) .i64 fun an => alV h2 (.cells #[.int .i64 0, .int .i64 0, .slice none 0 0, .slice none 0 0, .slice none 0 0, .slice none 0 0, .bool false, .int .i64 0, .int .i64 0, .int .i64 0, .string (⟨#[]⟩ : ByteArray), .int .i64 0, .int .i64 0, .slice none 0 0, .slice none 0 0, .slice none 0 0, .slice none 0 0, .int .i64 0, .int .i64 0, .int .i64 0, .int .i64 0] cO) fun c h3 => stN h3 c [.int .i64 L, .int .i64 M, .slice N O P, .slice R S U, .slice V W X, .slice Y Z a0, .bool a1, .int .i64 a2, .int .i64 a3, .int .i64 a4, .string a5, .int .i64 a6, .int .i64 a7, .slice a8 a9 aa, .slice ab ac ad, .slice ae af ag, .slice ah ai aj, .int .i64 ak, .int .i64 al, .int .i64 am, .int .i64 an] 0 fun h4 => ldI h4 (c.add 12) .i64 fun ao => ldI h4 g .i64 fun ap => if (ao != ap) = true then (Q (.bool false) h4) else (nn i fun aq => ldL h4 aq fun ar au dt => bQ a au (nn ar fun b => ldI h4 (b.add (a.toNat * 25)) .i64 fun av => ldI h4 ((b.add (a.toNat * 25)).add 1) .i64 fun aw => ldL h4 ((b.add (a.toNat * 25)).add 2) fun ax ay az => ldL h4 ((b.add (a.toNat * 25)).add 3) fun b0 b1 b2 => ldL h4 ((b.add (a.toNat * 25)).add 4) fun b3 b4 b5 => ldL h4 ((b.add (a.toNat * 25)).add 5) fun b6 b7 b8 => ldB h4 ((b.add (a.toNat * 25)).add 6) fun b9 => ldI h4 ((b.add (a.toNat * 25)).add 7) .i64 fun ba => ldI h4 ((b.add (a.toNat * 25)).add 8) .i64 fun bb => ldI h4 ((b.add (a.toNat * 25)).add 9) .i64 fun bc => ldS h4 ((b.add (a.toNat * 25)).add 10) fun bd => ldI h4 ((b.add (a.toNat * 25)).add 11) .i64 fun bf => ldI h4 ((b.add (a.toNat * 25)).add 12) .i64 fun bg => ldL h4 ((b.add (a.toNat * 25)).add 13) fun bh bi bj => ldL h4 ((b.add (a.toNat * 25)).add 14) fun bk bl bm => ldL h4 ((b.add (a.toNat * 25)).add 15) fun bn bo bp => ldL h4 ((b.add (a.toNat * 25)).add 16) fun bq br bt => ldI h4 ((b.add (a.toNat * 25)).add 17) .i64 fun bu => ldI h4 ((b.add (a.toNat * 25)).add 18) .i64 fun bv => ldI h4 ((b.add (a.toNat * 25)).add 19) .i64 fun bw => ldI h4 ((b.add (a.toNat * 25)).add 20) .i64 fun bx => ldL h4 ((b.add (a.toNat * 25)).add 21) fun bz c0 c1 => ldL h4 ((b.add (a.toNat * 25)).add 22) fun c2 c3 c4 => ldL h4 ((b.add (a.toNat * 25)).add 23) fun c5 c6 c7 => ldL h4 ((b.add (a.toNat * 25)).add 24) fun c8 c9 ca => ldI h4 f .i64 fun cb => ldB h4 (f.add 1) fun cc => ldI h4 (f.add 2) .u64 fun cd => ldI h4 (f.add 3) .u64 fun ce => ldB h4 (f.add 4) fun cf => ldI h4 (f.add 5) .u64 fun cg => ldI h4 (f.add 6) .u64 fun ch => ldI h4 (f.add 7) .i64 fun ci => ldI h4 (f.add 8) .i64 fun cj => ldI h4 (g.add 1) .i64 fun ck => aD Tryz.prog wQ #[.agg #[.int .i64 av, .int .i64 aw, .slice ax ay az, .slice b0 b1 b2, .slice b3 b4 b5, .slice b6 b7 b8, .bool b9, .int .i64 ba, .int .i64 bb, .int .i64 bc, .string bd, .int .i64 bf, .int .i64 bg, .slice bh bi bj, .slice bk bl bm, .slice bn bo bp, .slice bq br bt, .int .i64 bu, .int .i64 bv, .int .i64 bw, .int .i64 bx, .slice bz c0 c1, .slice c2 c3 c4, .slice c5 c6 c7, .slice c8 c9 ca], .agg #[.int .i64 cb, .bool cc, .int .u64 cd, .int .u64 ce, .bool cf, .int .u64 cg, .int .u64 ch, .int .i64 ci, .int .i64 cj], .int .i64 ck] h4 fun v h5 => ∃ j, v = .bool j ∧ if (!j) = true then (Q (.bool false) h5) else (ldI h5 c .i64 fun cl => ldI h5 (c.add 1) .i64 fun cm => ldL h5 (c.add 2) fun cn co cp => ldL h5 (c.add 3) fun cq cr cs => ldL h5 (c.add 4) fun ct cu cv => ldL h5 (c.add 5) fun cw cx cy => ldB h5 (c.add 6) fun cz => ldI h5 (c.add 7) .i64 fun d0 => ldI h5 (c.add 8) .i64 fun d1 => ldI h5 (c.add 9) .i64 fun d2 => ldS h5 (c.add 10) fun d3 => ldI h5 (c.add 11) .i64 fun d4 => ldI h5 (c.add 12) .i64 fun d5 => ldL h5 (c.add 13) fun d6 d7 d8 => ldL h5 (c.add 14) fun d9 da db => ldL h5 (c.add 15) fun dc dd de => ldL h5 (c.add 16) fun df dg dh => ldI h5 (c.add 17) .i64 fun di => ldI h5 (c.add 18) .i64 fun dj => ldI h5 (c.add 19) .i64 fun dk => ldI h5 (c.add 20) .i64 fun dl => aD Tryz.prog wL #[.agg #[.int .i64 cl, .int .i64 cm, .slice cn co cp, .slice cq cr cs, .slice ct cu cv, .slice cw cx cy, .bool cz, .int .i64 d0, .int .i64 d1, .int .i64 d2, .string d3, .int .i64 d4, .int .i64 d5, .slice d6 d7 d8, .slice d9 da db, .slice dc dd de, .slice df dg dh, .int .i64 di, .int .i64 dj, .int .i64 dk, .int .i64 dl]] h5 fun v h6 => ∃ k l m, v = .tuple #[.agg #[.string k, .bool l], .bool m] ∧ alV h6 (.cells #[.string (⟨#[]⟩ : ByteArray), .bool false] bC) fun n h7 => stN h7 n [.string k, .bool l] 0 fun h8 => if (!m) = true then (Q (.bool true) h8) else (ldL h8 (c.add 13) fun dm dn dp => ldS h8 (g.add 3) fun dq => aD Tryz.prog A7 #[.slice dm dn dp, .string dq] h8 fun v h9 => ∃ o, v = .string o ∧ aJ (fun (s : Int) h Kn => rz n o Q s h Kn) 0 h9)))))
set_option maxRecDepth 100000 in
theorem Fo (b c d f g i j k l m n o p q r : _) {Q : QT} {h : aA} (hk : xr b c d f g i j k l m n o p q r Q h) : aD Tryz.prog wN #[.pointer b, .int .i64 c, .agg #[.int .i64 d, .bool f, .int .u64 g, .int .u64 i, .bool j, .int .u64 k, .int .u64 l, .int .i64 m, .int .i64 n], .agg #[.int .i64 o, .int .i64 p, .int .i64 q, .string r]] h Q :=
 aU follows Tryz.func52 (Tryz.call52 _) rfl rfl [] [(20, fun e h => dA (e 10) fun t => dS (e 12) fun u => dI .i64 (e 13) fun a => aJ (fun (s : Int) h Kn => rz t u Q s h Kn) a h)]
 trivial
 ⟨⟨by kernel_rfl, fun e h he hk => by
 have F := Ag.nil (e := e)
 have ⟨t, F, hk⟩ := eA F hk
 have ⟨u, F, hk⟩ := eS F hk
 have ⟨a, F, hk⟩ := eI F hk
 exact cE (s0 := a) follows (fun _ h => by cases h) he F (fun s => [(13, .int .i64 s)]) (by kernel_rfl) (F.take 1) hk (fun Kn1 e h => dI .i64 (e 13) fun a => Kn1 a h) (fun Kn1 e h hk => by
  have F := Ag.nil (e := e)
  have ⟨a, F, hk⟩ := eI F hk
  exact ⟨a, F, hk⟩)
  (fun Kn1 => []) (fun Kn1 => [])
  (fun Kn1 => trivial)
  (fun Kn1 => trivial) (fun e s h Kn1 => by as_aux_lemma => kernel_rfl)⟩, trivial⟩ (by as_aux_lemma => kernel_rfl) hk
def qF (c : Int) (d : ByteArray) (Q : QT) (h : aA) : Prop :=
 aD Tryz.prog th #[.int .i64 c] h fun v h1 => ∃ a, v = a ∧ lQ Tryz.prog a #[.string d] h1 fun v h2 => ∃ b, v = .string b ∧ Q (.string b) h2
set_option maxRecDepth 100000 in
theorem vT (a b : _) {Q : QT} {h : aA} (hk : qF a b Q h) : aD Tryz.prog ma #[.int .i64 a, .string b] h Q :=
 aU follows Tryz.func54 (Tryz.call54 _) rfl rfl [] []
 trivial
 trivial (by as_aux_lemma => kernel_rfl) hk
def u9 (n o : Int) (p : Option Addr) (q r : Nat) (s : Option Addr) (t u : Nat) (w : Option Addr) (x y : Nat) (z : Option Addr) (A B : Nat) (C : Bool) (D G I : Int) (J : ByteArray) (L M : Int) (N : Option Addr) (O P : Nat) (R : Option Addr) (S U : Nat) (V : Option Addr) (W X : Nat) (Y : Option Addr) (Z a0 : Nat) (a1 a2 a3 a4 : Int) (Q : QT) (h : aA) : Prop :=
 alV h (.cells #[.int .i64 n, .int .i64 o, .slice p q r, .slice s t u, .slice w x y, .slice z A B, .bool C, .int .i64 D, .int .i64 G, .int .i64 I, .string J, .int .i64 L, .int .i64 M, .slice N O P, .slice R S U, .slice V W X, .slice Y Z a0, .int .i64 a1, .int .i64 a2, .int .i64 a3, .int .i64 a4] cO) fun a h1 => ldI h1 a .i64 fun a5 => if (decide (a5 ≥ 1)) = true then (ldI h1 a .i64 fun a6 => if (decide (a6 ≤ 4)) = true then (ldI h1 (a.add 1) .i64 fun a7 => if (a7 == 6) = true then (ldI h1 (a.add 7) .i64 fun b => if (decide (b ≥ 1)) = true then (ldI h1 (a.add 7) .i64 fun c => if (decide (c < 4294967296)) = true then (ldI h1 (a.add 8) .i64 fun d => if (decide (d ≥ 1)) = true then (ldI h1 (a.add 8) .i64 fun f => if (decide (f ≤ 65535)) = true then (ldI h1 (a.add 9) .i64 fun g => if (decide (g ≥ 1)) = true then (ldI h1 (a.add 9) .i64 fun i => if (decide (i ≤ 4)) = true then (ldI h1 (a.add 11) .i64 fun j => if (decide (j ≥ 0)) = true then (ldI h1 (a.add 11) .i64 fun k => if (decide (k ≤ 2)) = true then (ldI h1 (a.add 12) .i64 fun l => if (decide (l ≥ 1)) = true then (ldI h1 (a.add 12) .i64 fun m => Q (.bool (decide (m ≤ 18))) h1) else (Q (.bool false) h1)) else (Q (.bool false) h1)) else (Q (.bool false) h1)) else (Q (.bool false) h1)) else (Q (.bool false) h1)) else (Q (.bool false) h1)) else (Q (.bool false) h1)) else (Q (.bool false) h1)) else (Q (.bool false) h1)) else (ldI h1 (a.add 1) .i64 fun a8 => if (a8 == 17) = true then (ldI h1 (a.add 7) .i64 fun b => if (decide (b ≥ 1)) = true then (ldI h1 (a.add 7) .i64 fun c => if (decide (c < 4294967296)) = true then (ldI h1 (a.add 8) .i64 fun d => if (decide (d ≥ 1)) = true then (ldI h1 (a.add 8) .i64 fun f => if (decide (f ≤ 65535)) = true then (ldI h1 (a.add 9) .i64 fun g => if (decide (g ≥ 1)) = true then (ldI h1 (a.add 9) .i64 fun i => if (decide (i ≤ 4)) = true then (ldI h1 (a.add 11) .i64 fun j => if (decide (j ≥ 0)) = true then (ldI h1 (a.add 11) .i64 fun k => if (decide (k ≤ 2)) = true then (ldI h1 (a.add 12) .i64 fun l => if (decide (l ≥ 1)) = true then (ldI h1 (a.add 12) .i64 fun m => Q (.bool (decide (m ≤ 18))) h1) else (Q (.bool false) h1)) else (Q (.bool false) h1)) else (Q (.bool false) h1)) else (Q (.bool false) h1)) else (Q (.bool false) h1)) else (Q (.bool false) h1)) else (Q (.bool false) h1)) else (Q (.bool false) h1)) else (Q (.bool false) h1)) else (Q (.bool false) h1))) else (Q (.bool false) h1)) else (Q (.bool false) h1)
set_option maxRecDepth 100000 in
theorem zy (a b c d f g i j k l m n o p q r s t u w x y z A B C D G I J L M N O P R S : _) {Q : QT} {h : aA} (hk : u9 a b c d f g i j k l m n o p q r s t u w x y z A B C D G I J L M N O P R S Q h) : aD Tryz.prog pI #[.agg #[.int .i64 a, .int .i64 b, .slice c d f, .slice g i j, .slice k l m, .slice n o p, .bool q, .int .i64 r, .int .i64 s, .int .i64 t, .string u, .int .i64 w, .int .i64 x, .slice y z A, .slice B C D, .slice G I J, .slice L M N, .int .i64 O, .int .i64 P, .int .i64 R, .int .i64 S]] h Q :=
 aU follows Tryz.func55 (Tryz.call55 _) rfl rfl [] []
 trivial
 trivial (by as_aux_lemma => kernel_rfl) hk
def vf (b c : Int) (d : Option Addr) (f g : Nat) (i : Option Addr) (j k : Nat) (l : Option Addr) (m n : Nat) (o : Option Addr) (p q : Nat) (r : Bool) (s t u : Int) (w : ByteArray) (x y : Int) (z : Option Addr) (A B : Nat) (C : Option Addr) (D G : Nat) (I : Option Addr) (J L : Nat) (M : Option Addr) (N O : Nat) (P R S U : Int) (Q : QT) (h : aA) : Prop :=
 alV h (.cells #[.int .i64 b, .int .i64 c, .slice d f g, .slice i j k, .slice l m n, .slice o p q, .bool r, .int .i64 s, .int .i64 t, .int .i64 u, .string w, .int .i64 x, .int .i64 y, .slice z A B, .slice C D G, .slice I J L, .slice M N O, .int .i64 P, .int .i64 R, .int .i64 S, .int .i64 U] cO) fun a h1 => ldI h1 (a.add 1) .i64 fun V => if (V == 6) = true then (ldI h1 (a.add 12) .i64 fun W => Q (.bool (W != 2)) h1) else (ldI h1 (a.add 12) .i64 fun X => if (X == 2) = true then (Q (.bool true) h1) else (ldI h1 (a.add 12) .i64 fun Y => if (Y == 8) = true then (Q (.bool true) h1) else (ldI h1 (a.add 12) .i64 fun Z => if (Z == 9) = true then (Q (.bool true) h1) else (ldI h1 (a.add 12) .i64 fun a0 => Q (.bool (a0 == 18)) h1))))
set_option maxRecDepth 100000 in
theorem zi (a b c d f g i j k l m n o p q r s t u w x y z A B C D G I J L M N O P R S : _) {Q : QT} {h : aA} (hk : vf a b c d f g i j k l m n o p q r s t u w x y z A B C D G I J L M N O P R S Q h) : aD Tryz.prog qp #[.agg #[.int .i64 a, .int .i64 b, .slice c d f, .slice g i j, .slice k l m, .slice n o p, .bool q, .int .i64 r, .int .i64 s, .int .i64 t, .string u, .int .i64 w, .int .i64 x, .slice y z A, .slice B C D, .slice G I J, .slice L M N, .int .i64 O, .int .i64 P, .int .i64 R, .int .i64 S]] h Q :=
 aU follows Tryz.func56 (Tryz.call56 _) rfl rfl [] []
 trivial
 trivial (by as_aux_lemma => kernel_rfl) hk
def uT (b c : Int) (d : Option Addr) (f g : Nat) (i : Option Addr) (j k : Nat) (l : Option Addr) (m n : Nat) (o : Option Addr) (p q : Nat) (r : Bool) (s t u : Int) (w : ByteArray) (x y : Int) (z : Option Addr) (A B : Nat) (C : Option Addr) (D G : Nat) (I : Option Addr) (J L : Nat) (M : Option Addr) (N O : Nat) (P R S U : Int) (Q : QT) (h : aA) : Prop :=
 alV h (.cells #[.int .i64 b, .int .i64 c, .slice d f g, .slice i j k, .slice l m n, .slice o p q, .bool r, .int .i64 s, .int .i64 t, .int .i64 u, .string w, .int .i64 x, .int .i64 y, .slice z A B, .slice C D G, .slice I J L, .slice M N O, .int .i64 P, .int .i64 R, .int .i64 S, .int .i64 U] cO) fun a h1 => ldS h1 (a.add 10) fun V => if (decide (((V.size : Nat) : Int) ≤ 128)) = true then (ldL h1 (a.add 13) fun a4 W a5 => if (decide (((W : Nat) : Int) ≤ 4)) = true then (ldL h1 (a.add 14) fun a6 X a7 => if (decide (((X : Nat) : Int) ≤ 8)) = true then (ldL h1 (a.add 15) fun a8 Y a9 => if (decide (((Y : Nat) : Int) ≤ 8)) = true then (ldL h1 (a.add 16) fun aa Z ab => if (decide (((Z : Nat) : Int) ≤ 8)) = true then (ldL h1 (a.add 2) fun ac a0 ad => if (decide (((a0 : Nat) : Int) ≤ 64)) = true then (ldL h1 (a.add 3) fun ae a1 af => if (decide (((a1 : Nat) : Int) ≤ 64)) = true then (ldL h1 (a.add 4) fun ag a2 ah => if (decide (((a2 : Nat) : Int) ≤ 64)) = true then (ldL h1 (a.add 5) fun ai a3 aj => Q (.bool (decide (((a3 : Nat) : Int) ≤ 64))) h1) else (Q (.bool false) h1)) else (Q (.bool false) h1)) else (Q (.bool false) h1)) else (Q (.bool false) h1)) else (Q (.bool false) h1)) else (Q (.bool false) h1)) else (Q (.bool false) h1)) else (Q (.bool false) h1)
set_option maxRecDepth 100000 in
theorem zd (a b c d f g i j k l m n o p q r s t u w x y z A B C D G I J L M N O P R S : _) {Q : QT} {h : aA} (hk : uT a b c d f g i j k l m n o p q r s t u w x y z A B C D G I J L M N O P R S Q h) : aD Tryz.prog pL #[.agg #[.int .i64 a, .int .i64 b, .slice c d f, .slice g i j, .slice k l m, .slice n o p, .bool q, .int .i64 r, .int .i64 s, .int .i64 t, .string u, .int .i64 w, .int .i64 x, .slice y z A, .slice B C D, .slice G I J, .slice L M N, .int .i64 O, .int .i64 P, .int .i64 R, .int .i64 S]] h Q :=
 aU follows Tryz.func57 (Tryz.call57 _) rfl rfl [] []
 trivial
 trivial (by as_aux_lemma => kernel_rfl) hk
def mf (c : Option Addr) (b k : Nat) (Q : QT) (a : Int) (h : aA) (Kn1 : Int → aA → Prop) : Prop :=
 if (decide (a < ((b : Nat) : Int))) = true then (bQ a b (nn c fun f => ldS h ((f.add (a.toNat * 6)).add 1) fun g => if (!(g.toList == (⟨#[]⟩ : ByteArray).toList)) = true then (bQ a b (nn c fun i => ldS h ((i.add (a.toNat * 6)).add 1) fun j => aD Tryz.prog jZ #[.string j] h fun v h1 => ∃ d, v = .bool d ∧ if (!d) = true then (Q (.bool false) h1) else (Kn1 (wrap .i64 (a + 1)) h1))) else (Kn1 (wrap .i64 (a + 1)) h))) else (Q (.bool true) h)
def qv (a : Option Addr) (b c : Nat) (Q : QT) (h : aA) : Prop :=
 aJ (fun (s : Int) h Kn => mf a b c Q s h Kn) 0 h
set_option maxRecDepth 100000 in
theorem vQ (b c d : _) {Q : QT} {h : aA} (hk : qv b c d Q h) : aD Tryz.prog jV #[.slice b c d] h Q :=
 aU follows Tryz.func58 (Tryz.call58 _) rfl rfl [] [(6, fun e h => dL (e 0) fun b c d => dI .i64 (e 3) fun a => aJ (fun (s : Int) h Kn => mf b c d Q s h Kn) a h)]
 trivial
 ⟨⟨by kernel_rfl, fun e h he hk => by
 have F := Ag.nil (e := e)
 have ⟨b, c, d, F, hk⟩ := eL F hk
 have ⟨a, F, hk⟩ := eI F hk
 exact cE (s0 := a) follows (fun _ h => by cases h) he F (fun s => [(3, .int .i64 s)]) (by kernel_rfl) (F.take 1) hk (fun Kn1 e h => dI .i64 (e 3) fun a => Kn1 a h) (fun Kn1 e h hk => by
  have F := Ag.nil (e := e)
  have ⟨a, F, hk⟩ := eI F hk
  exact ⟨a, F, hk⟩)
  (fun Kn1 => []) (fun Kn1 => [])
  (fun Kn1 => trivial)
  (fun Kn1 => trivial) (fun e s h Kn1 => by as_aux_lemma => kernel_rfl)⟩, trivial⟩ (by as_aux_lemma => kernel_rfl) hk
def lY (c : Option Addr) (b k : Nat) (Q : QT) (a : Int) (h : aA) (Kn1 : Int → aA → Prop) : Prop :=
 if (decide (a < ((b : Nat) : Int))) = true then (bQ a b (nn c fun f => ldS h ((f.add (a.toNat * 4)).add 1) fun g => if (!(g.toList == (⟨#[]⟩ : ByteArray).toList)) = true then (bQ a b (nn c fun i => ldS h ((i.add (a.toNat * 4)).add 1) fun j => aD Tryz.prog jZ #[.string j] h fun v h1 => ∃ d, v = .bool d ∧ if (!d) = true then (Q (.bool false) h1) else (Kn1 (wrap .i64 (a + 1)) h1))) else (Kn1 (wrap .i64 (a + 1)) h))) else (Q (.bool true) h)
def qE (a : Option Addr) (b c : Nat) (Q : QT) (h : aA) : Prop :=
 aJ (fun (s : Int) h Kn => lY a b c Q s h Kn) 0 h
set_option maxRecDepth 100000 in
theorem wo (b c d : _) {Q : QT} {h : aA} (hk : qE b c d Q h) : aD Tryz.prog jO #[.slice b c d] h Q :=
 aU follows Tryz.func59 (Tryz.call59 _) rfl rfl [] [(6, fun e h => dL (e 0) fun b c d => dI .i64 (e 3) fun a => aJ (fun (s : Int) h Kn => lY b c d Q s h Kn) a h)]
 trivial
 ⟨⟨by kernel_rfl, fun e h he hk => by
 have F := Ag.nil (e := e)
 have ⟨b, c, d, F, hk⟩ := eL F hk
 have ⟨a, F, hk⟩ := eI F hk
 exact cE (s0 := a) follows (fun _ h => by cases h) he F (fun s => [(3, .int .i64 s)]) (by kernel_rfl) (F.take 1) hk (fun Kn1 e h => dI .i64 (e 3) fun a => Kn1 a h) (fun Kn1 e h hk => by
  have F := Ag.nil (e := e)
  have ⟨a, F, hk⟩ := eI F hk
  exact ⟨a, F, hk⟩)
  (fun Kn1 => []) (fun Kn1 => [])
  (fun Kn1 => trivial)
  (fun Kn1 => trivial) (fun e s h Kn1 => by as_aux_lemma => kernel_rfl)⟩, trivial⟩ (by as_aux_lemma => kernel_rfl) hk
def lX (d : Option Addr) (b i : Nat) (Q : QT) (a : Int) (h : aA) (Kn1 : Int → aA → Prop) : Prop :=
 if (decide (a < ((b : Nat) : Int))) = true then (bQ a b (nn d fun f => ldS h ((f.add (a.toNat * 2)).add 1) fun g => aD Tryz.prog jZ #[.string g] h fun v h1 => ∃ c, v = .bool c ∧ if (!c) = true then (Q (.bool false) h1) else (Kn1 (wrap .i64 (a + 1)) h1))) else (Q (.bool true) h)
def qK (a : Option Addr) (b c : Nat) (Q : QT) (h : aA) : Prop :=
 aJ (fun (s : Int) h Kn => lX a b c Q s h Kn) 0 h
set_option maxRecDepth 100000 in
theorem wj (b c d : _) {Q : QT} {h : aA} (hk : qK b c d Q h) : aD Tryz.prog l6 #[.slice b c d] h Q :=
 aU follows Tryz.func60 (Tryz.call60 _) rfl rfl [] [(6, fun e h => dL (e 0) fun b c d => dI .i64 (e 3) fun a => aJ (fun (s : Int) h Kn => lX b c d Q s h Kn) a h)]
 trivial
 ⟨⟨by kernel_rfl, fun e h he hk => by
 have F := Ag.nil (e := e)
 have ⟨b, c, d, F, hk⟩ := eL F hk
 have ⟨a, F, hk⟩ := eI F hk
 exact cE (s0 := a) follows (fun _ h => by cases h) he F (fun s => [(3, .int .i64 s)]) (by kernel_rfl) (F.take 1) hk (fun Kn1 e h => dI .i64 (e 3) fun a => Kn1 a h) (fun Kn1 e h hk => by
  have F := Ag.nil (e := e)
  have ⟨a, F, hk⟩ := eI F hk
  exact ⟨a, F, hk⟩)
  (fun Kn1 => []) (fun Kn1 => [])
  (fun Kn1 => trivial)
  (fun Kn1 => trivial) (fun e s h Kn1 => by as_aux_lemma => kernel_rfl)⟩, trivial⟩ (by as_aux_lemma => kernel_rfl) hk
def m6 (g : Option Addr) (d w : Nat) (Q : QT) (a : Int) (h : aA) (Kn1 : Int → aA → Prop) : Prop :=
 if (decide (a < ((d : Nat) : Int))) = true then (bQ a d (nn g fun b => ldS h (b.add (a.toNat * 7)) fun i => ldB h ((b.add (a.toNat * 7)).add 1) fun j => ldB h ((b.add (a.toNat * 7)).add 2) fun k => ldB h ((b.add (a.toNat * 7)).add 3) fun l => ldI h ((b.add (a.toNat * 7)).add 4) .i64 fun m => ldI h ((b.add (a.toNat * 7)).add 5) .i64 fun n => ldB h ((b.add (a.toNat * 7)).add 6) fun o => alV h (.cells #[.string (⟨#[]⟩ : ByteArray), .bool false, .bool false, .bool false, .int .i64 0, .int .i64 0, .bool false] jn) fun c h1 => stN h1 c [.string i, .bool j, .bool k, .bool l, .int .i64 m, .int .i64 n, .bool o] 0 fun h2 => ldS h2 c fun p => if (decide (((p.size : Nat) : Int) < 1)) = true then (Q (.int .i64 3) h2) else (ldS h2 c fun q => if (decide (((q.size : Nat) : Int) > 64)) = true then (Q (.int .i64 3) h2) else (ldI h2 (c.add 4) .i64 fun r => ldB h2 (c.add 3) fun s => aD Tryz.prog gR #[.int .i64 r, .bool s] h2 fun v h3 => ∃ f, v = .bool f ∧ if (!f) = true then (Q (.int .i64 4) h3) else (ldI h3 (c.add 5) .i64 fun t => if (decide (t < 0)) = true then (Q (.int .i64 4) h3) else (ldI h3 (c.add 5) .i64 fun u => if (decide (u > 1024)) = true then (Q (.int .i64 4) h3) else (Kn1 (wrap .i64 (a + 1)) h3))))))) else (Q (.int .i64 0) h)
def rf (a : Option Addr) (b c : Nat) (Q : QT) (h : aA) : Prop :=
 aJ (fun (s : Int) h Kn => m6 a b c Q s h Kn) 0 h
set_option maxRecDepth 100000 in
theorem wR (b c d : _) {Q : QT} {h : aA} (hk : rf b c d Q h) : aD Tryz.prog mZ #[.slice b c d] h Q :=
 aU follows Tryz.func61 (Tryz.call61 _) rfl rfl [] [(6, fun e h => dL (e 0) fun b c d => dI .i64 (e 3) fun a => aJ (fun (s : Int) h Kn => m6 b c d Q s h Kn) a h)]
 trivial
 ⟨⟨by kernel_rfl, fun e h he hk => by
 have F := Ag.nil (e := e)
 have ⟨b, c, d, F, hk⟩ := eL F hk
 have ⟨a, F, hk⟩ := eI F hk
 exact cE (s0 := a) follows (fun _ h => by cases h) he F (fun s => [(3, .int .i64 s)]) (by kernel_rfl) (F.take 1) hk (fun Kn1 e h => dI .i64 (e 3) fun a => Kn1 a h) (fun Kn1 e h hk => by
  have F := Ag.nil (e := e)
  have ⟨a, F, hk⟩ := eI F hk
  exact ⟨a, F, hk⟩)
  (fun Kn1 => []) (fun Kn1 => [])
  (fun Kn1 => trivial)
  (fun Kn1 => trivial) (fun e s h Kn1 => by as_aux_lemma => kernel_rfl)⟩, trivial⟩ (by as_aux_lemma => kernel_rfl) hk
def qi (m : Option Addr) (l A : Nat) (Q : QT) (b : Int) (h : aA) (Kn1 : Int → aA → Prop) : Prop :=
 if (decide (b < ((l : Nat) : Int))) = true then (bQ b l (nn m fun f => ldI h (f.add (b.toNat * 7)) .i64 fun n => ldI h ((f.add (b.toNat * 7)).add 1) .i64 fun o => ldI h ((f.add (b.toNat * 7)).add 2) .i64 fun p => ldI h ((f.add (b.toNat * 7)).add 3) .i64 fun q => ldB h ((f.add (b.toNat * 7)).add 4) fun r => ldB h ((f.add (b.toNat * 7)).add 5) fun s => ldB h ((f.add (b.toNat * 7)).add 6) fun t => alV h (.cells #[.int .i64 0, .int .i64 0, .int .i64 0, .int .i64 0, .bool false, .bool false, .bool false] sw) fun a h1 => stN h1 a [.int .i64 n, .int .i64 o, .int .i64 p, .int .i64 q, .bool r, .bool s, .bool t] 0 fun h2 => ldI h2 a .i64 fun u => if (decide (u < 1)) = true then (Q (.bool false) h2) else (ldI h2 a .i64 fun w => if (decide (w > 4)) = true then (Q (.bool false) h2) else (ldI h2 (a.add 1) .i64 fun x => if (x != 1) = true then (ldI h2 (a.add 1) .i64 fun y => if (y != 2) = true then (ldI h2 (a.add 1) .i64 fun z => if (z != 4) = true then (Q (.bool false) h2) else (ldI h2 (a.add 2) .i64 fun g => if (decide (g < 0)) = true then (Q (.bool false) h2) else (ldI h2 (a.add 2) .i64 fun i => ldI h2 (a.add 1) .i64 fun c => 0 ≤ (wrap .u64 (wrap .i64 (8 * c))) ∧ if (decide (i ≥ (wrap .i64 (1 * 2 ^ (min (Int.toNat (wrap .u64 (wrap .i64 (8 * c)))) (IntKind.bits .i64)))))) = true then (Q (.bool false) h2) else (ldI h2 (a.add 3) .i64 fun j => ldB h2 (a.add 4) fun k => aD Tryz.prog gR #[.int .i64 j, .bool k] h2 fun v h3 => ∃ d, v = .bool d ∧ if (!d) = true then (Q (.bool false) h3) else (Kn1 (wrap .i64 (b + 1)) h3))))) else (ldI h2 (a.add 2) .i64 fun g => if (decide (g < 0)) = true then (Q (.bool false) h2) else (ldI h2 (a.add 2) .i64 fun i => ldI h2 (a.add 1) .i64 fun c => 0 ≤ (wrap .u64 (wrap .i64 (8 * c))) ∧ if (decide (i ≥ (wrap .i64 (1 * 2 ^ (min (Int.toNat (wrap .u64 (wrap .i64 (8 * c)))) (IntKind.bits .i64)))))) = true then (Q (.bool false) h2) else (ldI h2 (a.add 3) .i64 fun j => ldB h2 (a.add 4) fun k => aD Tryz.prog gR #[.int .i64 j, .bool k] h2 fun v h4 => ∃ d, v = .bool d ∧ if (!d) = true then (Q (.bool false) h4) else (Kn1 (wrap .i64 (b + 1)) h4))))) else (ldI h2 (a.add 2) .i64 fun g => if (decide (g < 0)) = true then (Q (.bool false) h2) else (ldI h2 (a.add 2) .i64 fun i => ldI h2 (a.add 1) .i64 fun c => 0 ≤ (wrap .u64 (wrap .i64 (8 * c))) ∧ if (decide (i ≥ (wrap .i64 (1 * 2 ^ (min (Int.toNat (wrap .u64 (wrap .i64 (8 * c)))) (IntKind.bits .i64)))))) = true then (Q (.bool false) h2) else (ldI h2 (a.add 3) .i64 fun j => ldB h2 (a.add 4) fun k => aD Tryz.prog gR #[.int .i64 j, .bool k] h2 fun v h5 => ∃ d, v = .bool d ∧ if (!d) = true then (Q (.bool false) h5) else (Kn1 (wrap .i64 (b + 1)) h5)))))))) else (Q (.bool true) h)
def vc (a : Option Addr) (b c : Nat) (Q : QT) (h : aA) : Prop :=
 aJ (fun (s : Int) h Kn => qi a b c Q s h Kn) 0 h
set_option maxRecDepth 100000 in
theorem zp (b c d : _) {Q : QT} {h : aA} (hk : vc b c d Q h) : aD Tryz.prog pQ #[.slice b c d] h Q :=
 aU follows Tryz.func62 (Tryz.call62 _) rfl rfl [] [(6, fun e h => dL (e 0) fun b c d => dI .i64 (e 3) fun a => aJ (fun (s : Int) h Kn => qi b c d Q s h Kn) a h)]
 trivial
 ⟨⟨by kernel_rfl, fun e h he hk => by
 have F := Ag.nil (e := e)
 have ⟨b, c, d, F, hk⟩ := eL F hk
 have ⟨a, F, hk⟩ := eI F hk
 exact cE (s0 := a) follows (fun _ h => by cases h) he F (fun s => [(3, .int .i64 s)]) (by kernel_rfl) (F.take 1) hk (fun Kn1 e h => dI .i64 (e 3) fun a => Kn1 a h) (fun Kn1 e h hk => by
  have F := Ag.nil (e := e)
  have ⟨a, F, hk⟩ := eI F hk
  exact ⟨a, F, hk⟩)
  (fun Kn1 => []) (fun Kn1 => [])
  (fun Kn1 => trivial)
  (fun Kn1 => trivial) (fun e s h Kn1 => by as_aux_lemma => kernel_rfl)⟩, trivial⟩ (by as_aux_lemma => kernel_rfl) hk
def n8 (a : Addr) (Q : QT) (h : aA) : Prop :=
 ldL h (a.add 4) fun f g i => aD Tryz.prog mI #[.slice f g i] h fun v h2 => ∃ b, v = .bool b ∧ if b = true then (ldL h2 (a.add 5) fun j k l => aD Tryz.prog mI #[.slice j k l] h2 fun v h3 => ∃ c, v = .bool c ∧ if c = true then (ldI h3 (a.add 17) .i64 fun m => ldI h3 (a.add 18) .i64 fun n => ldI h3 (a.add 19) .i64 fun o => ldI h3 (a.add 20) .i64 fun p => aD Tryz.prog mi #[.agg #[.int .i64 m, .int .i64 n, .int .i64 o, .int .i64 p]] h3 fun v h4 => ∃ d, v = .bool d ∧ Q (.bool d) h4) else (Q (.bool false) h3)) else (Q (.bool false) h2)
def nN (b : Addr) (Q : QT) (a : Int) (h : aA) (Kn1 : Int → aA → Prop) : Prop :=
 ldL h (b.add 16) fun n c o => if (decide (a < ((c : Nat) : Int))) = true then (ldL h (b.add 16) fun d f p => bQ a f (nn d fun g => ldI h (g.add (a.toNat * 2)) .i64 fun i => if (decide (i < 1)) = true then (Q (.bool false) h) else (ldL h (b.add 16) fun j k q => bQ a k (nn j fun l => ldI h (l.add (a.toNat * 2)) .i64 fun m => if (decide (m > 4)) = true then (Q (.bool false) h) else (Kn1 (wrap .i64 (a + 1)) h))))) else (n8 b Q h)
def sG (a b : Int) (c : Option Addr) (d f : Nat) (g : Option Addr) (i j : Nat) (k : Option Addr) (l m : Nat) (n : Option Addr) (o p : Nat) (q : Bool) (r t u : Int) (w : ByteArray) (x y : Int) (z : Option Addr) (A B : Nat) (C : Option Addr) (D G : Nat) (I : Option Addr) (J L : Nat) (M : Option Addr) (N O : Nat) (P R S U : Int) (Q : QT) (h : aA) : Prop :=
 alV h (.cells #[.int .i64 a, .int .i64 b, .slice c d f, .slice g i j, .slice k l m, .slice n o p, .bool q, .int .i64 r, .int .i64 t, .int .i64 u, .string w, .int .i64 x, .int .i64 y, .slice z A B, .slice C D G, .slice I J L, .slice M N O, .int .i64 P, .int .i64 R, .int .i64 S, .int .i64 U] cO) fun V h1 => aJ (fun (s : Int) h Kn => nN V Q s h Kn) 0 h1
set_option maxRecDepth 100000 in
theorem xu (c d f g i j k l m n o p q r t u w x y z A B C D G I J L M N O P R S U V W : _) {Q : QT} {h : aA} (hk : sG c d f g i j k l m n o p q r t u w x y z A B C D G I J L M N O P R S U V W Q h) : aD Tryz.prog nX #[.agg #[.int .i64 c, .int .i64 d, .slice f g i, .slice j k l, .slice m n o, .slice p q r, .bool t, .int .i64 u, .int .i64 w, .int .i64 x, .string y, .int .i64 z, .int .i64 A, .slice B C D, .slice G I J, .slice L M N, .slice O P R, .int .i64 S, .int .i64 U, .int .i64 V, .int .i64 W]] h Q :=
 aU follows Tryz.func63 (Tryz.call63 _) rfl rfl [(14, fun e h => dA (e 1) fun b => n8 b Q h)] [(6, fun e h => dA (e 1) fun b => dI .i64 (e 3) fun a => aJ (fun (s : Int) h Kn => nN b Q s h Kn) a h)]
 ⟨fun e h _ hk => by
 have F := Ag.nil (e := e)
 have ⟨b, F, hk⟩ := eA F hk
 exact jj F (by as_aux_lemma => kernel_rfl) hk, trivial⟩
 ⟨⟨by kernel_rfl, fun e h he hk => by
 have F := Ag.nil (e := e)
 have ⟨b, F, hk⟩ := eA F hk
 have ⟨a, F, hk⟩ := eI F hk
 exact cE (s0 := a) follows (fun _ h => by cases h) he F (fun s => [(3, .int .i64 s)]) (by kernel_rfl) (F.take 1) hk (fun Kn1 e h => dI .i64 (e 3) fun a => Kn1 a h) (fun Kn1 e h hk => by
  have F := Ag.nil (e := e)
  have ⟨a, F, hk⟩ := eI F hk
  exact ⟨a, F, hk⟩)
  (fun Kn1 => []) (fun Kn1 => [])
  (fun Kn1 => trivial)
  (fun Kn1 => trivial) (fun e s h Kn1 => by as_aux_lemma => kernel_rfl)⟩, trivial⟩ (by as_aux_lemma => kernel_rfl) hk
def mM (d : Option Addr) (c n : Nat) (Q : QT) (a : Int) (h : aA) (Kn1 : Int → aA → Prop) : Prop :=
 if (decide (a < ((c : Nat) : Int))) = true then (bQ a c (nn d fun g => ldS h ((g.add (a.toNat * 6)).add 1) fun i => if (i.toList == (⟨#[]⟩ : ByteArray).toList) = true then (bQ a c (nn d fun b => ldB h ((b.add (a.toNat * 6)).add 2) fun j => ldI h ((b.add (a.toNat * 6)).add 3) .u64 fun k => ldI h ((b.add (a.toNat * 6)).add 4) .u64 fun l => ldI h ((b.add (a.toNat * 6)).add 5) .i64 fun m => aD Tryz.prog kL #[.agg #[.bool j, .int .u64 k, .int .u64 l, .int .i64 m]] h fun v h1 => ∃ f, v = .bool f ∧ if (!f) = true then (Q (.bool false) h1) else (Kn1 (wrap .i64 (a + 1)) h1))) else (Kn1 (wrap .i64 (a + 1)) h))) else (Q (.bool true) h)
def rP (a : Option Addr) (b c : Nat) (Q : QT) (h : aA) : Prop :=
 aJ (fun (s : Int) h Kn => mM a b c Q s h Kn) 0 h
set_option maxRecDepth 100000 in
theorem wV (b c d : _) {Q : QT} {h : aA} (hk : rP b c d Q h) : aD Tryz.prog kD #[.slice b c d] h Q :=
 aU follows Tryz.func64 (Tryz.call64 _) rfl rfl [] [(6, fun e h => dL (e 0) fun b c d => dI .i64 (e 3) fun a => aJ (fun (s : Int) h Kn => mM b c d Q s h Kn) a h)]
 trivial
 ⟨⟨by kernel_rfl, fun e h he hk => by
 have F := Ag.nil (e := e)
 have ⟨b, c, d, F, hk⟩ := eL F hk
 have ⟨a, F, hk⟩ := eI F hk
 exact cE (s0 := a) follows (fun _ h => by cases h) he F (fun s => [(3, .int .i64 s)]) (by kernel_rfl) (F.take 1) hk (fun Kn1 e h => dI .i64 (e 3) fun a => Kn1 a h) (fun Kn1 e h hk => by
  have F := Ag.nil (e := e)
  have ⟨a, F, hk⟩ := eI F hk
  exact ⟨a, F, hk⟩)
  (fun Kn1 => []) (fun Kn1 => [])
  (fun Kn1 => trivial)
  (fun Kn1 => trivial) (fun e s h Kn1 => by as_aux_lemma => kernel_rfl)⟩, trivial⟩ (by as_aux_lemma => kernel_rfl) hk
def qW (d : Option Addr) (b k : Nat) (Q : QT) (c a : Int) (h : aA) (Kn1 : Int × Int → aA → Prop) : Prop :=
 if (decide (a < ((b : Nat) : Int))) = true then (bQ a b (nn d fun f => ldB h ((f.add (a.toNat * 7)).add 6) fun g => if g = true then (bQ a b (nn d fun i => ldB h ((i.add (a.toNat * 7)).add 2) fun j => if j = true then (Q (.bool false) h) else (Kn1 (wrap .i64 (c + 1), wrap .i64 (a + 1)) h))) else (Kn1 (c, wrap .i64 (a + 1)) h))) else (Q (.bool (decide (c ≤ 1))) h)
def vN (a : Option Addr) (b c : Nat) (Q : QT) (h : aA) : Prop :=
 aJ (fun (s : Int × Int) h Kn => qW a b c Q s.1 s.2 h Kn) (0, 0) h
set_option maxRecDepth 100000 in
theorem AV (c d f : _) {Q : QT} {h : aA} (hk : vN c d f Q h) : aD Tryz.prog qM #[.slice c d f] h Q :=
 aU follows Tryz.func65 (Tryz.call65 _) rfl rfl [] [(8, fun e h => dL (e 0) fun c d f => dI .i64 (e 3) fun a => dI .i64 (e 4) fun b => aJ (fun (s : Int × Int) h Kn => qW c d f Q s.1 s.2 h Kn) (a, b) h)]
 trivial
 ⟨⟨by kernel_rfl, fun e h he hk => by
 have F := Ag.nil (e := e)
 have ⟨c, d, f, F, hk⟩ := eL F hk
 have ⟨a, F, hk⟩ := eI F hk
 have ⟨b, F, hk⟩ := eI F hk
 exact cE (s0 := (a, b)) follows (fun _ h => by cases h) he F (fun s => [(4, .int .i64 s.2), (3, .int .i64 s.1)]) (by kernel_rfl) (F.take 2) hk (fun Kn1 e h => dI .i64 (e 3) fun a => dI .i64 (e 4) fun b => Kn1 (a, b) h) (fun Kn1 e h hk => by
  have F := Ag.nil (e := e)
  have ⟨a, F, hk⟩ := eI F hk
  have ⟨b, F, hk⟩ := eI F hk
  exact ⟨(a, b), F, hk⟩)
  (fun Kn1 => []) (fun Kn1 => [])
  (fun Kn1 => trivial)
  (fun Kn1 => trivial) (fun e s h Kn1 => by as_aux_lemma => kernel_rfl)⟩, trivial⟩ (by as_aux_lemma => kernel_rfl) hk
def vX (f g : Int) (i : Option Addr) (j k : Nat) (l : Option Addr) (m n : Nat) (o : Option Addr) (p q : Nat) (r : Option Addr) (s t : Nat) (u : Bool) (w x y : Int) (z : ByteArray) (A B : Int) (C : Option Addr) (D G : Nat) (I : Option Addr) (J L : Nat) (M : Option Addr) (N O : Nat) (P : Option Addr) (R S : Nat) (U V W X : Int) (Q : QT) (h : aA) : Prop :=
 alV h (.cells #[.int .i64 f, .int .i64 g, .slice i j k, .slice l m n, .slice o p q, .slice r s t, .bool u, .int .i64 w, .int .i64 x, .int .i64 y, .string z, .int .i64 A, .int .i64 B, .slice C D G, .slice I J L, .slice M N O, .slice P R S, .int .i64 U, .int .i64 V, .int .i64 W, .int .i64 X] cO) fun b h1 => alV h1 (.cells #[.int .i64 0, .int .i64 0, .slice none 0 0, .slice none 0 0, .slice none 0 0, .slice none 0 0, .bool false, .int .i64 0, .int .i64 0, .int .i64 0, .string (⟨#[]⟩ : ByteArray), .int .i64 0, .int .i64 0, .slice none 0 0, .slice none 0 0, .slice none 0 0, .slice none 0 0, .int .i64 0, .int .i64 0, .int .i64 0, .int .i64 0, .slice none 0 0, .slice none 0 0, .slice none 0 0, .slice none 0 0] bU) fun a h2 => alV h2 (.cells #[.bool false, .int .u64 0, .int .u64 0, .bool false, .int .u64 0, .int .u64 4294967295, .bool true, .int .u64 0, .int .u64 0, .bool true, .int .u64 18446744073709551615, .int .u64 18446744073709551615] ml) fun c h3 => alV h3 (.cells #[.int .i64 0, .int .i64 65535] pR) fun d h4 => ldI h4 b .i64 fun Y => ldI h4 (b.add 1) .i64 fun Z => ldL h4 (b.add 2) fun a0 a1 a2 => ldL h4 (b.add 3) fun a3 a4 a5 => ldL h4 (b.add 4) fun a6 a7 a8 => ldL h4 (b.add 5) fun a9 aa ab => ldB h4 (b.add 6) fun ac => ldI h4 (b.add 7) .i64 fun ad => ldI h4 (b.add 8) .i64 fun ae => ldI h4 (b.add 9) .i64 fun af => ldS h4 (b.add 10) fun ag => ldI h4 (b.add 11) .i64 fun ah => ldI h4 (b.add 12) .i64 fun ai => ldL h4 (b.add 13) fun aj ak al => ldL h4 (b.add 14) fun am an ao => ldL h4 (b.add 15) fun ap aq ar => ldL h4 (b.add 16) fun au av aw => ldI h4 (b.add 17) .i64 fun ax => ldI h4 (b.add 18) .i64 fun ay => ldI h4 (b.add 19) .i64 fun az => ldI h4 (b.add 20) .i64 fun b0 => stN h4 a [.int .i64 Y, .int .i64 Z, .slice a0 a1 a2, .slice a3 a4 a5, .slice a6 a7 a8, .slice a9 aa ab, .bool ac, .int .i64 ad, .int .i64 ae, .int .i64 af, .string ag, .int .i64 ah, .int .i64 ai, .slice aj ak al, .slice am an ao, .slice ap aq ar, .slice au av aw, .int .i64 ax, .int .i64 ay, .int .i64 az, .int .i64 b0, .slice (some c) 2 2, .slice (some c) 2 2, .slice (some d) 1 1, .slice (some d) 1 1] 0 fun h5 => ldI h5 a .i64 fun b1 => ldI h5 (a.add 1) .i64 fun b2 => ldL h5 (a.add 2) fun b3 b4 b5 => ldL h5 (a.add 3) fun b6 b7 b8 => ldL h5 (a.add 4) fun b9 ba bb => ldL h5 (a.add 5) fun bc bd bf => ldB h5 (a.add 6) fun bg => ldI h5 (a.add 7) .i64 fun bh => ldI h5 (a.add 8) .i64 fun bi => ldI h5 (a.add 9) .i64 fun bj => ldS h5 (a.add 10) fun bk => ldI h5 (a.add 11) .i64 fun bl => ldI h5 (a.add 12) .i64 fun bm => ldL h5 (a.add 13) fun bn bo bp => ldL h5 (a.add 14) fun bq br bt => ldL h5 (a.add 15) fun bu bv bw => ldL h5 (a.add 16) fun bx bz c0 => ldI h5 (a.add 17) .i64 fun c1 => ldI h5 (a.add 18) .i64 fun c2 => ldI h5 (a.add 19) .i64 fun c3 => ldI h5 (a.add 20) .i64 fun c4 => ldL h5 (a.add 21) fun c5 c6 c7 => ldL h5 (a.add 22) fun c8 c9 ca => ldL h5 (a.add 23) fun cb cc cd => ldL h5 (a.add 24) fun ce cf cg => Q (.agg #[.int .i64 b1, .int .i64 b2, .slice b3 b4 b5, .slice b6 b7 b8, .slice b9 ba bb, .slice bc bd bf, .bool bg, .int .i64 bh, .int .i64 bi, .int .i64 bj, .string bk, .int .i64 bl, .int .i64 bm, .slice bn bo bp, .slice bq br bt, .slice bu bv bw, .slice bx bz c0, .int .i64 c1, .int .i64 c2, .int .i64 c3, .int .i64 c4, .slice c5 c6 c7, .slice c8 c9 ca, .slice cb cc cd, .slice ce cf cg]) h5
set_option maxRecDepth 100000 in
theorem AY (a b c d f g i j k l m n o p q r s t u w x y z A B C D G I J L M N O P R S : _) {Q : QT} {h : aA} (hk : vX a b c d f g i j k l m n o p q r s t u w x y z A B C D G I J L M N O P R S Q h) : aD Tryz.prog qX #[.agg #[.int .i64 a, .int .i64 b, .slice c d f, .slice g i j, .slice k l m, .slice n o p, .bool q, .int .i64 r, .int .i64 s, .int .i64 t, .string u, .int .i64 w, .int .i64 x, .slice y z A, .slice B C D, .slice G I J, .slice L M N, .int .i64 O, .int .i64 P, .int .i64 R, .int .i64 S]] h Q :=
 aU follows Tryz.func66 (Tryz.call66 _) rfl rfl [] []
 trivial
 trivial (by as_aux_lemma => kernel_rfl) hk
def fI (a : Option Addr) (f g : Nat) (Q : QT) (h : aA) : Prop :=
 if (Option.isNone a) = true then (Q (.slice none 0 0) h) else (alV h (.cells #[] pH) fun i h1 => dN Tryz.prog .append #[kA, kA] kA #[false, false] #[.slice (some i) 0 0, .slice a f g] h1 fun v h2 => ∃ b c d, v = .slice b c d ∧ Q (.slice b c d) h2)
set_option maxRecDepth 100000 in
theorem kg (a b c : _) {Q : QT} {h : aA} (hk : fI a b c Q h) : aD Tryz.prog bX #[.slice a b c] h Q :=
 aU follows Tryz.func67 (Tryz.call67 _) rfl rfl [] []
 trivial
 trivial (by as_aux_lemma => kernel_rfl) hk
def fH (a : Option Addr) (f g : Nat) (Q : QT) (h : aA) : Prop :=
 if (Option.isNone a) = true then (Q (.slice none 0 0) h) else (alV h (.cells #[] mP) fun i h1 => dN Tryz.prog .append #[kC, kC] kC #[false, false] #[.slice (some i) 0 0, .slice a f g] h1 fun v h2 => ∃ b c d, v = .slice b c d ∧ Q (.slice b c d) h2)
set_option maxRecDepth 100000 in
theorem kr (a b c : _) {Q : QT} {h : aA} (hk : fH a b c Q h) : aD Tryz.prog bW #[.slice a b c] h Q :=
 aU follows Tryz.func68 (Tryz.call68 _) rfl rfl [] []
 trivial
 trivial (by as_aux_lemma => kernel_rfl) hk
def fZ (a : Option Addr) (f g : Nat) (Q : QT) (h : aA) : Prop :=
 if (Option.isNone a) = true then (Q (.slice none 0 0) h) else (alV h (.cells #[] jn) fun i h1 => dN Tryz.prog .append #[li, li] li #[false, false] #[.slice (some i) 0 0, .slice a f g] h1 fun v h2 => ∃ b c d, v = .slice b c d ∧ Q (.slice b c d) h2)
set_option maxRecDepth 100000 in
theorem kF (a b c : _) {Q : QT} {h : aA} (hk : fZ a b c Q h) : aD Tryz.prog cP #[.slice a b c] h Q :=
 aU follows Tryz.func69 (Tryz.call69 _) rfl rfl [] []
 trivial
 trivial (by as_aux_lemma => kernel_rfl) hk
def iW (a : Option Addr) (f g : Nat) (Q : QT) (h : aA) : Prop :=
 if (Option.isNone a) = true then (Q (.slice none 0 0) h) else (alV h (.cells #[] sw) fun i h1 => dN Tryz.prog .append #[ov, ov] ov #[false, false] #[.slice (some i) 0 0, .slice a f g] h1 fun v h2 => ∃ b c d, v = .slice b c d ∧ Q (.slice b c d) h2)
set_option maxRecDepth 100000 in
theorem m0 (a b c : _) {Q : QT} {h : aA} (hk : iW a b c Q h) : aD Tryz.prog eu #[.slice a b c] h Q :=
 aU follows Tryz.func70 (Tryz.call70 _) rfl rfl [] []
 trivial
 trivial (by as_aux_lemma => kernel_rfl) hk
def gU (a : Option Addr) (f g : Nat) (Q : QT) (h : aA) : Prop :=
 if (Option.isNone a) = true then (Q (.slice none 0 0) h) else (alV h (.cells #[] sE) fun i h1 => dN Tryz.prog .append #[lV, lV] lV #[false, false] #[.slice (some i) 0 0, .slice a f g] h1 fun v h2 => ∃ b c d, v = .slice b c d ∧ Q (.slice b c d) h2)
set_option maxRecDepth 100000 in
theorem lD (a b c : _) {Q : QT} {h : aA} (hk : gU a b c Q h) : aD Tryz.prog cY #[.slice a b c] h Q :=
 aU follows Tryz.func71 (Tryz.call71 _) rfl rfl [] []
 trivial
 trivial (by as_aux_lemma => kernel_rfl) hk
def iw (a : Option Addr) (f g : Nat) (Q : QT) (h : aA) : Prop :=
 if (Option.isNone a) = true then (Q (.slice none 0 0) h) else (alV h (.cells #[] ml) fun i h1 => dN Tryz.prog .append #[mK, mK] mK #[false, false] #[.slice (some i) 0 0, .slice a f g] h1 fun v h2 => ∃ b c d, v = .slice b c d ∧ Q (.slice b c d) h2)
set_option maxRecDepth 100000 in
theorem mg (a b c : _) {Q : QT} {h : aA} (hk : iw a b c Q h) : aD Tryz.prog cH #[.slice a b c] h Q :=
 aU follows Tryz.func72 (Tryz.call72 _) rfl rfl [] []
 trivial
 trivial (by as_aux_lemma => kernel_rfl) hk
def iR (a : Option Addr) (f g : Nat) (Q : QT) (h : aA) : Prop :=
 if (Option.isNone a) = true then (Q (.slice none 0 0) h) else (alV h (.cells #[] pR) fun i h1 => dN Tryz.prog .append #[oe, oe] oe #[false, false] #[.slice (some i) 0 0, .slice a f g] h1 fun v h2 => ∃ b c d, v = .slice b c d ∧ Q (.slice b c d) h2)
set_option maxRecDepth 100000 in
theorem mX (a b c : _) {Q : QT} {h : aA} (hk : iR a b c Q h) : aD Tryz.prog cM #[.slice a b c] h Q :=
 aU follows Tryz.func73 (Tryz.call73 _) rfl rfl [] []
 trivial
 trivial (by as_aux_lemma => kernel_rfl) hk
def fM (b : Option Addr) (a c : Nat) (Q : QT) (h : aA) : Prop :=
 Q (.int .i64 ((a : Nat) : Int)) h
def fP (f : Option Addr) (g i : Nat) (j : Value) (k : Option Addr) (l U : Nat) (m : Int) (Q : QT) (a : Int) (h : aA) (Kn1 : Int → aA → Prop) : Prop :=
 if (decide (a < m)) = true then (bQ a l (nn k fun c => ldI h (c.add (a.toNat * 5)) .i64 fun n => ldL h ((c.add (a.toNat * 5)).add 1) fun o p q => ldL h ((c.add (a.toNat * 5)).add 2) fun r s t => ldL h ((c.add (a.toNat * 5)).add 3) fun u w x => ldL h ((c.add (a.toNat * 5)).add 4) fun y z A => alV h (.cells #[.int .i64 0, .slice none 0 0, .slice none 0 0, .slice none 0 0, .slice none 0 0] mw) fun b h1 => stN h1 b [.int .i64 n, .slice o p q, .slice r s t, .slice u w x, .slice y z A] 0 fun h2 => ldI h2 b .i64 fun B => ldL h2 (b.add 1) fun C D G => ldL h2 (b.add 2) fun I J L => ldL h2 (b.add 3) fun M N O => ldL h2 (b.add 4) fun P R S => lQ Tryz.prog j #[.agg #[.int .i64 B, .slice C D G, .slice I J L, .slice M N O, .slice P R S]] h2 fun v h3 => ∃ d, v = .bool d ∧ if d = true then (Q (.int .i64 a) h3) else (Kn1 (wrap .i64 (a + 1)) h3))) else (fM f g i Q h)
def jG (b : Option Addr) (a c : Nat) (d : Value) (Q : QT) (h : aA) : Prop :=
 aJ (fun (s : Int) h Kn => fP b a c d b a c ((a : Nat) : Int) Q s h Kn) 0 h
set_option maxRecDepth 100000 in
theorem oz (a b c f : _) {Q : QT} {h : aA} (hk : jG a b c f Q h) : aD Tryz.prog fQ #[.slice a b c, f] h Q :=
 aU follows Tryz.func74 (Tryz.call74 _) rfl rfl [(16, fun e h => dL (e 0) fun a b c => fM a b c Q h)] [(6, fun e h => dL (e 0) fun a b c => dV (e 1) fun f => dL (e 7) fun g i j => dI .i64 (e 8) fun k => dI .i64 (e 9) fun d => aJ (fun (s : Int) h Kn => fP a b c f g i j k Q s h Kn) d h)]
 ⟨fun e h _ hk => by
 have F := Ag.nil (e := e)
 have ⟨a, b, c, F, hk⟩ := eL F hk
 exact jj F (by as_aux_lemma => kernel_rfl) hk, trivial⟩
 ⟨⟨by kernel_rfl, fun e h he hk => by
 have F := Ag.nil (e := e)
 have ⟨a, b, c, F, hk⟩ := eL F hk
 have ⟨f, F, hk⟩ := eV F hk
 have ⟨g, i, j, F, hk⟩ := eL F hk
 have ⟨k, F, hk⟩ := eI F hk
 have ⟨d, F, hk⟩ := eI F hk
 exact cE (s0 := d) follows (fun _ h => by cases h) he F (fun s => [(9, .int .i64 s)]) (by kernel_rfl) (F.take 1) hk (fun Kn1 e h => dI .i64 (e 9) fun d => Kn1 d h) (fun Kn1 e h hk => by
  have F := Ag.nil (e := e)
  have ⟨d, F, hk⟩ := eI F hk
  exact ⟨d, F, hk⟩)
  (fun Kn1 => []) (fun Kn1 => [])
  (fun Kn1 => trivial)
  (fun Kn1 => trivial) (fun e s h Kn1 => by as_aux_lemma => kernel_rfl)⟩, trivial⟩ (by as_aux_lemma => kernel_rfl) hk
def mU (d : Int) (f : Option Addr) (g i : Nat) (j : Option Addr) (k l : Nat) (m : Option Addr) (n o : Nat) (p : Option Addr) (q r : Nat) (a : Addr) (Q : QT) (h : aA) : Prop :=
 alV h (.cells #[.int .i64 d, .slice f g i, .slice j k l, .slice m n o, .slice p q r] mw) fun b h1 => ldI h1 b .i64 fun s => ldI h1 (a.add 12) .i64 fun t => if (s == t) = true then (ldL h1 (b.add 1) fun u w x => ldL h1 (a.add 13) fun y z A => aD Tryz.prog jE #[.slice u w x, .slice y z A] h1 fun v h2 => ∃ c, v = .bool c ∧ Q (.bool c) h2) else (Q (.bool false) h1)
set_option maxRecDepth 100000 in
theorem sa (a b c d f g i j k l m n o p : _) {Q : QT} {h : aA} (hk : mU a b c d f g i j k l m n o p Q h) : aD Tryz.prog ju #[.agg #[.int .i64 a, .slice b c d, .slice f g i, .slice j k l, .slice m n o], .pointer (some p)] h Q :=
 aU follows Tryz.func75 (Tryz.call75 _) rfl rfl [] []
 trivial
 trivial (by as_aux_lemma => kernel_rfl) hk
def jw (b : Option Addr) (c m : Nat) (d : Option Addr) (f n : Nat) (g : Int) (Q : QT) (a : Int) (h : aA) (Kn1 : Int → aA → Prop) : Prop :=
 if (decide (a < g)) = true then (bQ a c (nn b fun i => ldI h (i.add (a.toNat * 1)) .i64 fun j => bQ a f (nn d fun k => ldI h (k.add (a.toNat * 1)) .i64 fun l => if (j != l) = true then (Q (.bool false) h) else (Kn1 (wrap .i64 (a + 1)) h)))) else (Q (.bool true) h)
def mH (c : Option Addr) (a d : Nat) (f : Option Addr) (b g : Nat) (Q : QT) (h : aA) : Prop :=
 if (((a : Nat) : Int) != ((b : Nat) : Int)) = true then (Q (.bool false) h) else (aJ (fun (s : Int) h Kn => jw c a d f b g ((a : Nat) : Int) Q s h Kn) 0 h)
set_option maxRecDepth 100000 in
theorem r6 (b c d f g i : _) {Q : QT} {h : aA} (hk : mH b c d f g i Q h) : aD Tryz.prog jE #[.slice b c d, .slice f g i] h Q :=
 aU follows Tryz.func76 (Tryz.call76 _) rfl rfl [] [(10, fun e h => dL (e 0) fun b c d => dL (e 1) fun f g i => dI .i64 (e 12) fun j => dI .i64 (e 13) fun a => aJ (fun (s : Int) h Kn => jw b c d f g i j Q s h Kn) a h)]
 trivial
 ⟨⟨by kernel_rfl, fun e h he hk => by
 have F := Ag.nil (e := e)
 have ⟨b, c, d, F, hk⟩ := eL F hk
 have ⟨f, g, i, F, hk⟩ := eL F hk
 have ⟨j, F, hk⟩ := eI F hk
 have ⟨a, F, hk⟩ := eI F hk
 exact cE (s0 := a) follows (fun _ h => by cases h) he F (fun s => [(13, .int .i64 s)]) (by kernel_rfl) (F.take 1) hk (fun Kn1 e h => dI .i64 (e 13) fun a => Kn1 a h) (fun Kn1 e h hk => by
  have F := Ag.nil (e := e)
  have ⟨a, F, hk⟩ := eI F hk
  exact ⟨a, F, hk⟩)
  (fun Kn1 => []) (fun Kn1 => [])
  (fun Kn1 => trivial)
  (fun Kn1 => trivial) (fun e s h Kn1 => by as_aux_lemma => kernel_rfl)⟩, trivial⟩ (by as_aux_lemma => kernel_rfl) hk
def eU (a b : Addr) (Q : QT) (h : aA) : Prop :=
 ldS h b fun c => ldB h (b.add 1) fun d => stN h a [.string c, .bool d] 0 fun h13 => ldS h13 a fun f => ldB h13 (a.add 1) fun g => Q (.tuple #[.agg #[.string f, .bool g], .bool true]) h13
def dD (b a : Addr) (Q : QT) (h : aA) : Prop :=
 ldB h (a.add 1) fun d => if d = true then (ldS h a fun f => aD Tryz.prog kX #[.string f] h fun v h11 => ∃ c, v = .string c ∧ st1 h11 a (.string c) fun h12 => eU b a Q h12) else (eU b a Q h)
def ns (A B : Int) (C : Option Addr) (D G : Nat) (I : Option Addr) (J L : Nat) (M : Option Addr) (N O : Nat) (P : Option Addr) (R S : Nat) (U : Bool) (V W X : Int) (Y : ByteArray) (Z a0 : Int) (a1 : Option Addr) (a2 a3 : Nat) (a4 : Option Addr) (a5 a6 : Nat) (a7 : Option Addr) (a8 a9 : Nat) (aa : Option Addr) (ab ac : Nat) (ad ae af ag : Int) (Q : QT) (h : aA) : Prop :=
 alV h (.cells #[.int .i64 A, .int .i64 B, .slice C D G, .slice I J L, .slice M N O, .slice P R S, .bool U, .int .i64 V, .int .i64 W, .int .i64 X, .string Y, .int .i64 Z, .int .i64 a0, .slice a1 a2 a3, .slice a4 a5 a6, .slice a7 a8 a9, .slice aa ab ac, .int .i64 ad, .int .i64 ae, .int .i64 af, .int .i64 ag] cO) fun a h1 => alV h1 (.cells #[.string (⟨#[]⟩ : ByteArray), .bool false] bC) fun j h2 => ldI h2 a .i64 fun ah => ldI h2 (a.add 1) .i64 fun ai => ldL h2 (a.add 2) fun aj ak al => ldL h2 (a.add 3) fun am an ao => ldL h2 (a.add 4) fun ap aq ar => ldL h2 (a.add 5) fun au av aw => ldB h2 (a.add 6) fun ax => ldI h2 (a.add 7) .i64 fun ay => ldI h2 (a.add 8) .i64 fun az => ldI h2 (a.add 9) .i64 fun b0 => ldS h2 (a.add 10) fun b1 => ldI h2 (a.add 11) .i64 fun b2 => ldI h2 (a.add 12) .i64 fun b3 => ldL h2 (a.add 13) fun b4 b5 b6 => ldL h2 (a.add 14) fun b7 b8 b9 => ldL h2 (a.add 15) fun ba bb bc => ldL h2 (a.add 16) fun bd bf bg => ldI h2 (a.add 17) .i64 fun bh => ldI h2 (a.add 18) .i64 fun bi => ldI h2 (a.add 19) .i64 fun bj => ldI h2 (a.add 20) .i64 fun bk => aD Tryz.prog kh #[.agg #[.int .i64 ah, .int .i64 ai, .slice aj ak al, .slice am an ao, .slice ap aq ar, .slice au av aw, .bool ax, .int .i64 ay, .int .i64 az, .int .i64 b0, .string b1, .int .i64 b2, .int .i64 b3, .slice b4 b5 b6, .slice b7 b8 b9, .slice ba bb bc, .slice bd bf bg, .int .i64 bh, .int .i64 bi, .int .i64 bj, .int .i64 bk]] h2 fun v h3 => ∃ b, v = .int .i64 b ∧ if (decide (b < 0)) = true then (stN h3 j [.string (⟨#[]⟩ : ByteArray), .bool false] 0 fun h4 => ldS h4 j fun bl => ldB h4 (j.add 1) fun bm => Q (.tuple #[.agg #[.string bl, .bool bm], .bool false]) h4) else (ldL h3 (a.add 14) fun r s z => bQ b s (nn r fun t => ldS h3 (t.add (b.toNat * 7)) fun p => ldL h3 (a.add 14) fun k l q => bQ b l (nn k fun m => ldB h3 ((m.add (b.toNat * 7)).add 1) fun i => (aD Tryz.prog lv #[.string p] h3 fun v h5 => ∃ n, v = .string n ∧ (ldL h5 (a.add 14) fun c d f => (.slice c d f : Value) = .slice k l q) ∧ (ldB h5 ((m.add (b.toNat * 7)).add 1) fun g => (.bool g : Value) = .bool i) ∧ alV h5 (.cells #[.string (⟨#[]⟩ : ByteArray), .bool false] bC) fun o h6 => (ldL h6 (a.add 14) fun u w x => (.slice u w x : Value) = .slice r s z) ∧ (ldS h6 (t.add (b.toNat * 7)) fun y => (.string y : Value) = .string p) ∧ (ldL h6 (a.add 14) fun c d f => (.slice c d f : Value) = .slice k l q) ∧ (ldB h6 ((m.add (b.toNat * 7)).add 1) fun g => (.bool g : Value) = .bool i) ∧ stN h6 o [.string n, .bool i] 0 fun h7 => dD j o Q h7) ∧ (alV h3 (.cells #[.string (⟨#[]⟩ : ByteArray), .bool false] bC) fun o h8 => (ldL h8 (a.add 14) fun u w x => (.slice u w x : Value) = .slice r s z) ∧ (ldS h8 (t.add (b.toNat * 7)) fun y => (.string y : Value) = .string p) ∧ (ldL h8 (a.add 14) fun c d f => (.slice c d f : Value) = .slice k l q) ∧ (ldB h8 ((m.add (b.toNat * 7)).add 1) fun g => (.bool g : Value) = .bool i) ∧ aD Tryz.prog lv #[.string p] h8 fun v h9 => ∃ n, v = .string n ∧ (ldL h9 (a.add 14) fun c d f => (.slice c d f : Value) = .slice k l q) ∧ (ldB h9 ((m.add (b.toNat * 7)).add 1) fun g => (.bool g : Value) = .bool i) ∧ stN h9 o [.string n, .bool i] 0 fun h10 => dD j o Q h10))))
set_option maxRecDepth 100000 in
theorem tz (c d f g i j k l m n o p q r s t u w x y z A B C D G I J L M N O P R S U V : _) {Q : QT} {h : aA} (hk : ns c d f g i j k l m n o p q r s t u w x y z A B C D G I J L M N O P R S U V Q h) : aD Tryz.prog jS #[.agg #[.int .i64 c, .int .i64 d, .slice f g i, .slice j k l, .slice m n o, .slice p q r, .bool s, .int .i64 t, .int .i64 u, .int .i64 w, .string x, .int .i64 y, .int .i64 z, .slice A B C, .slice D G I, .slice J L M, .slice N O P, .int .i64 R, .int .i64 S, .int .i64 U, .int .i64 V]] h Q :=
 aU follows Tryz.func77 (Tryz.call77 _) rfl rfl [(12, fun e h => dA (e 2) fun a => dA (e 5) fun b => dD a b Q h), (16, fun e h => dA (e 2) fun a => dA (e 5) fun b => eU a b Q h)] []
 ⟨fun e h _ hk => by
 have F := Ag.nil (e := e)
 have ⟨a, F, hk⟩ := eA F hk
 have ⟨b, F, hk⟩ := eA F hk
 exact jj F (by as_aux_lemma => kernel_rfl) hk, fun e h _ hk => by
 have F := Ag.nil (e := e)
 have ⟨a, F, hk⟩ := eA F hk
 have ⟨b, F, hk⟩ := eA F hk
 exact jj F (by as_aux_lemma => kernel_rfl) hk, trivial⟩
 trivial (by as_aux_lemma => kernel_rfl) hk
def eY (b : Option Addr) (a c : Nat) (Q : QT) (h : aA) : Prop :=
 Q (.int .i64 ((a : Nat) : Int)) h
def eK (f : Option Addr) (g i : Nat) (j : Value) (k : Option Addr) (l r : Nat) (m : Int) (Q : QT) (a : Int) (h : aA) (Kn1 : Int → aA → Prop) : Prop :=
 if (decide (a < m)) = true then (bQ a l (nn k fun c => ldS h (c.add (a.toNat * 2)) fun n => ldB h ((c.add (a.toNat * 2)).add 1) fun o => alV h (.cells #[.string (⟨#[]⟩ : ByteArray), .bool false] bC) fun b h1 => stN h1 b [.string n, .bool o] 0 fun h2 => ldS h2 b fun p => ldB h2 (b.add 1) fun q => lQ Tryz.prog j #[.agg #[.string p, .bool q]] h2 fun v h3 => ∃ d, v = .bool d ∧ if d = true then (Q (.int .i64 a) h3) else (Kn1 (wrap .i64 (a + 1)) h3))) else (eY f g i Q h)
def jp (b : Option Addr) (a c : Nat) (d : Value) (Q : QT) (h : aA) : Prop :=
 aJ (fun (s : Int) h Kn => eK b a c d b a c ((a : Nat) : Int) Q s h Kn) 0 h
set_option maxRecDepth 100000 in
theorem ng (a b c f : _) {Q : QT} {h : aA} (hk : jp a b c f Q h) : aD Tryz.prog eZ #[.slice a b c, f] h Q :=
 aU follows Tryz.func78 (Tryz.call78 _) rfl rfl [(16, fun e h => dL (e 0) fun a b c => eY a b c Q h)] [(6, fun e h => dL (e 0) fun a b c => dV (e 1) fun f => dL (e 7) fun g i j => dI .i64 (e 8) fun k => dI .i64 (e 9) fun d => aJ (fun (s : Int) h Kn => eK a b c f g i j k Q s h Kn) d h)]
 ⟨fun e h _ hk => by
 have F := Ag.nil (e := e)
 have ⟨a, b, c, F, hk⟩ := eL F hk
 exact jj F (by as_aux_lemma => kernel_rfl) hk, trivial⟩
 ⟨⟨by kernel_rfl, fun e h he hk => by
 have F := Ag.nil (e := e)
 have ⟨a, b, c, F, hk⟩ := eL F hk
 have ⟨f, F, hk⟩ := eV F hk
 have ⟨g, i, j, F, hk⟩ := eL F hk
 have ⟨k, F, hk⟩ := eI F hk
 have ⟨d, F, hk⟩ := eI F hk
 exact cE (s0 := d) follows (fun _ h => by cases h) he F (fun s => [(9, .int .i64 s)]) (by kernel_rfl) (F.take 1) hk (fun Kn1 e h => dI .i64 (e 9) fun d => Kn1 d h) (fun Kn1 e h hk => by
  have F := Ag.nil (e := e)
  have ⟨d, F, hk⟩ := eI F hk
  exact ⟨d, F, hk⟩)
  (fun Kn1 => []) (fun Kn1 => [])
  (fun Kn1 => trivial)
  (fun Kn1 => trivial) (fun e s h Kn1 => by as_aux_lemma => kernel_rfl)⟩, trivial⟩ (by as_aux_lemma => kernel_rfl) hk
def mS (c : ByteArray) (d : Bool) (a : Addr) (Q : QT) (h : aA) : Prop :=
 alV h (.cells #[.string c, .bool d] bC) fun b h1 => ldS h1 b fun f => ldB h1 (b.add 1) fun g => ldS h1 a fun i => ldB h1 (a.add 1) fun j => Q (.bool ((f == i) && ((g == j) && true))) h1
set_option maxRecDepth 100000 in
theorem rZ (a b c : _) {Q : QT} {h : aA} (hk : mS a b c Q h) : aD Tryz.prog jB #[.agg #[.string a, .bool b], .pointer (some c)] h Q :=
 aU follows Tryz.func79 (Tryz.call79 _) rfl rfl [] []
 trivial
 trivial (by as_aux_lemma => kernel_rfl) hk
def gD (a : Option Addr) (f g : Nat) (Q : QT) (h : aA) : Prop :=
 if (Option.isNone a) = true then (Q (.slice none 0 0) h) else (alV h (.cells #[] bC) fun i h1 => dN Tryz.prog .append #[dZ, dZ] dZ #[false, false] #[.slice (some i) 0 0, .slice a f g] h1 fun v h2 => ∃ b c d, v = .slice b c d ∧ Q (.slice b c d) h2)
set_option maxRecDepth 100000 in
theorem kN (a b c : _) {Q : QT} {h : aA} (hk : gD a b c Q h) : aD Tryz.prog bZ #[.slice a b c] h Q :=
 aU follows Tryz.func80 (Tryz.call80 _) rfl rfl [] []
 trivial
 trivial (by as_aux_lemma => kernel_rfl) hk
def ir (j : Option Addr) (w a : Int) (Q : QT) (h : aA) : Prop :=
 nn j fun b => ldL h b fun c d k => nn j fun l => ldL h l fun m n x => bQ a n (nn m fun o => ldL h ((o.add (a.toNat * 259)).add 258) fun p q r => alV h (.cells #[.int .i64 w] qd) fun y h6 => (ldL h6 b fun f g i => (.slice f g i : Value) = .slice c d k) ∧ (ldL h6 l fun z A B => (.slice z A B : Value) = .slice m n x) ∧ (ldL h6 ((o.add (a.toNat * 259)).add 258) fun C D G => (.slice C D G : Value) = .slice p q r) ∧ dN Tryz.prog .append #[bK, bK] bK #[false, false] #[.slice p q r, .slice (some y) 1 1] h6 fun v h7 => ∃ s t u, v = .slice s t u ∧ (ldL h7 b fun f g i => (.slice f g i : Value) = .slice c d k) ∧ bQ a d (nn c fun I => st1 h7 ((I.add (a.toNat * 259)).add 258) (.slice s t u) fun h8 => Q (.tuple #[]) h8))
def iv (a : Option Addr) (l : Int) (m : ByteArray) (n : Int) (Q : QT) (b d : Int) (h : aA) (Kn1 : Int × Int → aA → Prop) : Prop :=
 if (decide (d < n)) = true then (rY m d fun o => aD Tryz.prog jQ #[.int .u8 o] h fun v h1 => ∃ c, v = .int .u8 c ∧ nn a fun p => ldL h1 p fun q r I => bQ b r (nn q fun s => bQ c 256 (ldI h1 ((s.add (b.toNat * 259)).add (c.toNat * 1)) .u16 fun f => if ((wrap .i64 f) == 0) = true then (nn a fun t => ldL h1 t fun J g L => nn a fun u => ldL h1 u fun w x y => alV h1 (.cells #[.int .u16 0, .int .u16 0, .int .u16 0, .int .u16 0, .int .u16 0, .int .u16 0, .int .u16 0, .int .u16 0, .int .u16 0, .int .u16 0, .int .u16 0, .int .u16 0, .int .u16 0, .int .u16 0, .int .u16 0, .int .u16 0, .int .u16 0, .int .u16 0, .int .u16 0, .int .u16 0, .int .u16 0, .int .u16 0, .int .u16 0, .int .u16 0, .int .u16 0, .int .u16 0, .int .u16 0, .int .u16 0, .int .u16 0, .int .u16 0, .int .u16 0, .int .u16 0, .int .u16 0, .int .u16 0, .int .u16 0, .int .u16 0, .int .u16 0, .int .u16 0, .int .u16 0, .int .u16 0, .int .u16 0, .int .u16 0, .int .u16 0, .int .u16 0, .int .u16 0, .int .u16 0, .int .u16 0, .int .u16 0, .int .u16 0, .int .u16 0, .int .u16 0, .int .u16 0, .int .u16 0, .int .u16 0, .int .u16 0, .int .u16 0, .int .u16 0, .int .u16 0, .int .u16 0, .int .u16 0, .int .u16 0, .int .u16 0, .int .u16 0, .int .u16 0, .int .u16 0, .int .u16 0, .int .u16 0, .int .u16 0, .int .u16 0, .int .u16 0, .int .u16 0, .int .u16 0, .int .u16 0, .int .u16 0, .int .u16 0, .int .u16 0, .int .u16 0, .int .u16 0, .int .u16 0, .int .u16 0, .int .u16 0, .int .u16 0, .int .u16 0, .int .u16 0, .int .u16 0, .int .u16 0, .int .u16 0, .int .u16 0, .int .u16 0, .int .u16 0, .int .u16 0, .int .u16 0, .int .u16 0, .int .u16 0, .int .u16 0, .int .u16 0, .int .u16 0, .int .u16 0, .int .u16 0, .int .u16 0, .int .u16 0, .int .u16 0, .int .u16 0, .int .u16 0, .int .u16 0, .int .u16 0, .int .u16 0, .int .u16 0, .int .u16 0, .int .u16 0, .int .u16 0, .int .u16 0, .int .u16 0, .int .u16 0, .int .u16 0, .int .u16 0, .int .u16 0, .int .u16 0, .int .u16 0, .int .u16 0, .int .u16 0, .int .u16 0, .int .u16 0, .int .u16 0, .int .u16 0, .int .u16 0, .int .u16 0, .int .u16 0, .int .u16 0, .int .u16 0, .int .u16 0, .int .u16 0, .int .u16 0, .int .u16 0, .int .u16 0, .int .u16 0, .int .u16 0, .int .u16 0, .int .u16 0, .int .u16 0, .int .u16 0, .int .u16 0, .int .u16 0, .int .u16 0, .int .u16 0, .int .u16 0, .int .u16 0, .int .u16 0, .int .u16 0, .int .u16 0, .int .u16 0, .int .u16 0, .int .u16 0, .int .u16 0, .int .u16 0, .int .u16 0, .int .u16 0, .int .u16 0, .int .u16 0, .int .u16 0, .int .u16 0, .int .u16 0, .int .u16 0, .int .u16 0, .int .u16 0, .int .u16 0, .int .u16 0, .int .u16 0, .int .u16 0, .int .u16 0, .int .u16 0, .int .u16 0, .int .u16 0, .int .u16 0, .int .u16 0, .int .u16 0, .int .u16 0, .int .u16 0, .int .u16 0, .int .u16 0, .int .u16 0, .int .u16 0, .int .u16 0, .int .u16 0, .int .u16 0, .int .u16 0, .int .u16 0, .int .u16 0, .int .u16 0, .int .u16 0, .int .u16 0, .int .u16 0, .int .u16 0, .int .u16 0, .int .u16 0, .int .u16 0, .int .u16 0, .int .u16 0, .int .u16 0, .int .u16 0, .int .u16 0, .int .u16 0, .int .u16 0, .int .u16 0, .int .u16 0, .int .u16 0, .int .u16 0, .int .u16 0, .int .u16 0, .int .u16 0, .int .u16 0, .int .u16 0, .int .u16 0, .int .u16 0, .int .u16 0, .int .u16 0, .int .u16 0, .int .u16 0, .int .u16 0, .int .u16 0, .int .u16 0, .int .u16 0, .int .u16 0, .int .u16 0, .int .u16 0, .int .u16 0, .int .u16 0, .int .u16 0, .int .u16 0, .int .u16 0, .int .u16 0, .int .u16 0, .int .u16 0, .int .u16 0, .int .u16 0, .int .u16 0, .int .u16 0, .int .u16 0, .int .u16 0, .int .u16 0, .int .u16 0, .int .u16 0, .int .u16 0, .int .u16 0, .int .u16 0, .int .u16 0, .int .u16 0, .int .u16 0, .int .u16 0, .int .u16 0, .int .u16 0, .int .u16 0, .int .u16 0, .int .u16 0, .int .u16 0, .int .u16 0, .int .u16 0, .int .u16 0, .slice none 0 0] qz) fun z h2 => dN Tryz.prog .append #[cB, cB] cB #[false, false] #[.slice w x y, .slice (some z) 1 1] h2 fun v h3 => ∃ i j k, v = .slice i j k ∧ nn a fun A => st1 h3 A (.slice i j k) fun h4 => nn a fun B => ldL h4 B fun C D M => bQ b D (nn C fun G => bQ c 256 (st1 h4 ((G.add (b.toNat * 259)).add (c.toNat * 1)) (.int .u16 (wrap .u16 ((g : Nat) : Int))) fun h5 => Kn1 (((g : Nat) : Int), wrap .i64 (d + 1)) h5))) else (Kn1 (wrap .i64 f, wrap .i64 (d + 1)) h1)))) else (ir a l b Q h)
def lx (b : Option Addr) (c : Int) (a : ByteArray) (Q : QT) (h : aA) : Prop :=
 aJ (fun (s : Int × Int) h Kn => iv b c a ((a.size : Nat) : Int) Q s.1 s.2 h Kn) (0, 0) h
set_option maxRecDepth 100000 in
theorem qt (b c f : _) {Q : QT} {h : aA} (hk : lx b c f Q h) : aD Tryz.prog iA #[.pointer b, .int .i64 c, .string f] h Q :=
 aU follows Tryz.func81 (Tryz.call81 _) rfl rfl [(26, fun e h => dP (e 0) fun b => dI .i64 (e 1) fun c => dI .i64 (e 6) fun a => ir b c a Q h)] [(6, fun e h => dP (e 0) fun b => dI .i64 (e 1) fun c => dS (e 2) fun f => dI .i64 (e 11) fun g => dI .i64 (e 6) fun a => dI .i64 (e 12) fun d => aJ (fun (s : Int × Int) h Kn => iv b c f g Q s.1 s.2 h Kn) (a, d) h)]
 ⟨fun e h _ hk => by
 have F := Ag.nil (e := e)
 have ⟨b, F, hk⟩ := eP F hk
 have ⟨c, F, hk⟩ := eI F hk
 have ⟨a, F, hk⟩ := eI F hk
 exact jj F (by as_aux_lemma => kernel_rfl) hk, trivial⟩
 ⟨⟨by kernel_rfl, fun e h he hk => by
 have F := Ag.nil (e := e)
 have ⟨b, F, hk⟩ := eP F hk
 have ⟨c, F, hk⟩ := eI F hk
 have ⟨f, F, hk⟩ := eS F hk
 have ⟨g, F, hk⟩ := eI F hk
 have ⟨a, F, hk⟩ := eI F hk
 have ⟨d, F, hk⟩ := eI F hk
 exact cE (s0 := (a, d)) follows (fun _ h => by cases h) he F (fun s => [(12, .int .i64 s.2), (6, .int .i64 s.1)]) (by kernel_rfl) (F.take 2) hk (fun Kn1 e h => dI .i64 (e 6) fun a => dI .i64 (e 12) fun d => Kn1 (a, d) h) (fun Kn1 e h hk => by
  have F := Ag.nil (e := e)
  have ⟨a, F, hk⟩ := eI F hk
  have ⟨d, F, hk⟩ := eI F hk
  exact ⟨(a, d), F, hk⟩)
  (fun Kn1 => []) (fun Kn1 => [])
  (fun Kn1 => trivial)
  (fun Kn1 => trivial) (fun e s h Kn1 => by as_aux_lemma => kernel_rfl)⟩, trivial⟩ (by as_aux_lemma => kernel_rfl) hk
def hY (l : Option Addr) (m g : Addr) (n : List Value) (Q : QT) (Kn3 : (Option Addr) × Nat × Nat → aA → Prop) (c : Option Addr) (d f : Nat) (a : Int) (h : aA) (Kn5 : (Option Addr) × Nat × Nat × Int → aA → Prop) : Prop :=
 if (decide (a < 256)) = true then (bQ a 256 (∃ v, n.toArray[a.toNat]? = some v ∧ ∃ b, v = .int .u16 b ∧ if (b == 0) = true then (bQ a 256 (ldI h (g.add (a.toNat * 1)) .u16 fun o => bQ a 256 (st1 h (m.add (a.toNat * 1)) (.int .u16 o) fun h5 => Kn5 (c, d, f, wrap .i64 (a + 1)) h5))) else (nn l fun p => ldL h p fun q r w => bQ a 256 (ldI h (g.add (a.toNat * 1)) .u16 fun s => bQ b r (nn q fun t => st1 h ((t.add (b.toNat * 259)).add 256) (.int .u16 s) fun h6 => alV h6 (.cells #[.int .u16 b] yg) fun u h7 => dN Tryz.prog .append #[kJ, kJ] kJ #[false, false] #[.slice c d f, .slice (some u) 1 1] h7 fun v h8 => ∃ i j k, v = .slice i j k ∧ Kn5 (i, j, k, wrap .i64 (a + 1)) h8))))) else (Kn3 (c, d, f) h)
def cD (b c : Option Addr) (d f : Nat) (a g : Addr) (Q : QT) (Kn3 : (Option Addr) × Nat × Nat → aA → Prop) (h : aA) : Prop :=
 ldN h a (kinds Tryz.prog 20 202) 0 fun i => aJ (fun (s : (Option Addr) × Nat × Nat × Int) h Kn => hY b a g i Q Kn3 s.1 s.2.1 s.2.2.1 s.2.2.2 h Kn) (c, d, f, 0) h
def gX (d : Option Addr) (Q : QT) (i : Option Addr) (g m : Nat) (h : aA) (Kn3 : (Option Addr) × Nat × Nat → aA → Prop) : Prop :=
 if (decide (((g : Nat) : Int) > 0)) = true then (bQ (0 : Int) g (nn i fun n => ldI h (n.add (((0 : Int)).toNat * 1)) .u16 fun a => fX 1 i g m (some (1 : Int)) none none fun j k l => nn d fun o => ldL h o fun p q y => bQ a q (nn p fun b => nn d fun r => ldL h r fun s t z => ldI h ((b.add (a.toNat * 259)).add 256) .u16 fun c => bQ c t (nn s fun f => ldI h ((b.add (a.toNat * 259)).add 256) .u16 fun u => st1 h ((b.add (a.toNat * 259)).add 257) (.int .u16 u) fun h3 => ldL h3 ((f.add (c.toNat * 259)).add 258) fun A w B => if (((w : Nat) : Int) == 0) = true then (ldI h3 ((f.add (c.toNat * 259)).add 257) .u16 fun x => st1 h3 ((b.add (a.toNat * 259)).add 257) (.int .u16 x) fun h4 => cD d j k l (b.add (a.toNat * 259)) (f.add (c.toNat * 259)) Q Kn3 h4) else (cD d j k l (b.add (a.toNat * 259)) (f.add (c.toNat * 259)) Q Kn3 h3))))) else (Q (.tuple #[]) h)
def im (a b : Option Addr) (c d : Nat) (Q : QT) (h : aA) : Prop :=
 aJ (fun (s : (Option Addr) × Nat × Nat) h Kn => gX a Q s.1 s.2.1 s.2.2 h Kn) (b, c, d) h
def gW (k : Option Addr) (l : List Value) (Q : QT) (b : Option Addr) (c d : Nat) (a : Int) (h : aA) (Kn1 : (Option Addr) × Nat × Nat × Int → aA → Prop) : Prop :=
 if (decide (a < 256)) = true then (bQ a 256 (∃ v, l.toArray[a.toNat]? = some v ∧ ∃ f, v = .int .u16 f ∧ if (f != 0) = true then (alV h (.cells #[.int .u16 f] yg) fun m h1 => dN Tryz.prog .append #[kJ, kJ] kJ #[false, false] #[.slice b c d, .slice (some m) 1 1] h1 fun v h2 => ∃ g i j, v = .slice g i j ∧ Kn1 (g, i, j, wrap .i64 (a + 1)) h2) else (Kn1 (b, c, d, wrap .i64 (a + 1)) h))) else (im k b c d Q h)
def kO (a : Option Addr) (Q : QT) (h : aA) : Prop :=
 nn a fun b => ldL h b fun c d i => bQ (0 : Int) d (nn c fun f => ldN h (f.add (((0 : Int)).toNat * 259)) (kinds Tryz.prog 20 202) 0 fun g => aJ (fun (s : (Option Addr) × Nat × Nat × Int) h Kn => gW a g Q s.1 s.2.1 s.2.2.1 s.2.2.2 h Kn) (none, 0, 0, 0) h)
set_option maxRecDepth 100000 in
theorem qk (d : _) {Q : QT} {h : aA} (hk : kO d Q h) : aD Tryz.prog hU #[.pointer d] h Q :=
 aU follows Tryz.func82 (Tryz.call82 _) rfl rfl [(16, fun e h => dP (e 0) fun d => dL (e 2) fun a b c => im d a b c Q h)] [(6, fun e h => dP (e 0) fun d => dG (e 16) fun k => dL (e 2) fun a b c => dI .i64 (e 17) fun f => aJ (fun (s : (Option Addr) × Nat × Nat × Int) h Kn => gW d k Q s.1 s.2.1 s.2.2.1 s.2.2.2 h Kn) (a, b, c, f) h), (16, fun e h => dP (e 0) fun d => dL (e 2) fun a b c => aJ (fun (s : (Option Addr) × Nat × Nat) h Kn => gX d Q s.1 s.2.1 s.2.2 h Kn) (a, b, c) h)]
 ⟨fun e h _ hk => by
 have F := Ag.nil (e := e)
 have ⟨d, F, hk⟩ := eP F hk
 have ⟨a, b, c, F, hk⟩ := eL F hk
 exact jj F (by as_aux_lemma => kernel_rfl) hk, trivial⟩
 ⟨⟨by kernel_rfl, fun e h he hk => by
 have F := Ag.nil (e := e)
 have ⟨d, F, hk⟩ := eP F hk
 have ⟨k, F, hk⟩ := eG F hk
 have ⟨a, b, c, F, hk⟩ := eL F hk
 have ⟨f, F, hk⟩ := eI F hk
 exact cE (s0 := (a, b, c, f)) follows (fun _ h => by cases h) he F (fun s => [(17, .int .i64 s.2.2.2), (2, .slice s.1 s.2.1 s.2.2.1)]) (by kernel_rfl) (F.take 2) hk (fun Kn1 e h => dL (e 2) fun a b c => dI .i64 (e 17) fun f => Kn1 (a, b, c, f) h) (fun Kn1 e h hk => by
  have F := Ag.nil (e := e)
  have ⟨a, b, c, F, hk⟩ := eL F hk
  have ⟨f, F, hk⟩ := eI F hk
  exact ⟨(a, b, c, f), F, hk⟩)
  (fun Kn1 => []) (fun Kn1 => [])
  (fun Kn1 => trivial)
  (fun Kn1 => trivial) (fun e s h Kn1 => by as_aux_lemma => kernel_rfl)⟩, ⟨by kernel_rfl, fun e h he hk => by
 have F := Ag.nil (e := e)
 have ⟨d, F, hk⟩ := eP F hk
 have ⟨a, b, c, F, hk⟩ := eL F hk
 exact cE (s0 := (a, b, c)) follows (fun _ h => by cases h) he F (fun s => [(2, .slice s.1 s.2.1 s.2.2)]) (by kernel_rfl) (F.take 1) hk (fun Kn3 e h => dL (e 2) fun a b c => Kn3 (a, b, c) h) (fun Kn3 e h hk => by
  have F := Ag.nil (e := e)
  have ⟨a, b, c, F, hk⟩ := eL F hk
  exact ⟨(a, b, c), F, hk⟩)
  (fun Kn3 => [(32, fun e h => dP (e 0) fun d => dL (e 2) fun a b c => dA (e 6) fun i => dA (e 7) fun j => cD d a b c i j Q Kn3 h)]) (fun Kn3 => [(34, fun e h => dP (e 0) fun d => dA (e 6) fun i => dA (e 7) fun j => dG (e 73) fun l => dL (e 2) fun a b c => dI .i64 (e 74) fun g => aJ (fun (s : (Option Addr) × Nat × Nat × Int) h Kn => hY d i j l Q Kn3 s.1 s.2.1 s.2.2.1 s.2.2.2 h Kn) (a, b, c, g) h)])
  (fun Kn3 => ⟨fun e h _ hk => by
 have F := Ag.nil (e := e)
 have ⟨d, F, hk⟩ := eP F hk
 have ⟨a, b, c, F, hk⟩ := eL F hk
 have ⟨i, F, hk⟩ := eA F hk
 have ⟨j, F, hk⟩ := eA F hk
 exact jj F (by as_aux_lemma => kernel_rfl) hk, trivial⟩)
  (fun Kn3 => ⟨⟨by kernel_rfl, fun e h he hk => by
 have F := Ag.nil (e := e)
 have ⟨d, F, hk⟩ := eP F hk
 have ⟨i, F, hk⟩ := eA F hk
 have ⟨j, F, hk⟩ := eA F hk
 have ⟨l, F, hk⟩ := eG F hk
 have ⟨a, b, c, F, hk⟩ := eL F hk
 have ⟨g, F, hk⟩ := eI F hk
 exact cE (s0 := (a, b, c, g)) follows (uj (by kernel_rfl)) he F (fun s => [(74, .int .i64 s.2.2.2), (2, .slice s.1 s.2.1 s.2.2.1)]) (by kernel_rfl) (F.take 2) hk (fun Kn5 e h => dL (e 2) fun a b c => dI .i64 (e 74) fun g => Kn5 (a, b, c, g) h) (fun Kn5 e h hk => by
  have F := Ag.nil (e := e)
  have ⟨a, b, c, F, hk⟩ := eL F hk
  have ⟨g, F, hk⟩ := eI F hk
  exact ⟨(a, b, c, g), F, hk⟩)
  (fun Kn5 => []) (fun Kn5 => [])
  (fun Kn5 => trivial)
  (fun Kn5 => trivial) (fun e s h Kn5 => by as_aux_lemma => kernel_rfl)⟩, trivial⟩) (fun e s h Kn3 => by as_aux_lemma => kernel_rfl)⟩, trivial⟩ (by as_aux_lemma => kernel_rfl) hk
def jl (a : Option Addr) (b c : Nat) (Q : QT) (h : aA) : Prop :=
 aD Tryz.prog ii #[.slice a b c] h fun v h11 => v = .tuple #[] ∧ Q (.slice a b c) h11
def jg (b : Option Addr) (Q : QT) (c : Option Addr) (d f : Nat) (a : Int) (h : aA) (Kn2 : (Option Addr) × Nat × Nat × Int → aA → Prop) : Prop :=
 if (a != 0) = true then (nn b fun n => ldP h n fun o => nn o fun p => ldL h p fun q r G => bQ a r (nn q fun s => ldL h ((s.add (a.toNat * 259)).add 258) fun t u w => aD Tryz.prog m9 #[.slice t u w, .func (.func 111) #[.pointer b] #[]] h fun v h9 => ∃ g i j, v = .slice g i j ∧ dN Tryz.prog .append #[bK, bK] bK #[false, false] #[.slice c d f, .slice g i j] h9 fun v h10 => ∃ k l m, v = .slice k l m ∧ nn b fun x => ldP h10 x fun y => nn y fun z => ldL h10 z fun A B I => bQ a B (nn A fun C => ldI h10 ((C.add (a.toNat * 259)).add 257) .u16 fun D => Kn2 (k, l, m, D) h10))) else (jl c d f Q h)
def dW (a : Option Addr) (d : Int) (Q : QT) (h : aA) : Prop :=
 nn a fun p => ldL h (p.add 3) fun q r t => alV h (.cells #[.int .u8 d] od) fun u h4 => dN Tryz.prog .append #[aQ, aQ] aQ #[false, false] #[.slice q r t, .slice (some u) 1 1] h4 fun v h5 => ∃ f g i, v = .slice f g i ∧ nn a fun w => st1 h5 (w.add 3) (.slice f g i) fun h6 => nn a fun j => ldP h6 j fun k => nn k fun l => ldL h6 l fun m n x => nn a fun o => ldI h6 (o.add 1) .u16 fun b => bQ b n (nn m fun y => aD Tryz.prog jQ #[.int .u8 d] h6 fun v h7 => ∃ c, v = .int .u8 c ∧ (ldP h7 j fun z => (.pointer z : Value) = .pointer k) ∧ (ldL h7 l fun A B C => (.slice A B C : Value) = .slice m n x) ∧ (ldI h7 (o.add 1) .u16 fun D => (.int .u16 D : Value) = .int .u16 b) ∧ bQ c 256 (ldI h7 ((y.add (b.toNat * 259)).add (c.toNat * 1)) .u16 fun G => nn a fun I => st1 h7 (I.add 1) (.int .u16 G) fun h8 => nn a fun J => ldI h8 (J.add 1) .u16 fun L => aJ (fun (s : (Option Addr) × Nat × Nat × Int) h Kn => jg a Q s.1 s.2.1 s.2.2.1 s.2.2.2 h Kn) (none, 0, 0, L) h8))
def my (a : Option Addr) (b : Int) (Q : QT) (h : aA) : Prop :=
 nn a fun g => ldI h (g.add 2) .i64 fun i => nn a fun j => st1 h (j.add 2) (.int .i64 (wrap .i64 (i + 1))) fun h1 => nn a fun k => ldL h1 (k.add 3) fun C l D => if (((l : Nat) : Int) == 64) = true then (nn a fun m => ldL h1 (m.add 3) fun n o p => fX 1 n o p none (some (0 : Int)) none fun q r s => nn a fun t => ldL h1 (t.add 3) fun u w x => fX 1 u w x (some (1 : Int)) none none fun y z A => dN Tryz.prog .append #[aQ, aQ] aQ #[false, false] #[.slice q r s, .slice y z A] h1 fun v h2 => ∃ c d f, v = .slice c d f ∧ nn a fun B => st1 h2 (B.add 3) (.slice c d f) fun h3 => dW a b Q h3) else (dW a b Q h1)
set_option maxRecDepth 100000 in
theorem rJ (d g : _) {Q : QT} {h : aA} (hk : my d g Q h) : aD Tryz.prog fW #[.pointer d, .int .u8 g] h Q :=
 aU follows Tryz.func83 (Tryz.call83 _) rfl rfl [(10, fun e h => dP (e 0) fun d => dI .u8 (e 1) fun g => dW d g Q h), (24, fun e h => dL (e 5) fun a b c => jl a b c Q h)] [(18, fun e h => dP (e 0) fun d => dL (e 5) fun a b c => dI .u16 (e 6) fun f => aJ (fun (s : (Option Addr) × Nat × Nat × Int) h Kn => jg d Q s.1 s.2.1 s.2.2.1 s.2.2.2 h Kn) (a, b, c, f) h)]
 ⟨fun e h _ hk => by
 have F := Ag.nil (e := e)
 have ⟨d, F, hk⟩ := eP F hk
 have ⟨g, F, hk⟩ := eI F hk
 exact jj F (by as_aux_lemma => kernel_rfl) hk, fun e h _ hk => by
 have F := Ag.nil (e := e)
 have ⟨a, b, c, F, hk⟩ := eL F hk
 exact jj F (by as_aux_lemma => kernel_rfl) hk, trivial⟩
 ⟨⟨by kernel_rfl, fun e h he hk => by
 have F := Ag.nil (e := e)
 have ⟨d, F, hk⟩ := eP F hk
 have ⟨a, b, c, F, hk⟩ := eL F hk
 have ⟨f, F, hk⟩ := eI F hk
 exact cE (s0 := (a, b, c, f)) follows (fun _ h => by cases h) he F (fun s => [(6, .int .u16 s.2.2.2), (5, .slice s.1 s.2.1 s.2.2.1)]) (by kernel_rfl) (F.take 2) hk (fun Kn2 e h => dL (e 5) fun a b c => dI .u16 (e 6) fun f => Kn2 (a, b, c, f) h) (fun Kn2 e h hk => by
  have F := Ag.nil (e := e)
  have ⟨a, b, c, F, hk⟩ := eL F hk
  have ⟨f, F, hk⟩ := eI F hk
  exact ⟨(a, b, c, f), F, hk⟩)
  (fun Kn2 => []) (fun Kn2 => [])
  (fun Kn2 => trivial)
  (fun Kn2 => trivial) (fun e s h Kn2 => by as_aux_lemma => kernel_rfl)⟩, trivial⟩ (by as_aux_lemma => kernel_rfl) hk
def ik (c : Option Addr) (d k : Nat) (f : Value) (g : Int) (Q : QT) (a : Int) (h : aA) (Kn1 : Int → aA → Prop) : Prop :=
 if (decide (a < g)) = true then (bQ a d (nn c fun i => ldI h (i.add (a.toNat * 1)) .i64 fun j => lQ Tryz.prog f #[.int .i64 j] h fun v h1 => ∃ b, v = .bool b ∧ if b = true then (Q (.int .i64 a) h1) else (Kn1 (wrap .i64 (a + 1)) h1))) else (Q (.int .i64 (-1)) h)
def kV (b : Option Addr) (a c : Nat) (d : Value) (Q : QT) (h : aA) : Prop :=
 aJ (fun (s : Int) h Kn => ik b a c d ((a : Nat) : Int) Q s h Kn) 0 h
set_option maxRecDepth 100000 in
theorem pU (b c d f : _) {Q : QT} {h : aA} (hk : kV b c d f Q h) : aD Tryz.prog ij #[.slice b c d, f] h Q :=
 aU follows Tryz.func87 (Tryz.call87 _) rfl rfl [] [(6, fun e h => dL (e 0) fun b c d => dV (e 1) fun f => dI .i64 (e 7) fun g => dI .i64 (e 8) fun a => aJ (fun (s : Int) h Kn => ik b c d f g Q s h Kn) a h)]
 trivial
 ⟨⟨by kernel_rfl, fun e h he hk => by
 have F := Ag.nil (e := e)
 have ⟨b, c, d, F, hk⟩ := eL F hk
 have ⟨f, F, hk⟩ := eV F hk
 have ⟨g, F, hk⟩ := eI F hk
 have ⟨a, F, hk⟩ := eI F hk
 exact cE (s0 := a) follows (fun _ h => by cases h) he F (fun s => [(8, .int .i64 s)]) (by kernel_rfl) (F.take 1) hk (fun Kn1 e h => dI .i64 (e 8) fun a => Kn1 a h) (fun Kn1 e h hk => by
  have F := Ag.nil (e := e)
  have ⟨a, F, hk⟩ := eI F hk
  exact ⟨a, F, hk⟩)
  (fun Kn1 => []) (fun Kn1 => [])
  (fun Kn1 => trivial)
  (fun Kn1 => trivial) (fun e s h Kn1 => by as_aux_lemma => kernel_rfl)⟩, trivial⟩ (by as_aux_lemma => kernel_rfl) hk
def nG (j : Bool) (k l : Int) (m : Bool) (n o p q : Int) (a : Addr) (Q : QT) (h : aA) : Prop :=
 alV h (.cells #[.bool j, .int .u64 k, .int .u64 l] cT) fun b h1 => alV h1 (.cells #[.bool m, .int .u64 n, .int .u64 o] cT) fun c h2 => ldL h2 (a.add 21) fun r s t => ldB h2 b fun u => ldI h2 (b.add 1) .u64 fun w => ldI h2 (b.add 2) .u64 fun x => aD Tryz.prog jt #[.slice r s t, .agg #[.bool u, .int .u64 w, .int .u64 x]] h2 fun v h3 => ∃ d, v = .bool d ∧ if d = true then (ldL h3 (a.add 23) fun y z A => aD Tryz.prog jd #[.slice y z A, .int .i64 p] h3 fun v h4 => ∃ f, v = .bool f ∧ if f = true then (ldL h4 (a.add 22) fun B C D => ldB h4 c fun G => ldI h4 (c.add 1) .u64 fun I => ldI h4 (c.add 2) .u64 fun J => aD Tryz.prog jt #[.slice B C D, .agg #[.bool G, .int .u64 I, .int .u64 J]] h4 fun v h5 => ∃ g, v = .bool g ∧ if g = true then (ldL h5 (a.add 24) fun L M N => aD Tryz.prog jd #[.slice L M N, .int .i64 q] h5 fun v h6 => ∃ i, v = .bool i ∧ Q (.bool i) h6) else (Q (.bool false) h5)) else (Q (.bool false) h4)) else (Q (.bool false) h3)
set_option maxRecDepth 100000 in
theorem tm (a b c d f g i j k : _) {Q : QT} {h : aA} (hk : nG a b c d f g i j k Q h) : aD Tryz.prog gZ #[.agg #[.bool a, .int .u64 b, .int .u64 c], .agg #[.bool d, .int .u64 f, .int .u64 g], .int .i64 i, .int .i64 j, .pointer (some k)] h Q :=
 aU follows Tryz.func88 (Tryz.call88 _) rfl rfl [] []
 trivial
 trivial (by as_aux_lemma => kernel_rfl) hk
def pW (d : Option Addr) (f g : Nat) (i : Bool) (j k : Int) (Q : QT) (h : aA) : Prop :=
 alV h (.cells #[.bool i, .int .u64 j, .int .u64 k] cT) fun a h1 => ldB h1 a fun l => ldI h1 (a.add 1) .u64 fun m => ldI h1 (a.add 2) .u64 fun n => aD Tryz.prog jD #[.agg #[.bool l, .int .u64 m, .int .u64 n]] h1 fun v h2 => ∃ b, v = .bool b ∧ if b = true then (aD Tryz.prog cJ #[.slice d f g, .func (.func 121) #[] #[.pointer (some a)]] h2 fun v h3 => ∃ c, v = .bool c ∧ Q (.bool c) h3) else (Q (.bool false) h2)
set_option maxRecDepth 100000 in
theorem vk (a b c d f g : _) {Q : QT} {h : aA} (hk : pW a b c d f g Q h) : aD Tryz.prog jt #[.slice a b c, .agg #[.bool d, .int .u64 f, .int .u64 g]] h Q :=
 aU follows Tryz.func89 (Tryz.call89 _) rfl rfl [] []
 trivial
 trivial (by as_aux_lemma => kernel_rfl) hk
def pi (c : Option Addr) (d f : Nat) (g : Int) (Q : QT) (h : aA) : Prop :=
 alV h (.cells #[.int .i64 g] qd) fun a h1 => ldI h1 a .i64 fun i => if (decide (i ≥ 0)) = true then (ldI h1 a .i64 fun j => if (decide (j ≤ 4294967296)) = true then (aD Tryz.prog cN #[.slice c d f, .func (.func 125) #[] #[.pointer (some a)]] h1 fun v h2 => ∃ b, v = .bool b ∧ Q (.bool b) h2) else (Q (.bool false) h1)) else (Q (.bool false) h1)
set_option maxRecDepth 100000 in
theorem uH (a b c d : _) {Q : QT} {h : aA} (hk : pi a b c d Q h) : aD Tryz.prog jd #[.slice a b c, .int .i64 d] h Q :=
 aU follows Tryz.func90 (Tryz.call90 _) rfl rfl [] []
 trivial
 trivial (by as_aux_lemma => kernel_rfl) hk
def ue (a : Int) (Q : QT) (h : aA) : Prop :=
 if (a == 1) = true then (Q (.func (.func 143) #[] #[]) h) else (if (a == 2) = true then (Q (.func (.func 144) #[] #[]) h) else (if (a == 3) = true then (Q (.func (.func 145) #[] #[]) h) else (if (a == 4) = true then (Q (.func (.func 146) #[] #[]) h) else (if (a == 5) = true then (Q (.func (.func 147) #[] #[]) h) else (if (a == 6) = true then (Q (.func (.func 148) #[] #[]) h) else (Q (.func (.func 149) #[] #[]) h))))))
set_option maxRecDepth 100000 in
theorem x6 (a : _) {Q : QT} {h : aA} (hk : ue a Q h) : aD Tryz.prog th #[.int .i64 a] h Q :=
 aU follows Tryz.func100 (Tryz.call100 _) rfl rfl [] []
 trivial
 trivial (by as_aux_lemma => kernel_rfl) hk
def oR (b : ByteArray) (Q : QT) (a : Int) (h : aA) (Kn1 : Int → aA → Prop) : Prop :=
 if (decide (a < ((b.size : Nat) : Int))) = true then (rY b a fun d => aD Tryz.prog oM #[.int .u8 d] h fun v h2 => ∃ c, v = .bool c ∧ if (!c) = true then (Q (.bool false) h2) else (Kn1 (wrap .i64 (a + 1)) h2)) else (Q (.bool true) h)
def tP (a : ByteArray) (Q : QT) (h : aA) : Prop :=
 if (a.toList == (⟨#[]⟩ : ByteArray).toList) = true then (Q (.bool false) h) else (if (decide (((a.size : Nat) : Int) > 32)) = true then (Q (.bool false) h) else (rY a (0 : Int) fun c => aD Tryz.prog lU #[.int .u8 c] h fun v h1 => ∃ b, v = .bool b ∧ if (!b) = true then (Q (.bool false) h1) else (aJ (fun (s : Int) h Kn => oR a Q s h Kn) 0 h1)))
set_option maxRecDepth 100000 in
theorem yD (b : _) {Q : QT} {h : aA} (hk : tP b Q h) : aD Tryz.prog jZ #[.string b] h Q :=
 aU follows Tryz.func101 (Tryz.call101 _) rfl rfl [] [(10, fun e h => dS (e 0) fun b => dI .i64 (e 3) fun a => aJ (fun (s : Int) h Kn => oR b Q s h Kn) a h)]
 trivial
 ⟨⟨by kernel_rfl, fun e h he hk => by
 have F := Ag.nil (e := e)
 have ⟨b, F, hk⟩ := eS F hk
 have ⟨a, F, hk⟩ := eI F hk
 exact cE (s0 := a) follows (fun _ h => by cases h) he F (fun s => [(3, .int .i64 s)]) (by kernel_rfl) (F.take 1) hk (fun Kn1 e h => dI .i64 (e 3) fun a => Kn1 a h) (fun Kn1 e h hk => by
  have F := Ag.nil (e := e)
  have ⟨a, F, hk⟩ := eI F hk
  exact ⟨a, F, hk⟩)
  (fun Kn1 => []) (fun Kn1 => [])
  (fun Kn1 => trivial)
  (fun Kn1 => trivial) (fun e s h Kn1 => by as_aux_lemma => kernel_rfl)⟩, trivial⟩ (by as_aux_lemma => kernel_rfl) hk
def tY (a : Int) (b : Bool) (Q : QT) (h : aA) : Prop :=
 if (decide (a ≤ 1024)) = true then (if (decide (a ≥ 0)) = true then (Q (.bool true) h) else (if b = true then (Q (.bool (decide (a ≥ (-1024)))) h) else (Q (.bool false) h))) else (Q (.bool false) h)
set_option maxRecDepth 100000 in
theorem yL (a b : _) {Q : QT} {h : aA} (hk : tY a b Q h) : aD Tryz.prog gR #[.int .i64 a, .bool b] h Q :=
 aU follows Tryz.func102 (Tryz.call102 _) rfl rfl [] []
 trivial
 trivial (by as_aux_lemma => kernel_rfl) hk
def qo (f : Option Addr) (c l : Nat) (Q : QT) (a : Int) (h : aA) (Kn1 : Int → aA → Prop) : Prop :=
 if (decide (a < ((c : Nat) : Int))) = true then (bQ a c (nn f fun b => ldB h (b.add (a.toNat * 4)) fun g => ldS h ((b.add (a.toNat * 4)).add 1) fun i => ldI h ((b.add (a.toNat * 4)).add 2) .i64 fun j => ldI h ((b.add (a.toNat * 4)).add 3) .i64 fun k => aD Tryz.prog rb #[.agg #[.bool g, .string i, .int .i64 j, .int .i64 k]] h fun v h1 => ∃ d, v = .bool d ∧ if (!d) = true then (Q (.bool false) h1) else (Kn1 (wrap .i64 (a + 1)) h1))) else (Q (.bool true) h)
def uW (a : Option Addr) (b c : Nat) (Q : QT) (h : aA) : Prop :=
 aJ (fun (s : Int) h Kn => qo a b c Q s h Kn) 0 h
set_option maxRecDepth 100000 in
theorem zx (b c d : _) {Q : QT} {h : aA} (hk : uW b c d Q h) : aD Tryz.prog mI #[.slice b c d] h Q :=
 aU follows Tryz.func103 (Tryz.call103 _) rfl rfl [] [(6, fun e h => dL (e 0) fun b c d => dI .i64 (e 3) fun a => aJ (fun (s : Int) h Kn => qo b c d Q s h Kn) a h)]
 trivial
 ⟨⟨by kernel_rfl, fun e h he hk => by
 have F := Ag.nil (e := e)
 have ⟨b, c, d, F, hk⟩ := eL F hk
 have ⟨a, F, hk⟩ := eI F hk
 exact cE (s0 := a) follows (fun _ h => by cases h) he F (fun s => [(3, .int .i64 s)]) (by kernel_rfl) (F.take 1) hk (fun Kn1 e h => dI .i64 (e 3) fun a => Kn1 a h) (fun Kn1 e h hk => by
  have F := Ag.nil (e := e)
  have ⟨a, F, hk⟩ := eI F hk
  exact ⟨a, F, hk⟩)
  (fun Kn1 => []) (fun Kn1 => [])
  (fun Kn1 => trivial)
  (fun Kn1 => trivial) (fun e s h Kn1 => by as_aux_lemma => kernel_rfl)⟩, trivial⟩ (by as_aux_lemma => kernel_rfl) hk
def qA (b c d f : Int) (Q : QT) (h : aA) : Prop :=
 alV h (.cells #[.int .i64 b, .int .i64 c, .int .i64 d, .int .i64 f] sO) fun a h1 => ldI h1 a .i64 fun g => if (g == 0) = true then (ldI h1 a .i64 fun i => ldI h1 (a.add 1) .i64 fun j => ldI h1 (a.add 2) .i64 fun k => ldI h1 (a.add 3) .i64 fun l => Q (.bool ((i == (0 : Int)) && ((j == (0 : Int)) && ((k == (0 : Int)) && ((l == (0 : Int)) && true))))) h1) else (ldI h1 a .i64 fun m => if (decide (m ≥ 1)) = true then (ldI h1 a .i64 fun n => if (decide (n ≤ 3)) = true then (ldI h1 (a.add 1) .i64 fun o => if (decide (o ≥ 1)) = true then (ldI h1 (a.add 1) .i64 fun p => if (decide (p ≤ 3)) = true then (ldI h1 (a.add 2) .i64 fun q => if (decide (q ≥ 1)) = true then (ldI h1 (a.add 2) .i64 fun r => if (decide (r ≤ 65536)) = true then (ldI h1 (a.add 3) .i64 fun s => if (decide (s ≥ 1)) = true then (ldI h1 (a.add 3) .i64 fun t => Q (.bool (decide (t ≤ 86400))) h1) else (Q (.bool false) h1)) else (Q (.bool false) h1)) else (Q (.bool false) h1)) else (Q (.bool false) h1)) else (Q (.bool false) h1)) else (Q (.bool false) h1)) else (Q (.bool false) h1))
set_option maxRecDepth 100000 in
theorem vR (a b c d : _) {Q : QT} {h : aA} (hk : qA a b c d Q h) : aD Tryz.prog mi #[.agg #[.int .i64 a, .int .i64 b, .int .i64 c, .int .i64 d]] h Q :=
 aU follows Tryz.func104 (Tryz.call104 _) rfl rfl [] []
 trivial
 trivial (by as_aux_lemma => kernel_rfl) hk
def oX (m : Bool) (n o p : Int) (Q : QT) (h : aA) : Prop :=
 alV h (.cells #[.bool m, .int .u64 n, .int .u64 o, .int .i64 p] wn) fun a h1 => ldB h1 a fun q => ldI h1 (a.add 1) .u64 fun r => ldI h1 (a.add 2) .u64 fun s => aD Tryz.prog pN #[.agg #[.bool q, .int .u64 r, .int .u64 s]] h1 fun v h2 => ∃ b, v = .bool b ∧ if b = true then (ldI h2 (a.add 3) .i64 fun t => if (decide (t ≥ 0)) = true then (ldI h2 (a.add 3) .i64 fun c => ldB h2 a fun u => ldI h2 (a.add 1) .u64 fun w => ldI h2 (a.add 2) .u64 fun x => aD Tryz.prog mY #[.agg #[.bool u, .int .u64 w, .int .u64 x]] h2 fun v h3 => ∃ d, v = .int .i64 d ∧ (ldI h3 (a.add 3) .i64 fun y => (.int .i64 y : Value) = .int .i64 c) ∧ if (decide (c ≤ d)) = true then (ldB h3 a fun z => ldI h3 (a.add 1) .u64 fun A => ldI h3 (a.add 2) .u64 fun B => ldI h3 (a.add 3) .i64 fun C => ldB h3 a fun f => ldI h3 (a.add 1) .u64 fun g => ldI h3 (a.add 2) .u64 fun i => aD Tryz.prog qN #[.agg #[.bool z, .int .u64 A, .int .u64 B], .int .i64 C, .bool false] h3 fun v h4 => ∃ j k l, v = .agg #[.bool j, .int .u64 k, .int .u64 l] ∧ (ldB h4 a fun D => ldI h4 (a.add 1) .u64 fun G => ldI h4 (a.add 2) .u64 fun I => (.agg #[.bool D, .int .u64 G, .int .u64 I] : Value) = .agg #[.bool f, .int .u64 g, .int .u64 i]) ∧ Q (.bool ((j == f) && ((k == g) && ((l == i) && true)))) h4) else (Q (.bool false) h3)) else (Q (.bool false) h2)) else (Q (.bool false) h2)
set_option maxRecDepth 100000 in
theorem uI (a b c d : _) {Q : QT} {h : aA} (hk : oX a b c d Q h) : aD Tryz.prog kL #[.agg #[.bool a, .int .u64 b, .int .u64 c, .int .i64 d]] h Q :=
 aU follows Tryz.func105 (Tryz.call105 _) rfl rfl [] []
 trivial
 trivial (by as_aux_lemma => kernel_rfl) hk
def kf (l : Addr) (m : Option Addr) (n S : Nat) (o : Int) (Q : QT) (b a : Int) (h : aA) (Kn1 : Int × Int → aA → Prop) : Prop :=
 if (decide (a < o)) = true then (bQ a n (nn m fun c => ldS h (c.add (a.toNat * 7)) fun p => ldB h ((c.add (a.toNat * 7)).add 1) fun q => ldB h ((c.add (a.toNat * 7)).add 2) fun r => ldB h ((c.add (a.toNat * 7)).add 3) fun s => ldI h ((c.add (a.toNat * 7)).add 4) .i64 fun t => ldI h ((c.add (a.toNat * 7)).add 5) .i64 fun u => ldB h ((c.add (a.toNat * 7)).add 6) fun w => alV h (.cells #[.string (⟨#[]⟩ : ByteArray), .bool false, .bool false, .bool false, .int .i64 0, .int .i64 0, .bool false] jn) fun f h2 => stN h2 f [.string p, .bool q, .bool r, .bool s, .int .i64 t, .int .i64 u, .bool w] 0 fun h3 => ldB h3 (f.add 2) fun x => if x = true then (Kn1 (b, wrap .i64 (a + 1)) h3) else (ldS h3 f fun y => if (y.toList == (⟨#[]⟩ : ByteArray).toList) = true then (Kn1 (b, wrap .i64 (a + 1)) h3) else (ldB h3 (f.add 6) fun z => if z = true then (Q (.int .i64 a) h3) else (if (decide (b < 0)) = true then (Kn1 (a, wrap .i64 (a + 1)) h3) else (ldL h3 (l.add 14) fun A B U => bQ b B (nn A fun d => ldS h3 (d.add (b.toNat * 7)) fun C => ldB h3 ((d.add (b.toNat * 7)).add 1) fun D => ldB h3 ((d.add (b.toNat * 7)).add 2) fun G => ldB h3 ((d.add (b.toNat * 7)).add 3) fun I => ldI h3 ((d.add (b.toNat * 7)).add 4) .i64 fun J => ldI h3 ((d.add (b.toNat * 7)).add 5) .i64 fun L => ldB h3 ((d.add (b.toNat * 7)).add 6) fun M => alV h3 (.cells #[.string (⟨#[]⟩ : ByteArray), .bool false, .bool false, .bool false, .int .i64 0, .int .i64 0, .bool false] jn) fun g h4 => stN h4 g [.string C, .bool D, .bool G, .bool I, .int .i64 J, .int .i64 L, .bool M] 0 fun h5 => ldS h5 f fun N => ldS h5 g fun k => aD Tryz.prog iP #[.string N] h5 fun v h6 => ∃ i, v = .int .i64 i ∧ (ldS h6 g fun O => (.string O : Value) = .string k) ∧ aD Tryz.prog iP #[.string k] h6 fun v h7 => ∃ j, v = .int .i64 j ∧ if (decide (i > j)) = true then (Kn1 (a, wrap .i64 (a + 1)) h7) else (if (i == j) = true then (ldS h7 f fun P => ldS h7 g fun R => if (decide (((P.size : Nat) : Int) > ((R.size : Nat) : Int))) = true then (Kn1 (a, wrap .i64 (a + 1)) h7) else (Kn1 (b, wrap .i64 (a + 1)) h7)) else (Kn1 (b, wrap .i64 (a + 1)) h7))))))))) else (Q (.int .i64 b) h)
def oF (c d : Int) (f : Option Addr) (g i : Nat) (j : Option Addr) (k l : Nat) (m : Option Addr) (n o : Nat) (p : Option Addr) (q r : Nat) (t : Bool) (u w x : Int) (y : ByteArray) (z A : Int) (B : Option Addr) (C D : Nat) (G : Option Addr) (I J : Nat) (L : Option Addr) (M N : Nat) (O : Option Addr) (P R : Nat) (S U V W : Int) (Q : QT) (h : aA) : Prop :=
 alV h (.cells #[.int .i64 c, .int .i64 d, .slice f g i, .slice j k l, .slice m n o, .slice p q r, .bool t, .int .i64 u, .int .i64 w, .int .i64 x, .string y, .int .i64 z, .int .i64 A, .slice B C D, .slice G I J, .slice L M N, .slice O P R, .int .i64 S, .int .i64 U, .int .i64 V, .int .i64 W] cO) fun a h1 => ldL h1 (a.add 14) fun X b Y => aJ (fun (s : Int × Int) h Kn => kf a X b Y ((b : Nat) : Int) Q s.1 s.2 h Kn) ((-1), 0) h1
set_option maxRecDepth 100000 in
theorem ui (c d f g i j k l m n o p q r t u w x y z A B C D G I J L M N O P R S U V W : _) {Q : QT} {h : aA} (hk : oF c d f g i j k l m n o p q r t u w x y z A B C D G I J L M N O P R S U V W Q h) : aD Tryz.prog kh #[.agg #[.int .i64 c, .int .i64 d, .slice f g i, .slice j k l, .slice m n o, .slice p q r, .bool t, .int .i64 u, .int .i64 w, .int .i64 x, .string y, .int .i64 z, .int .i64 A, .slice B C D, .slice G I J, .slice L M N, .slice O P R, .int .i64 S, .int .i64 U, .int .i64 V, .int .i64 W]] h Q :=
 aU follows Tryz.func106 (Tryz.call106 _) rfl rfl [] [(8, fun e h => dA (e 1) fun X => dL (e 10) fun Y Z a0 => dI .i64 (e 11) fun a1 => dI .i64 (e 3) fun a => dI .i64 (e 12) fun b => aJ (fun (s : Int × Int) h Kn => kf X Y Z a0 a1 Q s.1 s.2 h Kn) (a, b) h)]
 trivial
 ⟨⟨by kernel_rfl, fun e h he hk => by
 have F := Ag.nil (e := e)
 have ⟨X, F, hk⟩ := eA F hk
 have ⟨Y, Z, a0, F, hk⟩ := eL F hk
 have ⟨a1, F, hk⟩ := eI F hk
 have ⟨a, F, hk⟩ := eI F hk
 have ⟨b, F, hk⟩ := eI F hk
 exact cE (s0 := (a, b)) follows (fun _ h => by cases h) he F (fun s => [(12, .int .i64 s.2), (3, .int .i64 s.1)]) (by kernel_rfl) (F.take 2) hk (fun Kn1 e h => dI .i64 (e 3) fun a => dI .i64 (e 12) fun b => Kn1 (a, b) h) (fun Kn1 e h hk => by
  have F := Ag.nil (e := e)
  have ⟨a, F, hk⟩ := eI F hk
  have ⟨b, F, hk⟩ := eI F hk
  exact ⟨(a, b), F, hk⟩)
  (fun Kn1 => []) (fun Kn1 => [])
  (fun Kn1 => trivial)
  (fun Kn1 => trivial) (fun e s h Kn1 => by as_aux_lemma => kernel_rfl)⟩, trivial⟩ (by as_aux_lemma => kernel_rfl) hk
def sX (b : ByteArray) (Q : QT) (h : aA) : Prop :=
 aD Tryz.prog gE #[.string b] h fun v h1 => ∃ a, v = .string a ∧ Q (.string a) h1
set_option maxRecDepth 100000 in
theorem xy (a : _) {Q : QT} {h : aA} (hk : sX a Q h) : aD Tryz.prog lv #[.string a] h Q :=
 aU follows Tryz.func107 (Tryz.call107 _) rfl rfl [] []
 trivial
 trivial (by as_aux_lemma => kernel_rfl) hk
def kW (c : Option Addr) (d g : Nat) (i : Option Addr) (j n : Nat) (k : Int) (Q : QT) (a : Int) (h : aA) (Kn1 : Int → aA → Prop) : Prop :=
 if (decide (a < k)) = true then (bQ a j (nn i fun l => ldI h (l.add (a.toNat * 1)) .u8 fun b => if (decide (b ≥ 65)) = true then (if (decide (b ≤ 90)) = true then (bQ a d (nn c fun m => st1 h (m.add (a.toNat * 1)) (.int .u8 (wrap .u8 (b + 32))) fun h2 => Kn1 (wrap .i64 (a + 1)) h2)) else (Kn1 (wrap .i64 (a + 1)) h)) else (Kn1 (wrap .i64 (a + 1)) h))) else (oJ Tryz.prog aQ dO (.slice c d g) h fun v h3 => ∃ f, v = .string f ∧ Q (.string f) h3)
def pm (d : ByteArray) (Q : QT) (h : aA) : Prop :=
 oJ Tryz.prog dO aQ (.string d) h fun v h1 => ∃ b a c, v = .slice b a c ∧ aJ (fun (s : Int) h Kn => kW b a c b a c ((a : Nat) : Int) Q s h Kn) 0 h1
set_option maxRecDepth 100000 in
theorem uS (b : _) {Q : QT} {h : aA} (hk : pm b Q h) : aD Tryz.prog kX #[.string b] h Q :=
 aU follows Tryz.func108 (Tryz.call108 _) rfl rfl [] [(8, fun e h => dL (e 3) fun c d f => dL (e 8) fun g i j => dI .i64 (e 9) fun k => dI .i64 (e 10) fun a => aJ (fun (s : Int) h Kn => kW c d f g i j k Q s h Kn) a h)]
 trivial
 ⟨⟨by kernel_rfl, fun e h he hk => by
 have F := Ag.nil (e := e)
 have ⟨c, d, f, F, hk⟩ := eL F hk
 have ⟨g, i, j, F, hk⟩ := eL F hk
 have ⟨k, F, hk⟩ := eI F hk
 have ⟨a, F, hk⟩ := eI F hk
 exact cE (s0 := a) follows (fun _ h => by cases h) he F (fun s => [(10, .int .i64 s)]) (by kernel_rfl) (F.take 1) hk (fun Kn1 e h => dI .i64 (e 10) fun a => Kn1 a h) (fun Kn1 e h hk => by
  have F := Ag.nil (e := e)
  have ⟨a, F, hk⟩ := eI F hk
  exact ⟨a, F, hk⟩)
  (fun Kn1 => []) (fun Kn1 => [])
  (fun Kn1 => trivial)
  (fun Kn1 => trivial) (fun e s h Kn1 => by as_aux_lemma => kernel_rfl)⟩, trivial⟩ (by as_aux_lemma => kernel_rfl) hk
def qD (a : Int) (Q : QT) (h : aA) : Prop :=
 if (decide (65 ≤ a)) = true then (if (decide (a ≤ 90)) = true then (Q (.int .u8 (wrap .u8 ((wrap .u8 (a + 97)) - 65))) h) else (Q (.int .u8 a) h)) else (Q (.int .u8 a) h)
set_option maxRecDepth 100000 in
theorem wd (a : _) {Q : QT} {h : aA} (hk : qD a Q h) : aD Tryz.prog jQ #[.int .u8 a] h Q :=
 aU follows Tryz.func109 (Tryz.call109 _) rfl rfl [] []
 trivial
 trivial (by as_aux_lemma => kernel_rfl) hk
def mE (l : Value) (m : Option Addr) (n r : Nat) (o : Int) (Q : QT) (b : Option Addr) (c d : Nat) (a : Int) (h : aA) (Kn1 : (Option Addr) × Nat × Nat × Int → aA → Prop) : Prop :=
 if (decide (a < o)) = true then (bQ a n (nn m fun p => ldI h (p.add (a.toNat * 1)) .i64 fun f => lQ Tryz.prog l #[.int .i64 f] h fun v h1 => ∃ g, v = .bool g ∧ if g = true then (alV h1 (.cells #[.int .i64 f] qd) fun q h2 => dN Tryz.prog .append #[bK, bK] bK #[false, false] #[.slice b c d, .slice (some q) 1 1] h2 fun v h3 => ∃ i j k, v = .slice i j k ∧ Kn1 (i, j, k, wrap .i64 (a + 1)) h3) else (Kn1 (b, c, d, wrap .i64 (a + 1)) h1))) else (Q (.slice b c d) h)
def rj (b : Option Addr) (a c : Nat) (d : Value) (Q : QT) (h : aA) : Prop :=
 aJ (fun (s : (Option Addr) × Nat × Nat × Int) h Kn => mE d b a c ((a : Nat) : Int) Q s.1 s.2.1 s.2.2.1 s.2.2.2 h Kn) (none, 0, 0, 0) h
set_option maxRecDepth 100000 in
theorem wG (g i j f : _) {Q : QT} {h : aA} (hk : rj g i j f Q h) : aD Tryz.prog m9 #[.slice g i j, f] h Q :=
 aU follows Tryz.func110 (Tryz.call110 _) rfl rfl [] [(8, fun e h => dV (e 1) fun f => dL (e 8) fun k l m => dI .i64 (e 9) fun n => dL (e 5) fun a b c => dI .i64 (e 10) fun d => aJ (fun (s : (Option Addr) × Nat × Nat × Int) h Kn => mE f k l m n Q s.1 s.2.1 s.2.2.1 s.2.2.2 h Kn) (a, b, c, d) h)]
 trivial
 ⟨⟨by kernel_rfl, fun e h he hk => by
 have F := Ag.nil (e := e)
 have ⟨f, F, hk⟩ := eV F hk
 have ⟨k, l, m, F, hk⟩ := eL F hk
 have ⟨n, F, hk⟩ := eI F hk
 have ⟨a, b, c, F, hk⟩ := eL F hk
 have ⟨d, F, hk⟩ := eI F hk
 exact cE (s0 := (a, b, c, d)) follows (fun _ h => by cases h) he F (fun s => [(10, .int .i64 s.2.2.2), (5, .slice s.1 s.2.1 s.2.2.1)]) (by kernel_rfl) (F.take 2) hk (fun Kn1 e h => dL (e 5) fun a b c => dI .i64 (e 10) fun d => Kn1 (a, b, c, d) h) (fun Kn1 e h hk => by
  have F := Ag.nil (e := e)
  have ⟨a, b, c, F, hk⟩ := eL F hk
  have ⟨d, F, hk⟩ := eI F hk
  exact ⟨(a, b, c, d), F, hk⟩)
  (fun Kn1 => []) (fun Kn1 => [])
  (fun Kn1 => trivial)
  (fun Kn1 => trivial) (fun e s h Kn1 => by as_aux_lemma => kernel_rfl)⟩, trivial⟩ (by as_aux_lemma => kernel_rfl) hk
def lH (b : Option Addr) (c : Int) (Q : QT) (h : aA) : Prop :=
 nn b fun i => ldP h i fun j => nn j fun k => ldL h (k.add 1) fun l m C => bQ c m (nn l fun d => ldS h (d.add (c.toNat * 2)) fun n => ldB h ((d.add (c.toNat * 2)).add 1) fun o => alV h (.cells #[.string (⟨#[]⟩ : ByteArray), .bool false] bC) fun a h1 => stN h1 a [.string n, .bool o] 0 fun h2 => ldB h2 (a.add 1) fun p => if p = true then (Q (.bool true) h2) else (nn b fun q => ldL h2 (q.add 3) fun r s t => nn b fun u => ldL h2 (u.add 3) fun D w G => ldS h2 a fun x => fX 1 r s t (some (wrap .i64 (((w : Nat) : Int) - ((x.size : Nat) : Int)))) none none fun y z A => ldS h2 a fun f => oJ Tryz.prog aQ dO (.slice y z A) h2 fun v h3 => ∃ g, v = .string g ∧ (ldS h3 a fun B => (.string B : Value) = .string f) ∧ Q (.bool (g.toList == f.toList)) h3))
set_option maxRecDepth 100000 in
theorem re (a b : _) {Q : QT} {h : aA} (hk : lH a b Q h) : aD Tryz.prog lB #[.pointer a, .int .i64 b] h Q :=
 aU follows Tryz.func111 (Tryz.call111 _) rfl rfl [] []
 trivial
 trivial (by as_aux_lemma => kernel_rfl) hk
end Go.Proofs.YtjmfpeiidlpngaaGreatDoor
namespace Go.Proofs.YtjmfpeiidlpngaaGreatDoor
set_option linter.unusedSimpArgs false
set_option linter.unusedVariables false
set_option maxRecDepth 20000
open Go IntKind
variable [Gh]
def sZ (b : Bool) (c d : Int) (Q : QT) (h : aA) : Prop :=
 alV h (.cells #[.bool b, .int .u64 c, .int .u64 d] cT) fun a h1 => ldB h1 a fun f => if f = true then (Q (.bool true) h1) else (ldI h1 (a.add 1) .u64 fun g => if (g == 0) = true then (ldI h1 (a.add 2) .u64 fun i => Q (.bool (decide (i ≤ 4294967295))) h1) else (Q (.bool false) h1))
set_option maxRecDepth 100000 in
theorem xx (a b c : _) {Q : QT} {h : aA} (hk : sZ a b c Q h) : aD Tryz.prog jD #[.agg #[.bool a, .int .u64 b, .int .u64 c]] h Q :=
 aU follows Tryz.func119 (Tryz.call119 _) rfl rfl [] []
 trivial
 trivial (by as_aux_lemma => kernel_rfl) hk
def fB (b : Option Addr) (c d : Nat) (f : Value) (Q : QT) (h : aA) : Prop :=
 aD Tryz.prog fV #[.slice b c d, f] h fun v h1 => ∃ a, v = .int .i64 a ∧ Q (.bool (decide (a ≥ 0))) h1
set_option maxRecDepth 100000 in
theorem jY (a b c d : _) {Q : QT} {h : aA} (hk : fB a b c d Q h) : aD Tryz.prog cJ #[.slice a b c, d] h Q :=
 aU follows Tryz.func120 (Tryz.call120 _) rfl rfl [] []
 trivial
 trivial (by as_aux_lemma => kernel_rfl) hk
def ox (g : Bool) (i j : Int) (k : Bool) (l m : Int) (b : Addr) (Q : QT) (h : aA) : Prop :=
 alV h (.cells #[.bool g, .int .u64 i, .int .u64 j, .bool k, .int .u64 l, .int .u64 m] ml) fun a h1 => ldB h1 a fun n => ldI h1 (a.add 1) .u64 fun o => ldI h1 (a.add 2) .u64 fun p => ldB h1 (a.add 3) fun q => ldI h1 (a.add 4) .u64 fun r => ldI h1 (a.add 5) .u64 fun s => aD Tryz.prog oQ #[.agg #[.bool n, .int .u64 o, .int .u64 p, .bool q, .int .u64 r, .int .u64 s]] h1 fun v h2 => ∃ c, v = .bool c ∧ if c = true then (ldB h2 a fun t => ldB h2 b fun u => if (t == u) = true then (ldB h2 a fun w => ldI h2 (a.add 1) .u64 fun x => ldI h2 (a.add 2) .u64 fun y => ldB h2 b fun z => ldI h2 (b.add 1) .u64 fun A => ldI h2 (b.add 2) .u64 fun B => aD Tryz.prog iD #[.agg #[.bool w, .int .u64 x, .int .u64 y], .agg #[.bool z, .int .u64 A, .int .u64 B]] h2 fun v h3 => ∃ d, v = .int .i64 d ∧ if (decide (d ≤ 0)) = true then (ldB h3 b fun C => ldI h3 (b.add 1) .u64 fun D => ldI h3 (b.add 2) .u64 fun G => ldB h3 (a.add 3) fun I => ldI h3 (a.add 4) .u64 fun J => ldI h3 (a.add 5) .u64 fun L => aD Tryz.prog iD #[.agg #[.bool C, .int .u64 D, .int .u64 G], .agg #[.bool I, .int .u64 J, .int .u64 L]] h3 fun v h4 => ∃ f, v = .int .i64 f ∧ Q (.bool (decide (f ≤ 0))) h4) else (Q (.bool false) h3)) else (Q (.bool false) h2)) else (Q (.bool false) h2)
set_option maxRecDepth 100000 in
theorem uc (a b c d f g i : _) {Q : QT} {h : aA} (hk : ox a b c d f g i Q h) : aD Tryz.prog nH #[.agg #[.bool a, .int .u64 b, .int .u64 c, .bool d, .int .u64 f, .int .u64 g], .pointer (some i)] h Q :=
 aU follows Tryz.func121 (Tryz.call121 _) rfl rfl [] []
 trivial
 trivial (by as_aux_lemma => kernel_rfl) hk
def tM (f : Bool) (g i : Int) (j : Bool) (k l : Int) (Q : QT) (h : aA) : Prop :=
 alV h (.cells #[.bool f, .int .u64 g, .int .u64 i, .bool j, .int .u64 k, .int .u64 l] ml) fun a h1 => ldB h1 a fun m => ldI h1 (a.add 1) .u64 fun n => ldI h1 (a.add 2) .u64 fun o => aD Tryz.prog jD #[.agg #[.bool m, .int .u64 n, .int .u64 o]] h1 fun v h2 => ∃ b, v = .bool b ∧ if b = true then (ldB h2 (a.add 3) fun p => ldI h2 (a.add 4) .u64 fun q => ldI h2 (a.add 5) .u64 fun r => aD Tryz.prog jD #[.agg #[.bool p, .int .u64 q, .int .u64 r]] h2 fun v h3 => ∃ c, v = .bool c ∧ if c = true then (ldB h3 a fun s => ldB h3 (a.add 3) fun t => if (s == t) = true then (ldB h3 a fun u => ldI h3 (a.add 1) .u64 fun w => ldI h3 (a.add 2) .u64 fun x => ldB h3 (a.add 3) fun y => ldI h3 (a.add 4) .u64 fun z => ldI h3 (a.add 5) .u64 fun A => aD Tryz.prog iD #[.agg #[.bool u, .int .u64 w, .int .u64 x], .agg #[.bool y, .int .u64 z, .int .u64 A]] h3 fun v h4 => ∃ d, v = .int .i64 d ∧ Q (.bool (decide (d ≤ 0))) h4) else (Q (.bool false) h3)) else (Q (.bool false) h3)) else (Q (.bool false) h2)
set_option maxRecDepth 100000 in
theorem zb (a b c d f g : _) {Q : QT} {h : aA} (hk : tM a b c d f g Q h) : aD Tryz.prog oQ #[.agg #[.bool a, .int .u64 b, .int .u64 c, .bool d, .int .u64 f, .int .u64 g]] h Q :=
 aU follows Tryz.func122 (Tryz.call122 _) rfl rfl [] []
 trivial
 trivial (by as_aux_lemma => kernel_rfl) hk
def qJ (c : Bool) (d f : Int) (g : Bool) (i j : Int) (Q : QT) (h : aA) : Prop :=
 alV h (.cells #[.bool c, .int .u64 d, .int .u64 f] cT) fun b h1 => alV h1 (.cells #[.bool g, .int .u64 i, .int .u64 j] cT) fun a h2 => ldB h2 b fun k => ldI h2 (b.add 1) .u64 fun l => ldI h2 (b.add 2) .u64 fun m => ldB h2 a fun n => ldI h2 (a.add 1) .u64 fun o => ldI h2 (a.add 2) .u64 fun p => if ((k == n) && ((l == o) && ((m == p) && true))) = true then (Q (.int .i64 0) h2) else (ldB h2 b fun q => ldB h2 a fun r => if (!(q == r)) = true then (ldB h2 a fun s => if s = true then (Q (.int .i64 (-1)) h2) else (Q (.int .i64 1) h2)) else (ldI h2 (b.add 1) .u64 fun t => ldI h2 (a.add 1) .u64 fun u => if (t != u) = true then (ldI h2 (b.add 1) .u64 fun w => ldI h2 (a.add 1) .u64 fun x => if (decide (w < x)) = true then (Q (.int .i64 (-1)) h2) else (Q (.int .i64 1) h2)) else (ldI h2 (b.add 2) .u64 fun y => ldI h2 (a.add 2) .u64 fun z => if (decide (y < z)) = true then (Q (.int .i64 (-1)) h2) else (Q (.int .i64 1) h2))))
set_option maxRecDepth 100000 in
theorem wu (a b c d f g : _) {Q : QT} {h : aA} (hk : qJ a b c d f g Q h) : aD Tryz.prog iD #[.agg #[.bool a, .int .u64 b, .int .u64 c], .agg #[.bool d, .int .u64 f, .int .u64 g]] h Q :=
 aU follows Tryz.func123 (Tryz.call123 _) rfl rfl [] []
 trivial
 trivial (by as_aux_lemma => kernel_rfl) hk
def fT (b : Option Addr) (c d : Nat) (f : Value) (Q : QT) (h : aA) : Prop :=
 aD Tryz.prog gL #[.slice b c d, f] h fun v h1 => ∃ a, v = .int .i64 a ∧ Q (.bool (decide (a ≥ 0))) h1
set_option maxRecDepth 100000 in
theorem kE (a b c d : _) {Q : QT} {h : aA} (hk : fT a b c d Q h) : aD Tryz.prog cN #[.slice a b c, d] h Q :=
 aU follows Tryz.func124 (Tryz.call124 _) rfl rfl [] []
 trivial
 trivial (by as_aux_lemma => kernel_rfl) hk
def nh (c d : Int) (a : Addr) (Q : QT) (h : aA) : Prop :=
 alV h (.cells #[.int .i64 c, .int .i64 d] pR) fun b h1 => ldI h1 b .i64 fun f => ldI h1 a .i64 fun g => if (decide (f ≤ g)) = true then (ldI h1 a .i64 fun i => ldI h1 (b.add 1) .i64 fun j => Q (.bool (decide (i ≤ j))) h1) else (Q (.bool false) h1)
set_option maxRecDepth 100000 in
theorem tt (a b c : _) {Q : QT} {h : aA} (hk : nh a b c Q h) : aD Tryz.prog mF #[.agg #[.int .i64 a, .int .i64 b], .pointer (some c)] h Q :=
 aU follows Tryz.func125 (Tryz.call125 _) rfl rfl [] []
 trivial
 trivial (by as_aux_lemma => kernel_rfl) hk
def jv (c : Option Addr) (d g : Nat) (i : Option Addr) (j n : Nat) (k : Int) (Q : QT) (a : Int) (h : aA) (Kn1 : Int → aA → Prop) : Prop :=
 if (decide (a < k)) = true then (bQ a j (nn i fun l => ldI h (l.add (a.toNat * 1)) .u8 fun b => if (decide (65 ≤ b)) = true then (if (decide (b ≤ 90)) = true then (bQ a d (nn c fun m => st1 h (m.add (a.toNat * 1)) (.int .u8 (wrap .u8 ((wrap .u8 (b + 97)) - 65))) fun h2 => Kn1 (wrap .i64 (a + 1)) h2)) else (Kn1 (wrap .i64 (a + 1)) h)) else (Kn1 (wrap .i64 (a + 1)) h))) else (oJ Tryz.prog aQ dO (.slice c d g) h fun v h3 => ∃ f, v = .string f ∧ Q (.string f) h3)
def mN (d : ByteArray) (Q : QT) (h : aA) : Prop :=
 oJ Tryz.prog wz aQ (.string d) h fun v h1 => ∃ b a c, v = .slice b a c ∧ aJ (fun (s : Int) h Kn => jv b a c b a c ((a : Nat) : Int) Q s h Kn) 0 h1
set_option maxRecDepth 100000 in
theorem rV (b : _) {Q : QT} {h : aA} (hk : mN b Q h) : aD Tryz.prog mp #[.string b] h Q :=
 aU follows Tryz.func143 (Tryz.call143 _) rfl rfl [] [(8, fun e h => dL (e 3) fun c d f => dL (e 8) fun g i j => dI .i64 (e 9) fun k => dI .i64 (e 10) fun a => aJ (fun (s : Int) h Kn => jv c d f g i j k Q s h Kn) a h)]
 trivial
 ⟨⟨by kernel_rfl, fun e h he hk => by
 have F := Ag.nil (e := e)
 have ⟨c, d, f, F, hk⟩ := eL F hk
 have ⟨g, i, j, F, hk⟩ := eL F hk
 have ⟨k, F, hk⟩ := eI F hk
 have ⟨a, F, hk⟩ := eI F hk
 exact cE (s0 := a) follows (fun _ h => by cases h) he F (fun s => [(10, .int .i64 s)]) (by kernel_rfl) (F.take 1) hk (fun Kn1 e h => dI .i64 (e 10) fun a => Kn1 a h) (fun Kn1 e h hk => by
  have F := Ag.nil (e := e)
  have ⟨a, F, hk⟩ := eI F hk
  exact ⟨a, F, hk⟩)
  (fun Kn1 => []) (fun Kn1 => [])
  (fun Kn1 => trivial)
  (fun Kn1 => trivial) (fun e s h Kn1 => by as_aux_lemma => kernel_rfl)⟩, trivial⟩ (by as_aux_lemma => kernel_rfl) hk
def cG (d : ByteArray) (f : Option Addr) (g i : Nat) (j n k : Int) (Q : QT) (Kn1 : (Option Addr) × Nat × Nat × Int → aA → Prop) (h : aA) : Prop :=
 rY d j fun l => alV h (.cells #[.int .u8 l] od) fun m h2 => dN Tryz.prog .append #[aQ, aQ] aQ #[false, false] #[.slice f g i, .slice (some m) 1 1] h2 fun v h3 => ∃ a b c, v = .slice a b c ∧ Kn1 (a, b, c, wrap .i64 (k + 1)) h3
def jz (g : ByteArray) (i : Int) (Q : QT) (b : Option Addr) (c d : Nat) (a : Int) (h : aA) (Kn1 : (Option Addr) × Nat × Nat × Int → aA → Prop) : Prop :=
 if (decide (a < i)) = true then (rY g a fun f => if (f == 9) = true then (if (f == 9) = true then (Kn1 (b, c, d, wrap .i64 (a + 1)) h) else (cG g b c d a i a Q Kn1 h)) else (if (f == 10) = true then (if (f == 10) = true then (Kn1 (b, c, d, wrap .i64 (a + 1)) h) else (cG g b c d a i a Q Kn1 h)) else (if (f == 13) = true then (if (f == 13) = true then (Kn1 (b, c, d, wrap .i64 (a + 1)) h) else (cG g b c d a i a Q Kn1 h)) else (if (f == 32) = true then (Kn1 (b, c, d, wrap .i64 (a + 1)) h) else (cG g b c d a i a Q Kn1 h))))) else (oJ Tryz.prog aQ dO (.slice b c d) h fun v h1 => ∃ j, v = .string j ∧ Q (.string j) h1)
def mB (a : ByteArray) (Q : QT) (h : aA) : Prop :=
 aJ (fun (s : (Option Addr) × Nat × Nat × Int) h Kn => jz a ((a.size : Nat) : Int) Q s.1 s.2.1 s.2.2.1 s.2.2.2 h Kn) (none, 0, 0, 0) h
set_option maxRecDepth 100000 in
theorem r9 (f : _) {Q : QT} {h : aA} (hk : mB f Q h) : aD Tryz.prog mo #[.string f] h Q :=
 aU follows Tryz.func144 (Tryz.call144 _) rfl rfl [] [(8, fun e h => dS (e 0) fun f => dI .i64 (e 6) fun g => dL (e 3) fun a b c => dI .i64 (e 7) fun d => aJ (fun (s : (Option Addr) × Nat × Nat × Int) h Kn => jz f g Q s.1 s.2.1 s.2.2.1 s.2.2.2 h Kn) (a, b, c, d) h)]
 trivial
 ⟨⟨by kernel_rfl, fun e h he hk => by
 have F := Ag.nil (e := e)
 have ⟨f, F, hk⟩ := eS F hk
 have ⟨g, F, hk⟩ := eI F hk
 have ⟨a, b, c, F, hk⟩ := eL F hk
 have ⟨d, F, hk⟩ := eI F hk
 exact cE (s0 := (a, b, c, d)) follows (fun _ h => by cases h) he F (fun s => [(7, .int .i64 s.2.2.2), (3, .slice s.1 s.2.1 s.2.2.1)]) (by kernel_rfl) (F.take 2) hk (fun Kn1 e h => dL (e 3) fun a b c => dI .i64 (e 7) fun d => Kn1 (a, b, c, d) h) (fun Kn1 e h hk => by
  have F := Ag.nil (e := e)
  have ⟨a, b, c, F, hk⟩ := eL F hk
  have ⟨d, F, hk⟩ := eI F hk
  exact ⟨(a, b, c, d), F, hk⟩)
  (fun Kn1 => [(15, fun e h => dS (e 0) fun f => dL (e 3) fun a b c => dI .i64 (e 4) fun i => dI .i64 (e 6) fun g => dI .i64 (e 7) fun d => cG f a b c i g d Q Kn1 h)]) (fun Kn1 => [])
  (fun Kn1 => ⟨fun e h _ hk => by
 have F := Ag.nil (e := e)
 have ⟨f, F, hk⟩ := eS F hk
 have ⟨a, b, c, F, hk⟩ := eL F hk
 have ⟨i, F, hk⟩ := eI F hk
 have ⟨g, F, hk⟩ := eI F hk
 have ⟨d, F, hk⟩ := eI F hk
 exact jj F (by as_aux_lemma => kernel_rfl) hk, trivial⟩)
  (fun Kn1 => trivial) (fun e s h Kn1 => by as_aux_lemma => kernel_rfl)⟩, trivial⟩ (by as_aux_lemma => kernel_rfl) hk
def cA (f : ByteArray) (g : Option Addr) (i j : Nat) (a : Int) (Q : QT) (Kn1 : (Option Addr) × Nat × Nat × Int → aA → Prop) (h : aA) : Prop :=
 rY f a fun k => alV h (.cells #[.int .u8 k] od) fun l h6 => dN Tryz.prog .append #[aQ, aQ] aQ #[false, false] #[.slice g i j, .slice (some l) 1 1] h6 fun v h7 => ∃ b c d, v = .slice b c d ∧ Kn1 (b, c, d, wrap .i64 (a + 1)) h7
def iI (b : ByteArray) (Q : QT) (c : Option Addr) (d f : Nat) (a : Int) (h : aA) (Kn1 : (Option Addr) × Nat × Nat × Int → aA → Prop) : Prop :=
 if (decide (a < ((b.size : Nat) : Int))) = true then (rY b a fun n => if (n == 37) = true then (if (decide ((wrap .i64 (((b.size : Nat) : Int) - a)) > 2)) = true then (rY b (wrap .i64 (a + 1)) fun o => rY b (wrap .i64 (a + 2)) fun p => aD Tryz.prog iz #[.int .u8 o] h fun v h1 => ∃ g, v = .int .i64 g ∧ aD Tryz.prog iz #[.int .u8 p] h1 fun v h2 => ∃ i, v = .int .i64 i ∧ if (decide (g ≥ 0)) = true then (if (decide (i ≥ 0)) = true then (alV h2 (.cells #[.int .u8 (wrap .u8 (wrap .i64 ((wrap .i64 (16 * g)) + i)))] od) fun q h3 => dN Tryz.prog .append #[aQ, aQ] aQ #[false, false] #[.slice c d f, .slice (some q) 1 1] h3 fun v h4 => ∃ j k l, v = .slice j k l ∧ Kn1 (j, k, l, wrap .i64 ((wrap .i64 (a + 2)) + 1)) h4) else (cA b c d f a Q Kn1 h2)) else (cA b c d f a Q Kn1 h2)) else (cA b c d f a Q Kn1 h)) else (cA b c d f a Q Kn1 h)) else (oJ Tryz.prog aQ dO (.slice c d f) h fun v h5 => ∃ m, v = .string m ∧ Q (.string m) h5)
def lL (a : ByteArray) (Q : QT) (h : aA) : Prop :=
 aJ (fun (s : (Option Addr) × Nat × Nat × Int) h Kn => iI a Q s.1 s.2.1 s.2.2.1 s.2.2.2 h Kn) (none, 0, 0, 0) h
set_option maxRecDepth 100000 in
theorem qR (f : _) {Q : QT} {h : aA} (hk : lL f Q h) : aD Tryz.prog ly #[.string f] h Q :=
 aU follows Tryz.func145 (Tryz.call145 _) rfl rfl [] [(8, fun e h => dS (e 0) fun f => dL (e 3) fun a b c => dI .i64 (e 4) fun d => aJ (fun (s : (Option Addr) × Nat × Nat × Int) h Kn => iI f Q s.1 s.2.1 s.2.2.1 s.2.2.2 h Kn) (a, b, c, d) h)]
 trivial
 ⟨⟨by kernel_rfl, fun e h he hk => by
 have F := Ag.nil (e := e)
 have ⟨f, F, hk⟩ := eS F hk
 have ⟨a, b, c, F, hk⟩ := eL F hk
 have ⟨d, F, hk⟩ := eI F hk
 exact cE (s0 := (a, b, c, d)) follows (fun _ h => by cases h) he F (fun s => [(4, .int .i64 s.2.2.2), (3, .slice s.1 s.2.1 s.2.2.1)]) (by kernel_rfl) (F.take 2) hk (fun Kn1 e h => dL (e 3) fun a b c => dI .i64 (e 4) fun d => Kn1 (a, b, c, d) h) (fun Kn1 e h hk => by
  have F := Ag.nil (e := e)
  have ⟨a, b, c, F, hk⟩ := eL F hk
  have ⟨d, F, hk⟩ := eI F hk
  exact ⟨(a, b, c, d), F, hk⟩)
  (fun Kn1 => [(22, fun e h => dS (e 0) fun f => dL (e 3) fun a b c => dI .i64 (e 4) fun d => cA f a b c d Q Kn1 h)]) (fun Kn1 => [])
  (fun Kn1 => ⟨fun e h _ hk => by
 have F := Ag.nil (e := e)
 have ⟨f, F, hk⟩ := eS F hk
 have ⟨a, b, c, F, hk⟩ := eL F hk
 have ⟨d, F, hk⟩ := eI F hk
 exact jj F (by as_aux_lemma => kernel_rfl) hk, trivial⟩)
  (fun Kn1 => trivial) (fun e s h Kn1 => by as_aux_lemma => kernel_rfl)⟩, trivial⟩ (by as_aux_lemma => kernel_rfl) hk
def jh (k : ByteArray) (o : Int) (Q : QT) (c : Option Addr) (d f : Nat) (j a b : Int) (h : aA) (Kn1 : (Option Addr) × Nat × Nat × Int × Int × Int → aA → Prop) : Prop :=
 if (decide (b < o)) = true then (rY k b fun p => if (p == 61) = true then (oJ Tryz.prog aQ dO (.slice c d f) h fun v h1 => ∃ g, v = .string g ∧ Q (.string g) h1) else (rY k b fun q => aD Tryz.prog jf #[.string (⟨#[65, 66, 67, 68, 69, 70, 71, 72, 73, 74, 75, 76, 77, 78, 79, 80, 81, 82, 83, 84, 85, 86, 87, 88, 89, 90, 97, 98, 99, 100, 101, 102, 103, 104, 105, 106, 107, 108, 109, 110, 111, 112, 113, 114, 115, 116, 117, 118, 119, 120, 121, 122, 48, 49, 50, 51, 52, 53, 54, 55, 56, 57, 43, 47]⟩ : ByteArray), .int .u8 q] h fun v h2 => ∃ i, v = .int .i64 i ∧ if (decide (i < 0)) = true then (Kn1 (c, d, f, j, a, wrap .i64 (b + 1)) h2) else (0 ≤ (6 : Int) ∧ if (decide ((wrap .i64 (a + 6)) ≥ 8)) = true then (0 ≤ (wrap .i64 ((wrap .i64 (a + 6)) - 8)) ∧ alV h2 (.cells #[.int .u8 (wrap .u8 (Int.fdiv (wrap .i64 (BitVec.toNat (BitVec.ofInt (IntKind.bits .i64) (wrap .i64 (j * 2 ^ (min (Int.toNat 6) (IntKind.bits .i64)))) ||| BitVec.ofInt (IntKind.bits .i64) i) : Int)) (2 ^ (min (Int.toNat (wrap .i64 ((wrap .i64 (a + 6)) - 8))) (IntKind.bits .i64)))))] od) fun r h3 => dN Tryz.prog .append #[aQ, aQ] aQ #[false, false] #[.slice c d f, .slice (some r) 1 1] h3 fun v h4 => ∃ l m n, v = .slice l m n ∧ 0 ≤ (wrap .i64 ((wrap .i64 (a + 6)) - 8)) ∧ Kn1 (l, m, n, wrap .i64 (BitVec.toNat (BitVec.ofInt (IntKind.bits .i64) (wrap .i64 (BitVec.toNat (BitVec.ofInt (IntKind.bits .i64) (wrap .i64 (j * 2 ^ (min (Int.toNat 6) (IntKind.bits .i64)))) ||| BitVec.ofInt (IntKind.bits .i64) i) : Int)) &&& BitVec.ofInt (IntKind.bits .i64) (wrap .i64 ((wrap .i64 (1 * 2 ^ (min (Int.toNat (wrap .i64 ((wrap .i64 (a + 6)) - 8))) (IntKind.bits .i64)))) - 1))) : Int), wrap .i64 ((wrap .i64 (a + 6)) - 8), wrap .i64 (b + 1)) h4) else (Kn1 (c, d, f, wrap .i64 (BitVec.toNat (BitVec.ofInt (IntKind.bits .i64) (wrap .i64 (j * 2 ^ (min (Int.toNat 6) (IntKind.bits .i64)))) ||| BitVec.ofInt (IntKind.bits .i64) i) : Int), wrap .i64 (a + 6), wrap .i64 (b + 1)) h2)))) else (oJ Tryz.prog aQ dO (.slice c d f) h fun v h5 => ∃ g, v = .string g ∧ Q (.string g) h5)
def mr (a : ByteArray) (Q : QT) (h : aA) : Prop :=
 aJ (fun (s : (Option Addr) × Nat × Nat × Int × Int × Int) h Kn => jh a ((a.size : Nat) : Int) Q s.1 s.2.1 s.2.2.1 s.2.2.2.1 s.2.2.2.2.1 s.2.2.2.2.2 h Kn) (none, 0, 0, 0, 0, 0) h
set_option maxRecDepth 100000 in
theorem rm (i : _) {Q : QT} {h : aA} (hk : mr i Q h) : aD Tryz.prog lS #[.string i] h Q :=
 aU follows Tryz.func146 (Tryz.call146 _) rfl rfl [] [(10, fun e h => dS (e 0) fun i => dI .i64 (e 9) fun j => dL (e 3) fun a b c => dI .i64 (e 4) fun d => dI .i64 (e 5) fun f => dI .i64 (e 10) fun g => aJ (fun (s : (Option Addr) × Nat × Nat × Int × Int × Int) h Kn => jh i j Q s.1 s.2.1 s.2.2.1 s.2.2.2.1 s.2.2.2.2.1 s.2.2.2.2.2 h Kn) (a, b, c, d, f, g) h)]
 trivial
 ⟨⟨by kernel_rfl, fun e h he hk => by
 have F := Ag.nil (e := e)
 have ⟨i, F, hk⟩ := eS F hk
 have ⟨j, F, hk⟩ := eI F hk
 have ⟨a, b, c, F, hk⟩ := eL F hk
 have ⟨d, F, hk⟩ := eI F hk
 have ⟨f, F, hk⟩ := eI F hk
 have ⟨g, F, hk⟩ := eI F hk
 exact cE (s0 := (a, b, c, d, f, g)) follows (fun _ h => by cases h) he F (fun s => [(10, .int .i64 s.2.2.2.2.2), (5, .int .i64 s.2.2.2.2.1), (4, .int .i64 s.2.2.2.1), (3, .slice s.1 s.2.1 s.2.2.1)]) (by kernel_rfl) (F.take 4) hk (fun Kn1 e h => dL (e 3) fun a b c => dI .i64 (e 4) fun d => dI .i64 (e 5) fun f => dI .i64 (e 10) fun g => Kn1 (a, b, c, d, f, g) h) (fun Kn1 e h hk => by
  have F := Ag.nil (e := e)
  have ⟨a, b, c, F, hk⟩ := eL F hk
  have ⟨d, F, hk⟩ := eI F hk
  have ⟨f, F, hk⟩ := eI F hk
  have ⟨g, F, hk⟩ := eI F hk
  exact ⟨(a, b, c, d, f, g), F, hk⟩)
  (fun Kn1 => []) (fun Kn1 => [])
  (fun Kn1 => trivial)
  (fun Kn1 => trivial) (fun e s h Kn1 => by as_aux_lemma => kernel_rfl)⟩, trivial⟩ (by as_aux_lemma => kernel_rfl) hk
def gY (p q : ByteArray) (b : Option Addr) (a c : Nat) (r : Option Addr) (s t : Nat) (j : ByteArray) (u : Option Addr) (w x : Nat) (y d : Int) (k : ByteArray) (Q : QT) (Kn2 : (Option Addr) × Nat × Nat × Int → aA → Prop) (h : aA) : Prop :=
 if (k.toList == (⟨#[46, 46]⟩ : ByteArray).toList) = true then (fX 1 b a c none (some (if (0 : Int) > (wrap .i64 (((a : Nat) : Int) - 1)) then (0 : Int) else (wrap .i64 (((a : Nat) : Int) - 1)))) none fun l m n => Kn2 (l, m, n, wrap .i64 (d + 1)) h) else (alV h (.cells #[.string j] dO) fun o h3 => dN Tryz.prog .append #[kU, kU] kU #[false, false] #[.slice b a c, .slice (some o) 1 1] h3 fun v h4 => ∃ f g i, v = .slice f g i ∧ Kn2 (f, g, i, wrap .i64 (d + 1)) h4)
def eE (a b : ByteArray) (Q : QT) (h : aA) : Prop :=
 ((b.size + a.size : Nat) : Int) ≤ IntKind.max .i64 ∧ Q (.string (b ++ a)) h
def aY (a b : ByteArray) (Q : QT) (h : aA) : Prop :=
 if (b.toList == (⟨#[]⟩ : ByteArray).toList) = true then (eE a (⟨#[47]⟩ : ByteArray) Q h) else (eE a b Q h)
def eQ (c : ByteArray) (i : Option Addr) (g j : Nat) (k : Option Addr) (d m : Nat) (b : ByteArray) (Q : QT) (h : aA) : Prop :=
 aD Tryz.prog lT #[.slice i g j, .string (⟨#[47]⟩ : ByteArray)] h fun v h6 => ∃ a, v = .string a ∧ ((b.size + a.size : Nat) : Int) ≤ IntKind.max .i64 ∧ bQ (wrap .i64 (((d : Nat) : Int) - 1)) d (nn k fun l => ldS h6 (l.add (((wrap .i64 (((d : Nat) : Int) - 1))).toNat * 1)) fun f => if (decide (((g : Nat) : Int) > 0)) = true then (if (f.toList == (⟨#[]⟩ : ByteArray).toList) = true then ((((b ++ a).size + (⟨#[47]⟩ : ByteArray).size : Nat) : Int) ≤ IntKind.max .i64 ∧ aY c ((b ++ a) ++ (⟨#[47]⟩ : ByteArray)) Q h6) else (if (f.toList == (⟨#[46]⟩ : ByteArray).toList) = true then ((((b ++ a).size + (⟨#[47]⟩ : ByteArray).size : Nat) : Int) ≤ IntKind.max .i64 ∧ aY c ((b ++ a) ++ (⟨#[47]⟩ : ByteArray)) Q h6) else (if (f.toList == (⟨#[46, 46]⟩ : ByteArray).toList) = true then ((((b ++ a).size + (⟨#[47]⟩ : ByteArray).size : Nat) : Int) ≤ IntKind.max .i64 ∧ aY c ((b ++ a) ++ (⟨#[47]⟩ : ByteArray)) Q h6) else (aY c (b ++ a) Q h6)))) else (aY c (b ++ a) Q h6))
def jT (k a : ByteArray) (b : Option Addr) (c d : Nat) (f : Option Addr) (g i : Nat) (Q : QT) (h : aA) : Prop :=
 aD Tryz.prog kG #[.string k, .string (⟨#[47]⟩ : ByteArray)] h fun v h5 => ∃ j, v = .bool j ∧ if j = true then (eQ a b c d f g i (⟨#[47]⟩ : ByteArray) Q h5) else (eQ a b c d f g i (⟨#[]⟩ : ByteArray) Q h5)
def jK (g i : ByteArray) (j : Option Addr) (k l : Nat) (m : Option Addr) (n p : Nat) (o : Int) (Q : QT) (c : Option Addr) (d f : Nat) (a : Int) (h : aA) (Kn2 : (Option Addr) × Nat × Nat × Int → aA → Prop) : Prop :=
 if (decide (a < o)) = true then (bQ a n (nn m fun q => ldS h (q.add (a.toNat * 1)) fun b => if (b.toList == (⟨#[]⟩ : ByteArray).toList) = true then (if (b.toList == (⟨#[]⟩ : ByteArray).toList) = true then (Kn2 (c, d, f, wrap .i64 (a + 1)) h) else (gY g i c d f j k l b m n p o a b Q Kn2 h)) else (if (b.toList == (⟨#[46]⟩ : ByteArray).toList) = true then (Kn2 (c, d, f, wrap .i64 (a + 1)) h) else (gY g i c d f j k l b m n p o a b Q Kn2 h)))) else (jT g i c d f j k l Q h)
def eH (d f : ByteArray) (Q : QT) (h : aA) : Prop :=
 aD Tryz.prog nW #[.string d, .string (⟨#[47]⟩ : ByteArray)] h fun v h2 => ∃ b a c, v = .slice b a c ∧ aJ (fun (s : (Option Addr) × Nat × Nat × Int) h Kn => jK d f b a c b a c ((a : Nat) : Int) Q s.1 s.2.1 s.2.2.1 s.2.2.2 h Kn) (none, 0, 0, 0) h2
def nB (a : ByteArray) (Q : QT) (h : aA) : Prop :=
 aD Tryz.prog jf #[.string a, .int .u8 63] h fun v h1 => ∃ b, v = .int .i64 b ∧ if (decide (b ≥ 0)) = true then (ro a none (some b) fun c => ro a (some b) none fun d => eH c d Q h1) else (eH a (⟨#[]⟩ : ByteArray) Q h1)
set_option maxRecDepth 100000 in
theorem tu (q : _) {Q : QT} {h : aA} (hk : nB q Q h) : aD Tryz.prog mD #[.string q] h Q :=
 aU follows Tryz.func147 (Tryz.call147 _) rfl rfl [(12, fun e h => dS (e 3) fun f => dS (e 4) fun a => eH f a Q h), (36, fun e h => dS (e 3) fun f => dS (e 4) fun a => dL (e 6) fun b c d => dL (e 7) fun g i j => jT f a b c d g i j Q h), (42, fun e h => dS (e 4) fun a => dL (e 6) fun b c d => dL (e 7) fun g i j => dS (e 10) fun l => eQ a b c d g i j l Q h), (50, fun e h => dS (e 4) fun a => dS (e 10) fun l => aY a l Q h), (54, fun e h => dS (e 4) fun a => dS (e 10) fun l => eE a l Q h)] [(18, fun e h => dS (e 3) fun f => dS (e 4) fun a => dL (e 7) fun g i j => dL (e 25) fun m n o => dI .i64 (e 26) fun p => dL (e 6) fun b c d => dI .i64 (e 27) fun k => aJ (fun (s : (Option Addr) × Nat × Nat × Int) h Kn => jK f a g i j m n o p Q s.1 s.2.1 s.2.2.1 s.2.2.2 h Kn) (b, c, d, k) h)]
 ⟨fun e h _ hk => by
 have F := Ag.nil (e := e)
 have ⟨f, F, hk⟩ := eS F hk
 have ⟨a, F, hk⟩ := eS F hk
 exact jj F (by as_aux_lemma => kernel_rfl) hk, fun e h _ hk => by
 have F := Ag.nil (e := e)
 have ⟨f, F, hk⟩ := eS F hk
 have ⟨a, F, hk⟩ := eS F hk
 have ⟨b, c, d, F, hk⟩ := eL F hk
 have ⟨g, i, j, F, hk⟩ := eL F hk
 exact jj F (by as_aux_lemma => kernel_rfl) hk, fun e h _ hk => by
 have F := Ag.nil (e := e)
 have ⟨a, F, hk⟩ := eS F hk
 have ⟨b, c, d, F, hk⟩ := eL F hk
 have ⟨g, i, j, F, hk⟩ := eL F hk
 have ⟨l, F, hk⟩ := eS F hk
 exact jj F (by as_aux_lemma => kernel_rfl) hk, fun e h _ hk => by
 have F := Ag.nil (e := e)
 have ⟨a, F, hk⟩ := eS F hk
 have ⟨l, F, hk⟩ := eS F hk
 exact jj F (by as_aux_lemma => kernel_rfl) hk, fun e h _ hk => by
 have F := Ag.nil (e := e)
 have ⟨a, F, hk⟩ := eS F hk
 have ⟨l, F, hk⟩ := eS F hk
 exact jj F (by as_aux_lemma => kernel_rfl) hk, trivial⟩
 ⟨⟨by kernel_rfl, fun e h he hk => by
 have F := Ag.nil (e := e)
 have ⟨f, F, hk⟩ := eS F hk
 have ⟨a, F, hk⟩ := eS F hk
 have ⟨g, i, j, F, hk⟩ := eL F hk
 have ⟨m, n, o, F, hk⟩ := eL F hk
 have ⟨p, F, hk⟩ := eI F hk
 have ⟨b, c, d, F, hk⟩ := eL F hk
 have ⟨k, F, hk⟩ := eI F hk
 exact cE (s0 := (b, c, d, k)) follows (fun _ h => by cases h) he F (fun s => [(27, .int .i64 s.2.2.2), (6, .slice s.1 s.2.1 s.2.2.1)]) (by kernel_rfl) (F.take 2) hk (fun Kn2 e h => dL (e 6) fun b c d => dI .i64 (e 27) fun k => Kn2 (b, c, d, k) h) (fun Kn2 e h hk => by
  have F := Ag.nil (e := e)
  have ⟨b, c, d, F, hk⟩ := eL F hk
  have ⟨k, F, hk⟩ := eI F hk
  exact ⟨(b, c, d, k), F, hk⟩)
  (fun Kn2 => [(31, fun e h => dS (e 3) fun f => dS (e 4) fun a => dL (e 6) fun b c d => dL (e 7) fun g i j => dS (e 9) fun r => dL (e 25) fun m n o => dI .i64 (e 26) fun p => dI .i64 (e 27) fun k => dS (e 31) fun t => gY f a b c d g i j r m n o p k t Q Kn2 h)]) (fun Kn2 => [])
  (fun Kn2 => ⟨fun e h _ hk => by
 have F := Ag.nil (e := e)
 have ⟨f, F, hk⟩ := eS F hk
 have ⟨a, F, hk⟩ := eS F hk
 have ⟨b, c, d, F, hk⟩ := eL F hk
 have ⟨g, i, j, F, hk⟩ := eL F hk
 have ⟨r, F, hk⟩ := eS F hk
 have ⟨m, n, o, F, hk⟩ := eL F hk
 have ⟨p, F, hk⟩ := eI F hk
 have ⟨k, F, hk⟩ := eI F hk
 have ⟨t, F, hk⟩ := eS F hk
 exact jj F (by as_aux_lemma => kernel_rfl) hk, trivial⟩)
  (fun Kn2 => trivial) (fun e s h Kn2 => by as_aux_lemma => kernel_rfl)⟩, trivial⟩ (by as_aux_lemma => kernel_rfl) hk
def ke (m : ByteArray) (n : Int) (Q : QT) (b : Option Addr) (c d : Nat) (g a : Int) (h : aA) (Kn1 : (Option Addr) × Nat × Nat × Int × Int → aA → Prop) : Prop :=
 if (decide (a < n)) = true then (rY m a fun o => aD Tryz.prog iz #[.int .u8 o] h fun v h1 => ∃ f, v = .int .i64 f ∧ if (decide (f < 0)) = true then (Kn1 (b, c, d, g, wrap .i64 (a + 1)) h1) else (if (decide (g < 0)) = true then (Kn1 (b, c, d, f, wrap .i64 (a + 1)) h1) else (alV h1 (.cells #[.int .u8 (wrap .u8 (wrap .i64 ((wrap .i64 (16 * g)) + f)))] od) fun p h2 => dN Tryz.prog .append #[aQ, aQ] aQ #[false, false] #[.slice b c d, .slice (some p) 1 1] h2 fun v h3 => ∃ i j k, v = .slice i j k ∧ Kn1 (i, j, k, (-1), wrap .i64 (a + 1)) h3))) else (oJ Tryz.prog aQ dO (.slice b c d) h fun v h4 => ∃ l, v = .string l ∧ Q (.string l) h4)
def oK (a : ByteArray) (Q : QT) (h : aA) : Prop :=
 aJ (fun (s : (Option Addr) × Nat × Nat × Int × Int) h Kn => ke a ((a.size : Nat) : Int) Q s.1 s.2.1 s.2.2.1 s.2.2.2.1 s.2.2.2.2 h Kn) (none, 0, 0, (-1), 0) h
set_option maxRecDepth 100000 in
theorem tF (g : _) {Q : QT} {h : aA} (hk : oK g Q h) : aD Tryz.prog nk #[.string g] h Q :=
 aU follows Tryz.func148 (Tryz.call148 _) rfl rfl [] [(10, fun e h => dS (e 0) fun g => dI .i64 (e 8) fun i => dL (e 3) fun a b c => dI .i64 (e 4) fun d => dI .i64 (e 9) fun f => aJ (fun (s : (Option Addr) × Nat × Nat × Int × Int) h Kn => ke g i Q s.1 s.2.1 s.2.2.1 s.2.2.2.1 s.2.2.2.2 h Kn) (a, b, c, d, f) h)]
 trivial
 ⟨⟨by kernel_rfl, fun e h he hk => by
 have F := Ag.nil (e := e)
 have ⟨g, F, hk⟩ := eS F hk
 have ⟨i, F, hk⟩ := eI F hk
 have ⟨a, b, c, F, hk⟩ := eL F hk
 have ⟨d, F, hk⟩ := eI F hk
 have ⟨f, F, hk⟩ := eI F hk
 exact cE (s0 := (a, b, c, d, f)) follows (fun _ h => by cases h) he F (fun s => [(9, .int .i64 s.2.2.2.2), (4, .int .i64 s.2.2.2.1), (3, .slice s.1 s.2.1 s.2.2.1)]) (by kernel_rfl) (F.take 3) hk (fun Kn1 e h => dL (e 3) fun a b c => dI .i64 (e 4) fun d => dI .i64 (e 9) fun f => Kn1 (a, b, c, d, f) h) (fun Kn1 e h hk => by
  have F := Ag.nil (e := e)
  have ⟨a, b, c, F, hk⟩ := eL F hk
  have ⟨d, F, hk⟩ := eI F hk
  have ⟨f, F, hk⟩ := eI F hk
  exact ⟨(a, b, c, d, f), F, hk⟩)
  (fun Kn1 => []) (fun Kn1 => [])
  (fun Kn1 => trivial)
  (fun Kn1 => trivial) (fun e s h Kn1 => by as_aux_lemma => kernel_rfl)⟩, trivial⟩ (by as_aux_lemma => kernel_rfl) hk
def nE (a : ByteArray) (Q : QT) (h : aA) : Prop :=
 Q (.string a) h
set_option maxRecDepth 100000 in
theorem ti (a : _) {Q : QT} {h : aA} (hk : nE a Q h) : aD Tryz.prog m5 #[.string a] h Q :=
 aU follows Tryz.func149 (Tryz.call149 _) rfl rfl [] []
 trivial
 trivial (by as_aux_lemma => kernel_rfl) hk
def ug (a : Int) (Q : QT) (h : aA) : Prop :=
 if (decide (a ≥ 97)) = true then (if (decide (a ≤ 122)) = true then (Q (.bool true) h) else (if (decide (a ≥ 65)) = true then (Q (.bool (decide (a ≤ 90))) h) else (Q (.bool false) h))) else (if (decide (a ≥ 65)) = true then (Q (.bool (decide (a ≤ 90))) h) else (Q (.bool false) h))
set_option maxRecDepth 100000 in
theorem ym (a : _) {Q : QT} {h : aA} (hk : ug a Q h) : aD Tryz.prog lU #[.int .u8 a] h Q :=
 aU follows Tryz.func150 (Tryz.call150 _) rfl rfl [] []
 trivial
 trivial (by as_aux_lemma => kernel_rfl) hk
def tR (a : Int) (Q : QT) (h : aA) : Prop :=
 aD Tryz.prog lU #[.int .u8 a] h fun v h1 => ∃ b, v = .bool b ∧ if b = true then (Q (.bool true) h1) else (aD Tryz.prog pZ #[.int .u8 a] h1 fun v h2 => ∃ c, v = .bool c ∧ if c = true then (Q (.bool true) h2) else (Q (.bool (a == 95)) h2))
set_option maxRecDepth 100000 in
theorem yb (a : _) {Q : QT} {h : aA} (hk : tR a Q h) : aD Tryz.prog oM #[.int .u8 a] h Q :=
 aU follows Tryz.func151 (Tryz.call151 _) rfl rfl [] []
 trivial
 trivial (by as_aux_lemma => kernel_rfl) hk
def wx (b : Bool) (c : ByteArray) (d f : Int) (Q : QT) (h : aA) : Prop :=
 alV h (.cells #[.bool b, .string c, .int .i64 d, .int .i64 f] mP) fun a h1 => ldS h1 (a.add 1) fun g => if (!(g.toList == (⟨#[]⟩ : ByteArray).toList)) = true then (Q (.bool true) h1) else (ldI h1 (a.add 2) .i64 fun i => if (decide (i ≥ 0)) = true then (ldI h1 (a.add 2) .i64 fun j => ldI h1 (a.add 3) .i64 fun k => if (decide (j ≤ k)) = true then (ldI h1 (a.add 3) .i64 fun l => Q (.bool (decide (l ≤ 65535))) h1) else (Q (.bool false) h1)) else (Q (.bool false) h1))
set_option maxRecDepth 100000 in
theorem AC (a b c d : _) {Q : QT} {h : aA} (hk : wx a b c d Q h) : aD Tryz.prog rb #[.agg #[.bool a, .string b, .int .i64 c, .int .i64 d]] h Q :=
 aU follows Tryz.func152 (Tryz.call152 _) rfl rfl [] []
 trivial
 trivial (by as_aux_lemma => kernel_rfl) hk
def u2 (b : Bool) (c d : Int) (Q : QT) (h : aA) : Prop :=
 alV h (.cells #[.bool b, .int .u64 c, .int .u64 d] cT) fun a h1 => ldB h1 a fun f => if f = true then (Q (.bool true) h1) else (ldI h1 (a.add 1) .u64 fun g => if (g == 0) = true then (ldI h1 (a.add 2) .u64 fun i => Q (.bool (decide (i < 4294967296))) h1) else (Q (.bool false) h1))
set_option maxRecDepth 100000 in
theorem zv (a b c : _) {Q : QT} {h : aA} (hk : u2 a b c Q h) : aD Tryz.prog pN #[.agg #[.bool a, .int .u64 b, .int .u64 c]] h Q :=
 aU follows Tryz.func153 (Tryz.call153 _) rfl rfl [] []
 trivial
 trivial (by as_aux_lemma => kernel_rfl) hk
def va (a : Bool) (b c : Int) (Q : QT) (h : aA) : Prop :=
 alV h (.cells #[.bool a, .int .u64 b, .int .u64 c] cT) fun d h1 => ldB h1 d fun f => if f = true then (Q (.int .i64 128) h1) else (Q (.int .i64 32) h1)
set_option maxRecDepth 100000 in
theorem ze (a b c : _) {Q : QT} {h : aA} (hk : va a b c Q h) : aD Tryz.prog mY #[.agg #[.bool a, .int .u64 b, .int .u64 c]] h Q :=
 aU follows Tryz.func154 (Tryz.call154 _) rfl rfl [] []
 trivial
 trivial (by as_aux_lemma => kernel_rfl) hk
def q6 (b a : Addr) (Q : QT) (h : aA) : Prop :=
 ldB h b fun c => ldI h (b.add 1) .u64 fun d => ldI h (b.add 2) .u64 fun f => stN h a [.bool c, .int .u64 d, .int .u64 f] 0 fun h8 => ldB h8 a fun g => ldI h8 (a.add 1) .u64 fun i => ldI h8 (a.add 2) .u64 fun j => Q (.agg #[.bool g, .int .u64 i, .int .u64 j]) h8
def qT (f : Bool) (a g : Addr) (Q : QT) (b : Int) (h : aA) (Kn1 : Int → aA → Prop) : Prop :=
 ldB h a fun i => ldI h (a.add 1) .u64 fun j => ldI h (a.add 2) .u64 fun k => aD Tryz.prog mY #[.agg #[.bool i, .int .u64 j, .int .u64 k]] h fun v h3 => ∃ c, v = .int .i64 c ∧ if (decide (b < c)) = true then (ldB h3 a fun l => ldI h3 (a.add 1) .u64 fun m => ldI h3 (a.add 2) .u64 fun n => aD Tryz.prog sy #[.agg #[.bool l, .int .u64 m, .int .u64 n], .int .i64 b] h3 fun v h4 => ∃ d, v = .bool d ∧ if (d == f) = true then (Kn1 (wrap .i64 (b + 1)) h4) else (ldB h4 a fun o => if (!o) = true then (ldI h4 (a.add 2) .u64 fun p => 0 ≤ (wrap .u64 (wrap .i64 (31 - b))) ∧ st1 h4 (a.add 2) (.int .u64 (wrap .u64 (BitVec.toNat (BitVec.ofInt (IntKind.bits .u64) p ^^^ BitVec.ofInt (IntKind.bits .u64) (wrap .u64 (1 * 2 ^ (min (Int.toNat (wrap .u64 (wrap .i64 (31 - b)))) (IntKind.bits .u64))))) : Int))) fun h5 => Kn1 (wrap .i64 (b + 1)) h5) else (if (decide (b < 64)) = true then (ldI h4 (a.add 1) .u64 fun q => 0 ≤ (wrap .u64 (wrap .i64 (63 - b))) ∧ st1 h4 (a.add 1) (.int .u64 (wrap .u64 (BitVec.toNat (BitVec.ofInt (IntKind.bits .u64) q ^^^ BitVec.ofInt (IntKind.bits .u64) (wrap .u64 (1 * 2 ^ (min (Int.toNat (wrap .u64 (wrap .i64 (63 - b)))) (IntKind.bits .u64))))) : Int))) fun h6 => Kn1 (wrap .i64 (b + 1)) h6) else (ldI h4 (a.add 2) .u64 fun r => 0 ≤ (wrap .u64 (wrap .i64 (127 - b))) ∧ st1 h4 (a.add 2) (.int .u64 (wrap .u64 (BitVec.toNat (BitVec.ofInt (IntKind.bits .u64) r ^^^ BitVec.ofInt (IntKind.bits .u64) (wrap .u64 (1 * 2 ^ (min (Int.toNat (wrap .u64 (wrap .i64 (127 - b)))) (IntKind.bits .u64))))) : Int))) fun h7 => Kn1 (wrap .i64 (b + 1)) h7)))) else (q6 a g Q h3)
def vM (a : Bool) (b c d : Int) (f : Bool) (Q : QT) (h : aA) : Prop :=
 alV h (.cells #[.bool a, .int .u64 b, .int .u64 c] cT) fun g h1 => alV h1 (.cells #[.bool false, .int .u64 0, .int .u64 0] cT) fun i h2 => aJ (fun (s : Int) h Kn => qT f g i Q s h Kn) d h2
set_option maxRecDepth 100000 in
theorem AB (f g i j b : _) {Q : QT} {h : aA} (hk : vM f g i j b Q h) : aD Tryz.prog qN #[.agg #[.bool f, .int .u64 g, .int .u64 i], .int .i64 j, .bool b] h Q :=
 aU follows Tryz.func155 (Tryz.call155 _) rfl rfl [(22, fun e h => dA (e 3) fun c => dA (e 6) fun d => q6 c d Q h)] [(6, fun e h => dB (e 2) fun b => dA (e 3) fun c => dA (e 6) fun d => dI .i64 (e 7) fun a => aJ (fun (s : Int) h Kn => qT b c d Q s h Kn) a h)]
 ⟨fun e h _ hk => by
 have F := Ag.nil (e := e)
 have ⟨c, F, hk⟩ := eA F hk
 have ⟨d, F, hk⟩ := eA F hk
 exact jj F (by as_aux_lemma => kernel_rfl) hk, trivial⟩
 ⟨⟨by kernel_rfl, fun e h he hk => by
 have F := Ag.nil (e := e)
 have ⟨b, F, hk⟩ := eB F hk
 have ⟨c, F, hk⟩ := eA F hk
 have ⟨d, F, hk⟩ := eA F hk
 have ⟨a, F, hk⟩ := eI F hk
 exact cE (s0 := a) follows (fun _ h => by cases h) he F (fun s => [(7, .int .i64 s)]) (by kernel_rfl) (F.take 1) hk (fun Kn1 e h => dI .i64 (e 7) fun a => Kn1 a h) (fun Kn1 e h hk => by
  have F := Ag.nil (e := e)
  have ⟨a, F, hk⟩ := eI F hk
  exact ⟨a, F, hk⟩)
  (fun Kn1 => []) (fun Kn1 => [])
  (fun Kn1 => trivial)
  (fun Kn1 => trivial) (fun e s h Kn1 => by as_aux_lemma => kernel_rfl)⟩, trivial⟩ (by as_aux_lemma => kernel_rfl) hk
def gC (d : ByteArray) (i : Addr) (a f j b : Int) (Q : QT) (Kn1 : Int × Int → aA → Prop) (h : aA) : Prop :=
 rY d f fun g => aD Tryz.prog ko #[.int .u8 g] h fun v h3 => ∃ c, v = .bool c ∧ if c = true then (Kn1 (wrap .i64 (a - 8), wrap .i64 (b + 1)) h3) else (Kn1 (a, wrap .i64 (b + 1)) h3)
def kZ (a : Int) (Q : QT) (h : aA) : Prop :=
 Q (.int .i64 (if (1 : Int) > a then (1 : Int) else a)) h
def kH (b : ByteArray) (c : Addr) (d : Int) (Q : QT) (f a : Int) (h : aA) (Kn1 : Int × Int → aA → Prop) : Prop :=
 if (decide (a < d)) = true then (rY b a fun g => bQ g 256 (ldB h (c.add (g.toNat * 1)) fun j => if (!j) = true then (rY b a fun i => bQ i 256 (st1 h (c.add (i.toNat * 1)) (.bool true) fun h2 => gC b c (wrap .i64 (f + 16)) a d a Q Kn1 h2)) else (gC b c f a d a Q Kn1 h))) else (kZ f Q h)
def oY (a : ByteArray) (Q : QT) (h : aA) : Prop :=
 if (a.toList == (⟨#[]⟩ : ByteArray).toList) = true then (Q (.int .i64 0) h) else (alV h (.cells #[.bool false, .bool false, .bool false, .bool false, .bool false, .bool false, .bool false, .bool false, .bool false, .bool false, .bool false, .bool false, .bool false, .bool false, .bool false, .bool false, .bool false, .bool false, .bool false, .bool false, .bool false, .bool false, .bool false, .bool false, .bool false, .bool false, .bool false, .bool false, .bool false, .bool false, .bool false, .bool false, .bool false, .bool false, .bool false, .bool false, .bool false, .bool false, .bool false, .bool false, .bool false, .bool false, .bool false, .bool false, .bool false, .bool false, .bool false, .bool false, .bool false, .bool false, .bool false, .bool false, .bool false, .bool false, .bool false, .bool false, .bool false, .bool false, .bool false, .bool false, .bool false, .bool false, .bool false, .bool false, .bool false, .bool false, .bool false, .bool false, .bool false, .bool false, .bool false, .bool false, .bool false, .bool false, .bool false, .bool false, .bool false, .bool false, .bool false, .bool false, .bool false, .bool false, .bool false, .bool false, .bool false, .bool false, .bool false, .bool false, .bool false, .bool false, .bool false, .bool false, .bool false, .bool false, .bool false, .bool false, .bool false, .bool false, .bool false, .bool false, .bool false, .bool false, .bool false, .bool false, .bool false, .bool false, .bool false, .bool false, .bool false, .bool false, .bool false, .bool false, .bool false, .bool false, .bool false, .bool false, .bool false, .bool false, .bool false, .bool false, .bool false, .bool false, .bool false, .bool false, .bool false, .bool false, .bool false, .bool false, .bool false, .bool false, .bool false, .bool false, .bool false, .bool false, .bool false, .bool false, .bool false, .bool false, .bool false, .bool false, .bool false, .bool false, .bool false, .bool false, .bool false, .bool false, .bool false, .bool false, .bool false, .bool false, .bool false, .bool false, .bool false, .bool false, .bool false, .bool false, .bool false, .bool false, .bool false, .bool false, .bool false, .bool false, .bool false, .bool false, .bool false, .bool false, .bool false, .bool false, .bool false, .bool false, .bool false, .bool false, .bool false, .bool false, .bool false, .bool false, .bool false, .bool false, .bool false, .bool false, .bool false, .bool false, .bool false, .bool false, .bool false, .bool false, .bool false, .bool false, .bool false, .bool false, .bool false, .bool false, .bool false, .bool false, .bool false, .bool false, .bool false, .bool false, .bool false, .bool false, .bool false, .bool false, .bool false, .bool false, .bool false, .bool false, .bool false, .bool false, .bool false, .bool false, .bool false, .bool false, .bool false, .bool false, .bool false, .bool false, .bool false, .bool false, .bool false, .bool false, .bool false, .bool false, .bool false, .bool false, .bool false, .bool false, .bool false, .bool false, .bool false, .bool false, .bool false, .bool false, .bool false, .bool false, .bool false, .bool false, .bool false, .bool false, .bool false, .bool false, .bool false, .bool false, .bool false, .bool false, .bool false, .bool false, .bool false, .bool false, .bool false, .bool false, .bool false, .bool false, .bool false, .bool false, .bool false, .bool false] pJ) fun b h1 => aJ (fun (s : Int × Int) h Kn => kH a b ((a.size : Nat) : Int) Q s.1 s.2 h Kn) (((a.size : Nat) : Int), 0) h1)
set_option maxRecDepth 100000 in
theorem uG (c : _) {Q : QT} {h : aA} (hk : oY c Q h) : aD Tryz.prog iP #[.string c] h Q :=
 aU follows Tryz.func156 (Tryz.call156 _) rfl rfl [(30, fun e h => dI .i64 (e 4) fun a => kZ a Q h)] [(14, fun e h => dS (e 0) fun c => dA (e 3) fun d => dI .i64 (e 11) fun f => dI .i64 (e 4) fun a => dI .i64 (e 12) fun b => aJ (fun (s : Int × Int) h Kn => kH c d f Q s.1 s.2 h Kn) (a, b) h)]
 ⟨fun e h _ hk => by
 have F := Ag.nil (e := e)
 have ⟨a, F, hk⟩ := eI F hk
 exact jj F (by as_aux_lemma => kernel_rfl) hk, trivial⟩
 ⟨⟨by kernel_rfl, fun e h he hk => by
 have F := Ag.nil (e := e)
 have ⟨c, F, hk⟩ := eS F hk
 have ⟨d, F, hk⟩ := eA F hk
 have ⟨f, F, hk⟩ := eI F hk
 have ⟨a, F, hk⟩ := eI F hk
 have ⟨b, F, hk⟩ := eI F hk
 exact cE (s0 := (a, b)) follows (fun _ h => by cases h) he F (fun s => [(12, .int .i64 s.2), (4, .int .i64 s.1)]) (by kernel_rfl) (F.take 2) hk (fun Kn1 e h => dI .i64 (e 4) fun a => dI .i64 (e 12) fun b => Kn1 (a, b) h) (fun Kn1 e h hk => by
  have F := Ag.nil (e := e)
  have ⟨a, F, hk⟩ := eI F hk
  have ⟨b, F, hk⟩ := eI F hk
  exact ⟨(a, b), F, hk⟩)
  (fun Kn1 => [(24, fun e h => dS (e 0) fun c => dA (e 3) fun d => dI .i64 (e 4) fun a => dI .i64 (e 5) fun g => dI .i64 (e 11) fun f => dI .i64 (e 12) fun b => gC c d a g f b Q Kn1 h)]) (fun Kn1 => [])
  (fun Kn1 => ⟨fun e h _ hk => by
 have F := Ag.nil (e := e)
 have ⟨c, F, hk⟩ := eS F hk
 have ⟨d, F, hk⟩ := eA F hk
 have ⟨a, F, hk⟩ := eI F hk
 have ⟨g, F, hk⟩ := eI F hk
 have ⟨f, F, hk⟩ := eI F hk
 have ⟨b, F, hk⟩ := eI F hk
 exact jj F (by as_aux_lemma => kernel_rfl) hk, trivial⟩)
  (fun Kn1 => trivial) (fun e s h Kn1 => by as_aux_lemma => kernel_rfl)⟩, trivial⟩ (by as_aux_lemma => kernel_rfl) hk
def j5 (a : ByteArray) (Q : QT) (h : aA) : Prop :=
 if (((a.size : Nat) : Int) == 0) = true then (Q (.string (⟨#[]⟩ : ByteArray)) h) else (xg Tryz.prog aQ (.int .i64 ((a.size : Nat) : Int)) (.int .i64 ((a.size : Nat) : Int)) h fun v h1 => ∃ c b d, v = .slice c b d ∧ dN Tryz.prog .copy #[aQ, dO] qd #[false, false] #[.slice c b d, .string a] h1 fun v h2 => ∃ g, v = .int .i64 g ∧ bQ (0 : Int) b (nn c fun i => dN Tryz.prog .unsafeString #[Ff, qd] dO #[false, false] #[.pointer (some (i.add (((0 : Int)).toNat * 1))), .int .i64 ((b : Nat) : Int)] h2 fun v h3 => ∃ f, v = .string f ∧ Q (.string f) h3))
set_option maxRecDepth 100000 in
theorem oL (a : _) {Q : QT} {h : aA} (hk : j5 a Q h) : aD Tryz.prog gE #[.string a] h Q :=
 aU follows Tryz.func157 (Tryz.call157 _) rfl rfl [] []
 trivial
 trivial (by as_aux_lemma => kernel_rfl) hk
def cQ (d : Option Addr) (f p : Nat) (g : Value) (i : Int) (Q : QT) (a : Int) (h : aA) (Kn1 : Int → aA → Prop) : Prop :=
 if (decide (a < i)) = true then (bQ a f (nn d fun b => ldB h (b.add (a.toNat * 6)) fun j => ldI h ((b.add (a.toNat * 6)).add 1) .u64 fun k => ldI h ((b.add (a.toNat * 6)).add 2) .u64 fun l => ldB h ((b.add (a.toNat * 6)).add 3) fun m => ldI h ((b.add (a.toNat * 6)).add 4) .u64 fun n => ldI h ((b.add (a.toNat * 6)).add 5) .u64 fun o => lQ Tryz.prog g #[.agg #[.bool j, .int .u64 k, .int .u64 l, .bool m, .int .u64 n, .int .u64 o]] h fun v h1 => ∃ c, v = .bool c ∧ if c = true then (Q (.int .i64 a) h1) else (Kn1 (wrap .i64 (a + 1)) h1))) else (Q (.int .i64 (-1)) h)
def gI (b : Option Addr) (a c : Nat) (d : Value) (Q : QT) (h : aA) : Prop :=
 aJ (fun (s : Int) h Kn => cQ b a c d ((a : Nat) : Int) Q s h Kn) 0 h
set_option maxRecDepth 100000 in
theorem kQ (b c d f : _) {Q : QT} {h : aA} (hk : gI b c d f Q h) : aD Tryz.prog fV #[.slice b c d, f] h Q :=
 aU follows Tryz.func160 (Tryz.call160 _) rfl rfl [] [(6, fun e h => dL (e 0) fun b c d => dV (e 1) fun f => dI .i64 (e 7) fun g => dI .i64 (e 8) fun a => aJ (fun (s : Int) h Kn => cQ b c d f g Q s h Kn) a h)]
 trivial
 ⟨⟨by kernel_rfl, fun e h he hk => by
 have F := Ag.nil (e := e)
 have ⟨b, c, d, F, hk⟩ := eL F hk
 have ⟨f, F, hk⟩ := eV F hk
 have ⟨g, F, hk⟩ := eI F hk
 have ⟨a, F, hk⟩ := eI F hk
 exact cE (s0 := a) follows (fun _ h => by cases h) he F (fun s => [(8, .int .i64 s)]) (by kernel_rfl) (F.take 1) hk (fun Kn1 e h => dI .i64 (e 8) fun a => Kn1 a h) (fun Kn1 e h hk => by
  have F := Ag.nil (e := e)
  have ⟨a, F, hk⟩ := eI F hk
  exact ⟨a, F, hk⟩)
  (fun Kn1 => []) (fun Kn1 => [])
  (fun Kn1 => trivial)
  (fun Kn1 => trivial) (fun e s h Kn1 => by as_aux_lemma => kernel_rfl)⟩, trivial⟩ (by as_aux_lemma => kernel_rfl) hk
def cZ (d : Option Addr) (f l : Nat) (g : Value) (i : Int) (Q : QT) (a : Int) (h : aA) (Kn1 : Int → aA → Prop) : Prop :=
 if (decide (a < i)) = true then (bQ a f (nn d fun b => ldI h (b.add (a.toNat * 2)) .i64 fun j => ldI h ((b.add (a.toNat * 2)).add 1) .i64 fun k => lQ Tryz.prog g #[.agg #[.int .i64 j, .int .i64 k]] h fun v h1 => ∃ c, v = .bool c ∧ if c = true then (Q (.int .i64 a) h1) else (Kn1 (wrap .i64 (a + 1)) h1))) else (Q (.int .i64 (-1)) h)
def gV (b : Option Addr) (a c : Nat) (d : Value) (Q : QT) (h : aA) : Prop :=
 aJ (fun (s : Int) h Kn => cZ b a c d ((a : Nat) : Int) Q s h Kn) 0 h
set_option maxRecDepth 100000 in
theorem lE (b c d f : _) {Q : QT} {h : aA} (hk : gV b c d f Q h) : aD Tryz.prog gL #[.slice b c d, f] h Q :=
 aU follows Tryz.func161 (Tryz.call161 _) rfl rfl [] [(6, fun e h => dL (e 0) fun b c d => dV (e 1) fun f => dI .i64 (e 7) fun g => dI .i64 (e 8) fun a => aJ (fun (s : Int) h Kn => cZ b c d f g Q s h Kn) a h)]
 trivial
 ⟨⟨by kernel_rfl, fun e h he hk => by
 have F := Ag.nil (e := e)
 have ⟨b, c, d, F, hk⟩ := eL F hk
 have ⟨f, F, hk⟩ := eV F hk
 have ⟨g, F, hk⟩ := eI F hk
 have ⟨a, F, hk⟩ := eI F hk
 exact cE (s0 := a) follows (fun _ h => by cases h) he F (fun s => [(8, .int .i64 s)]) (by kernel_rfl) (F.take 1) hk (fun Kn1 e h => dI .i64 (e 8) fun a => Kn1 a h) (fun Kn1 e h hk => by
  have F := Ag.nil (e := e)
  have ⟨a, F, hk⟩ := eI F hk
  exact ⟨a, F, hk⟩)
  (fun Kn1 => []) (fun Kn1 => [])
  (fun Kn1 => trivial)
  (fun Kn1 => trivial) (fun e s h Kn1 => by as_aux_lemma => kernel_rfl)⟩, trivial⟩ (by as_aux_lemma => kernel_rfl) hk
def jI (a : Int) (Q : QT) (h : aA) : Prop :=
 if (decide (97 ≤ a)) = true then (if (decide (a ≤ 102)) = true then (Q (.int .i64 (wrap .i64 ((wrap .i64 (wrap .u8 (a - 97))) + 10))) h) else (if (decide (65 ≤ a)) = true then (if (decide (a ≤ 70)) = true then (Q (.int .i64 (wrap .i64 ((wrap .i64 (wrap .u8 (a - 65))) + 10))) h) else (Q (.int .i64 (-1)) h)) else (Q (.int .i64 (-1)) h))) else (if (decide (65 ≤ a)) = true then (if (decide (a ≤ 70)) = true then (Q (.int .i64 (wrap .i64 ((wrap .i64 (wrap .u8 (a - 65))) + 10))) h) else (Q (.int .i64 (-1)) h)) else (Q (.int .i64 (-1)) h))
def qH (a : Int) (Q : QT) (h : aA) : Prop :=
 if (decide (48 ≤ a)) = true then (if (decide (a ≤ 57)) = true then (Q (.int .i64 (wrap .i64 (wrap .u8 (a - 48)))) h) else (jI a Q h)) else (jI a Q h)
set_option maxRecDepth 100000 in
theorem wy (a : _) {Q : QT} {h : aA} (hk : qH a Q h) : aD Tryz.prog iz #[.int .u8 a] h Q :=
 aU follows Tryz.func174 (Tryz.call174 _) rfl rfl [(9, fun e h => dI .u8 (e 0) fun a => jI a Q h)] []
 ⟨fun e h _ hk => by
 have F := Ag.nil (e := e)
 have ⟨a, F, hk⟩ := eI F hk
 exact jj F (by as_aux_lemma => kernel_rfl) hk, trivial⟩
 trivial (by as_aux_lemma => kernel_rfl) hk
def oZ (b : ByteArray) (c : Int) (Q : QT) (h : aA) : Prop :=
 aD Tryz.prog iH #[.string b, .int .u8 c] h fun v h1 => ∃ a, v = .int .i64 a ∧ Q (.int .i64 a) h1
set_option maxRecDepth 100000 in
theorem uR (a b : _) {Q : QT} {h : aA} (hk : oZ a b Q h) : aD Tryz.prog jf #[.string a, .int .u8 b] h Q :=
 aU follows Tryz.func175 (Tryz.call175 _) rfl rfl [] []
 trivial
 trivial (by as_aux_lemma => kernel_rfl) hk
def tf (d f : ByteArray) (Q : QT) (h : aA) : Prop :=
 aD Tryz.prog uQ #[.string d, .string f, .int .i64 0, .int .i64 (-1)] h fun v h1 => ∃ a b c, v = .slice a b c ∧ Q (.slice a b c) h1
set_option maxRecDepth 100000 in
theorem xp (a b : _) {Q : QT} {h : aA} (hk : tf a b Q h) : aD Tryz.prog nW #[.string a, .string b] h Q :=
 aU follows Tryz.func176 (Tryz.call176 _) rfl rfl [] []
 trivial
 trivial (by as_aux_lemma => kernel_rfl) hk
def pb (b c : ByteArray) (Q : QT) (h : aA) : Prop :=
 aD Tryz.prog ei #[.string b, .string c] h fun v h1 => ∃ a, v = .bool a ∧ Q (.bool a) h1
set_option maxRecDepth 100000 in
theorem uK (a b : _) {Q : QT} {h : aA} (hk : pb a b Q h) : aD Tryz.prog kG #[.string a, .string b] h Q :=
 aU follows Tryz.func177 (Tryz.call177 _) rfl rfl [] []
 trivial
 trivial (by as_aux_lemma => kernel_rfl) hk
def sR (d : Option Addr) (f g : Nat) (i : ByteArray) (a : Int) (b : ByteArray) (j : Option Addr) (k l : Nat) (m c : Int) (Q : QT) (Kn3 : Int × Int → aA → Prop) (h : aA) : Prop :=
 Kn3 (wrap .i64 (a + ((b.size : Nat) : Int)), wrap .i64 (c + 1)) h
def sJ (b : Addr) (Q : QT) (h : aA) : Prop :=
 aD Tryz.prog qu #[.pointer (some b)] h fun v h6 => ∃ a, v = .string a ∧ Q (.string a) h6
def te (c : ByteArray) (b : Addr) (d : Option Addr) (f o : Nat) (g : Int) (Q : QT) (a : Int) (h : aA) (Kn6 : Int → aA → Prop) : Prop :=
 if (decide (a < g)) = true then (bQ a f (nn d fun i => ldS h (i.add (a.toNat * 1)) fun j => aD Tryz.prog fL #[.pointer (some b), .string c] h fun v h4 => ∃ k l, v = .tuple #[.int .i64 k, l] ∧ aD Tryz.prog fL #[.pointer (some b), .string j] h4 fun v h5 => ∃ m n, v = .tuple #[.int .i64 m, n] ∧ Kn6 (wrap .i64 (a + 1)) h5)) else (sJ b Q h)
def sF (b : Option Addr) (c f : Nat) (g : ByteArray) (i : Int) (Q : QT) (h : aA) : Prop :=
 alV h (.cells #[.pointer none, .slice none 0 0] wq) fun a h1 => aD Tryz.prog ry #[.pointer (some a), .int .i64 i] h1 fun v h2 => v = .tuple #[] ∧ bQ (0 : Int) c (nn b fun j => ldS h2 (j.add (((0 : Int)).toNat * 1)) fun k => aD Tryz.prog fL #[.pointer (some a), .string k] h2 fun v h3 => ∃ l m, v = .tuple #[.int .i64 l, m] ∧ fX 1 b c f (some (1 : Int)) none none fun n d o => aJ (fun (s : Int) h Kn => te g a n d o ((d : Nat) : Int) Q s h Kn) 0 h3)
def sI (c : Option Addr) (d f : Nat) (g : ByteArray) (i : Option Addr) (j m : Nat) (k : Int) (Q : QT) (b a : Int) (h : aA) (Kn3 : Int × Int → aA → Prop) : Prop :=
 if (decide (a < k)) = true then (bQ a j (nn i fun n => ldS h (n.add (a.toNat * 1)) fun l => if (decide (((l.size : Nat) : Int) > (wrap .i64 (9223372036854775807 - b)))) = true then (False) else (sR c d f g b l i j m k a Q Kn3 h))) else (sF c d f g b Q h)
def oW (b : Option Addr) (a c : Nat) (d : ByteArray) (f : Int) (Q : QT) (h : aA) : Prop :=
 aJ (fun (s : Int × Int) h Kn => sI b a c d b a c ((a : Nat) : Int) Q s.1 s.2 h Kn) (f, 0) h
def sP (c : Option Addr) (a d : Nat) (b : ByteArray) (f : Int) (Q : QT) (h : aA) : Prop :=
 oW c a d b (wrap .i64 (f + (wrap .i64 (((b.size : Nat) : Int) * (wrap .i64 (((a : Nat) : Int) - 1)))))) Q h
def tK (c : Option Addr) (a d : Nat) (b : ByteArray) (Q : QT) (h : aA) : Prop :=
 if (((a : Nat) : Int) == 0) = true then (Q (.string (⟨#[]⟩ : ByteArray)) h) else (if (((a : Nat) : Int) == 1) = true then (bQ (0 : Int) a (nn c fun f => ldS h (f.add (((0 : Int)).toNat * 1)) fun g => Q (.string g) h)) else (if (decide (((b.size : Nat) : Int) > 0)) = true then ((wrap .i64 (((a : Nat) : Int) - 1)) ≠ 0 ∧ if (decide (((b.size : Nat) : Int) ≥ (wrap .i64 (Int.tdiv 9223372036854775807 (wrap .i64 (((a : Nat) : Int) - 1)))))) = true then (False) else (sP c a d b 0 Q h)) else (oW c a d b 0 Q h)))
set_option maxRecDepth 100000 in
theorem yG (c d f a : _) {Q : QT} {h : aA} (hk : tK c d f a Q h) : aD Tryz.prog lT #[.slice c d f, .string a] h Q :=
 aU follows Tryz.func178 (Tryz.call178 _) rfl rfl [(22, fun e h => dL (e 0) fun c d f => dS (e 1) fun a => dI .i64 (e 5) fun b => sP c d f a b Q h), (24, fun e h => dL (e 0) fun c d f => dS (e 1) fun a => dI .i64 (e 5) fun b => oW c d f a b Q h), (38, fun e h => dL (e 0) fun c d f => dS (e 1) fun a => dI .i64 (e 5) fun b => sF c d f a b Q h), (56, fun e h => dA (e 8) fun j => sJ j Q h)] [(26, fun e h => dL (e 0) fun c d f => dS (e 1) fun a => dL (e 39) fun k l m => dI .i64 (e 40) fun n => dI .i64 (e 5) fun b => dI .i64 (e 41) fun g => aJ (fun (s : Int × Int) h Kn => sI c d f a k l m n Q s.1 s.2 h Kn) (b, g) h), (46, fun e h => dS (e 1) fun a => dA (e 8) fun j => dL (e 63) fun o p q => dI .i64 (e 64) fun r => dI .i64 (e 65) fun i => aJ (fun (s : Int) h Kn => te a j o p q r Q s h Kn) i h)]
 ⟨fun e h _ hk => by
 have F := Ag.nil (e := e)
 have ⟨c, d, f, F, hk⟩ := eL F hk
 have ⟨a, F, hk⟩ := eS F hk
 have ⟨b, F, hk⟩ := eI F hk
 exact jj F (by as_aux_lemma => kernel_rfl) hk, fun e h _ hk => by
 have F := Ag.nil (e := e)
 have ⟨c, d, f, F, hk⟩ := eL F hk
 have ⟨a, F, hk⟩ := eS F hk
 have ⟨b, F, hk⟩ := eI F hk
 exact jj F (by as_aux_lemma => kernel_rfl) hk, fun e h _ hk => by
 have F := Ag.nil (e := e)
 have ⟨c, d, f, F, hk⟩ := eL F hk
 have ⟨a, F, hk⟩ := eS F hk
 have ⟨b, F, hk⟩ := eI F hk
 exact jj F (by as_aux_lemma => kernel_rfl) hk, fun e h _ hk => by
 have F := Ag.nil (e := e)
 have ⟨j, F, hk⟩ := eA F hk
 exact jj F (by as_aux_lemma => kernel_rfl) hk, trivial⟩
 ⟨⟨by kernel_rfl, fun e h he hk => by
 have F := Ag.nil (e := e)
 have ⟨c, d, f, F, hk⟩ := eL F hk
 have ⟨a, F, hk⟩ := eS F hk
 have ⟨k, l, m, F, hk⟩ := eL F hk
 have ⟨n, F, hk⟩ := eI F hk
 have ⟨b, F, hk⟩ := eI F hk
 have ⟨g, F, hk⟩ := eI F hk
 exact cE (s0 := (b, g)) follows (fun _ h => by cases h) he F (fun s => [(41, .int .i64 s.2), (5, .int .i64 s.1)]) (by kernel_rfl) (F.take 2) hk (fun Kn3 e h => dI .i64 (e 5) fun b => dI .i64 (e 41) fun g => Kn3 (b, g) h) (fun Kn3 e h hk => by
  have F := Ag.nil (e := e)
  have ⟨b, F, hk⟩ := eI F hk
  have ⟨g, F, hk⟩ := eI F hk
  exact ⟨(b, g), F, hk⟩)
  (fun Kn3 => [(34, fun e h => dL (e 0) fun c d f => dS (e 1) fun a => dI .i64 (e 5) fun b => dS (e 7) fun t => dL (e 39) fun k l m => dI .i64 (e 40) fun n => dI .i64 (e 41) fun g => sR c d f a b t k l m n g Q Kn3 h)]) (fun Kn3 => [])
  (fun Kn3 => ⟨fun e h _ hk => by
 have F := Ag.nil (e := e)
 have ⟨c, d, f, F, hk⟩ := eL F hk
 have ⟨a, F, hk⟩ := eS F hk
 have ⟨b, F, hk⟩ := eI F hk
 have ⟨t, F, hk⟩ := eS F hk
 have ⟨k, l, m, F, hk⟩ := eL F hk
 have ⟨n, F, hk⟩ := eI F hk
 have ⟨g, F, hk⟩ := eI F hk
 exact jj F (by as_aux_lemma => kernel_rfl) hk, trivial⟩)
  (fun Kn3 => trivial) (fun e s h Kn3 => by as_aux_lemma => kernel_rfl)⟩, ⟨by kernel_rfl, fun e h he hk => by
 have F := Ag.nil (e := e)
 have ⟨a, F, hk⟩ := eS F hk
 have ⟨j, F, hk⟩ := eA F hk
 have ⟨o, p, q, F, hk⟩ := eL F hk
 have ⟨r, F, hk⟩ := eI F hk
 have ⟨i, F, hk⟩ := eI F hk
 exact cE (s0 := i) follows (fun _ h => by cases h) he F (fun s => [(65, .int .i64 s)]) (by kernel_rfl) (F.take 1) hk (fun Kn6 e h => dI .i64 (e 65) fun i => Kn6 i h) (fun Kn6 e h hk => by
  have F := Ag.nil (e := e)
  have ⟨i, F, hk⟩ := eI F hk
  exact ⟨i, F, hk⟩)
  (fun Kn6 => []) (fun Kn6 => [])
  (fun Kn6 => trivial)
  (fun Kn6 => trivial) (fun e s h Kn6 => by as_aux_lemma => kernel_rfl)⟩, trivial⟩ (by as_aux_lemma => kernel_rfl) hk
def uU (a : Int) (Q : QT) (h : aA) : Prop :=
 if (decide (a ≥ 48)) = true then (Q (.bool (decide (a ≤ 57))) h) else (Q (.bool false) h)
set_option maxRecDepth 100000 in
theorem zo (a : _) {Q : QT} {h : aA} (hk : uU a Q h) : aD Tryz.prog pZ #[.int .u8 a] h Q :=
 aU follows Tryz.func179 (Tryz.call179 _) rfl rfl [] []
 trivial
 trivial (by as_aux_lemma => kernel_rfl) hk
def xm (c : Bool) (d f a : Int) (Q : QT) (h : aA) : Prop :=
 alV h (.cells #[.bool c, .int .u64 d, .int .u64 f] cT) fun b h1 => ldB h1 b fun g => if (!g) = true then (ldI h1 (b.add 2) .u64 fun i => 0 ≤ (wrap .u64 (wrap .i64 (31 - a))) ∧ Q (.bool ((wrap .u64 (BitVec.toNat (BitVec.ofInt (IntKind.bits .u64) (Int.fdiv i (2 ^ (min (Int.toNat (wrap .u64 (wrap .i64 (31 - a)))) (IntKind.bits .u64)))) &&& BitVec.ofInt (IntKind.bits .u64) 1) : Int)) == 1)) h1) else (if (decide (a < 64)) = true then (ldI h1 (b.add 1) .u64 fun j => 0 ≤ (wrap .u64 (wrap .i64 (63 - a))) ∧ Q (.bool ((wrap .u64 (BitVec.toNat (BitVec.ofInt (IntKind.bits .u64) (Int.fdiv j (2 ^ (min (Int.toNat (wrap .u64 (wrap .i64 (63 - a)))) (IntKind.bits .u64)))) &&& BitVec.ofInt (IntKind.bits .u64) 1) : Int)) == 1)) h1) else (ldI h1 (b.add 2) .u64 fun k => 0 ≤ (wrap .u64 (wrap .i64 (127 - a))) ∧ Q (.bool ((wrap .u64 (BitVec.toNat (BitVec.ofInt (IntKind.bits .u64) (Int.fdiv k (2 ^ (min (Int.toNat (wrap .u64 (wrap .i64 (127 - a)))) (IntKind.bits .u64)))) &&& BitVec.ofInt (IntKind.bits .u64) 1) : Int)) == 1)) h1))
set_option maxRecDepth 100000 in
theorem BG (a b c d : _) {Q : QT} {h : aA} (hk : xm a b c d Q h) : aD Tryz.prog sy #[.agg #[.bool a, .int .u64 b, .int .u64 c], .int .i64 d] h Q :=
 aU follows Tryz.func180 (Tryz.call180 _) rfl rfl [] []
 trivial
 trivial (by as_aux_lemma => kernel_rfl) hk
def oH (a : Int) (Q : QT) (h : aA) : Prop :=
 if (decide (a ≥ 97)) = true then (if (decide (a ≤ 122)) = true then (Q (.bool true) h) else (if (decide (a ≥ 65)) = true then (if (decide (a ≤ 90)) = true then (Q (.bool true) h) else (if (decide (a ≥ 48)) = true then (if (decide (a ≤ 57)) = true then (Q (.bool true) h) else (Q (.bool (a == 32)) h)) else (Q (.bool (a == 32)) h))) else (if (decide (a ≥ 48)) = true then (if (decide (a ≤ 57)) = true then (Q (.bool true) h) else (Q (.bool (a == 32)) h)) else (Q (.bool (a == 32)) h)))) else (if (decide (a ≥ 65)) = true then (if (decide (a ≤ 90)) = true then (Q (.bool true) h) else (if (decide (a ≥ 48)) = true then (if (decide (a ≤ 57)) = true then (Q (.bool true) h) else (Q (.bool (a == 32)) h)) else (Q (.bool (a == 32)) h))) else (if (decide (a ≥ 48)) = true then (if (decide (a ≤ 57)) = true then (Q (.bool true) h) else (Q (.bool (a == 32)) h)) else (Q (.bool (a == 32)) h)))
set_option maxRecDepth 100000 in
theorem uk (a : _) {Q : QT} {h : aA} (hk : oH a Q h) : aD Tryz.prog ko #[.int .u8 a] h Q :=
 aU follows Tryz.func181 (Tryz.call181 _) rfl rfl [] []
 trivial
 trivial (by as_aux_lemma => kernel_rfl) hk
def jc (b : ByteArray) (c : Int) (Q : QT) (h : aA) : Prop :=
 aD Tryz.prog iq #[.string b, .int .u8 c] h fun v h1 => ∃ a, v = .int .i64 a ∧ Q (.int .i64 a) h1
set_option maxRecDepth 100000 in
theorem mC (a b : _) {Q : QT} {h : aA} (hk : jc a b Q h) : aD Tryz.prog iH #[.string a, .int .u8 b] h Q :=
 aU follows Tryz.func184 (Tryz.call184 _) rfl rfl [] []
 trivial
 trivial (by as_aux_lemma => kernel_rfl) hk
def iZ (b a : ByteArray) (Q : QT) (h : aA) : Prop :=
 if (decide (((b.size : Nat) : Int) ≥ ((a.size : Nat) : Int))) = true then (ro b none (some ((a.size : Nat) : Int)) fun c => Q (.bool (c.toList == a.toList)) h) else (Q (.bool false) h)
set_option maxRecDepth 100000 in
theorem mT (a b : _) {Q : QT} {h : aA} (hk : iZ a b Q h) : aD Tryz.prog ei #[.string a, .string b] h Q :=
 aU follows Tryz.func186 (Tryz.call186 _) rfl rfl [] []
 trivial
 trivial (by as_aux_lemma => kernel_rfl) hk
end Go.Proofs.YtjmfpeiidlpngaaGreatDoor
