/- WholeImage, part 36 of 38: contracts and lemmas of its proof. Conditions: none. -/
import Derived.Test.YtaaihijkdhmcdaaGreatDoorW34
import Derived.Test.YtaaihijkdhmcdaaGreatDoorW32
import Derived.Test.YtaaihijkdhmcdaaGreatDoorW29
import Derived.Test.YtaaihijkdhmcdaaGreatDoorW08
set_option linter.unusedVariables false
set_option linter.unusedSimpArgs false
set_option maxRecDepth 100000
namespace Go.Proofs.YtaaihijkdhmcdaaGreatDoor
section
open Go Go.RowKit
open TR
theorem pairIR:(Tryz.prog.info? 50).map (·.size)=some 2:=by kernel_rfl
theorem pairER:EInfo Tryz.prog 50 2 32:=by unfold EInfo;kernel_rfl
structure EgR (A:EA) (w:World) (m:Nat) (V:PV) (G:Nat→Prop) (o:Option Tr) (ch:ChF) (slot:BitVec 64) (n top many bnd:Nat):Prop where
 eg:∃ C,Eg A w m V G ⟨slot,.nilIface,0,.slice none 0 0,0#64⟩ ⟨C,n,top,many,bnd,false,0#64,.slice none 0 0⟩
 sto:Sto m V o ch [] slot.toNat
 w64:V.D.word 64=slot
 top:top≤slot.toNat
 bnd:bnd≤slot.toNat
section
variable {A:EA} {w w' w0:World} {m n top many bnd:Nat} {V V':PV} {G G' F F':Nat→Prop} {o:Option Tr} {ch:ChF} {slot:BitVec 64} {p:Nat}
theorem EgR.next (h:EgR A w m V G o ch slot n top many bnd)(hb:Below w.heap.size w w'):EgR A w' m V G o ch slot n top many bnd:=by
 obtain ⟨C,h1⟩:=h.eg;exact ⟨⟨C,h1.next hb⟩,h.sto,h.w64,h.top,h.bnd⟩
set_option maxHeartbeats 4000000
def EOpenP (m:Nat)(V:PV)(p:Nat)(F:Nat→Prop)(o:Option Tr)(ch:ChF)(slot:BitVec 64)(w0:World)(v:Value)(w':World):Prop :=
 ∃ A G,v=.tuple #[.pointer (some ⟨A.g,0,none⟩),.int .i64 0]∧A.p=p∧EgR A w' m V G o ch slot 0 0 0 0∧(∀ k,EF A G k→F k∨w0.heap.size≤k)∧(∀ k,F k→G k)∧w0.heap.size≤A.x∧w0.heap.size≤A.tt∧Below w0.heap.size w0 w'
theorem egOpen_calls (slot:BitVec 64)(w0:World)(h:DevB w0 p F V.D)(hF:Fours w0)(hT:Tabs w0)(hout:¬ F 1)(hm:m=6∨m=24)(hS:Sto m V o ch [] slot.toNat)(h64:V.D.word 64=slot)(hsl:slot.toNat≤60000) :
  Ret Tryz.prog 8 #[.pointer (some ⟨p,0,none⟩)] w0 fun v w'=>EOpenP m V p F o ch slot w0 v w':=by
 have bel0:=Below.refl w0.heap.size w0;have hTl:=hT.lt;refine ret_of (args:=[_]) _ Tryz.func8 rfl Tryz.ntmps8 (by simp) ?_;simp -implicitDefEqProofs [go_sem];refine callE_of (mendOpen_calls slot w0 h hF hT hout hm hS h64 hsl (Nat.le_refl _)) ?_;rintro v w1 ⟨b,x,G,rfl,hsys,hx,hxG,hG1,hG2,hgx,hgb,b1⟩;have hGlt:=hsys.lt;have hxlt1:=hx.lt;have stP:=stNew (P:=Tryz.prog) (t:=69) (cs:=partsC b x slot) (C0:=#[.pointer none,.pointer none,.int .u64 0]) partsI rfl (partsC_one _ _ _);unfold partsC at stP
 have bel1:=bel0.trans b1;simp -implicitDefEqProofs [go_sem,partsC,↓stP];generalize hw2:World.alloc w1 _=w2 at *;obtain ⟨hB2,b2,sz2,bel2⟩:=newF hw2 bel1;replace hsys:=hsys.next b2
 replace hx:=hx.next b2
 refine drawE_mix [.pure 0,.pure 1,.pure 3,.pure 6,.take 2,.take 4,.take 7,.run 5 [2,4,7],.run 8 [],.run 9 [],.pure 10,.pure 11] mixed (by decide +kernel) (by simp only [wo];rfl) ?_;have bd:=(Below.refl w2.heap.size w2).drew;have bel3:Below w0.heap.size w0 (World.drew w2):=bel2.drew;generalize World.drew w2=w3 at *;have h3:=hsys.next bd
 have hx3:=hx.next bd
 have hB3:=hB2.next bd
 have k0:CellIs w3 ⟨w1.heap.size,0,none⟩ (.pointer (some ⟨b,0,none⟩)):=hB3.cell 0;have k1:CellIs w3 ⟨w1.heap.size,1,none⟩ (.pointer (some ⟨x,0,none⟩)):=hB3.cell 1;have k2:CellIs w3 ⟨w1.heap.size,2,none⟩ (.int .u64 (uv slot)):=hB3.cell 2;simp -implicitDefEqProofs [go_sem];refine onTake_of (fun w'=>CellIs w' ⟨w1.heap.size,0,none⟩ (.pointer (some ⟨b,0,none⟩))) (.pointer (some ⟨b,0,none⟩)) k0 (fun w' hw=>by
  have hw:w'.cell? _=_:=hw;simp -implicitDefEqProofs [go_sem,hw]) ?_
 simp -implicitDefEqProofs [go_sem];refine onTake_of (fun w'=>CellIs w' ⟨w1.heap.size,1,none⟩ (.pointer (some ⟨x,0,none⟩))) (.pointer (some ⟨x,0,none⟩)) k1 (fun w' hw=>by
  have hw:w'.cell? _=_:=hw;simp -implicitDefEqProofs [go_sem,hw]) ?_
 simp -implicitDefEqProofs [go_sem];refine onTake_of (fun w'=>CellIs w' ⟨w1.heap.size,2,none⟩ (.int .u64 (uv slot))) (.int .u64 (uv slot)) k2 (fun w' hw=>by
  have hw:w'.cell? _=_:=hw;simp -implicitDefEqProofs [go_sem,hw]) ?_
 simp -implicitDefEqProofs [go_sem];refine callE_of (txnNew_calls w3) ?_;rintro v w4 ⟨tt,bk,nb,C,rfl,ht4,htt,hbk,hnb,b4⟩;have hB4:=hB3.next b4
 refine ⟨.inr ⟨fun _=>hB4.cell 2,fun _=>hB4.cell 1,fun _=>hB4.cell 0,trivial⟩,?_⟩;simp -implicitDefEqProofs [go_sem];have h4:=h3.next b4
 have hx4:=hx3.next b4
 have bel4:=btr bel3 b4;have b5:=(Below.refl w4.heap.size w4).alloc (Nat.le_refl _) (.cells (engC ⟨p,b,x,w4.heap.size,tt,bk,nb⟩ ⟨slot,.nilIface,0,.slice none 0 0,0#64⟩) 81);have hB5:=Blk.new w4 (engC ⟨p,b,x,w4.heap.size,tt,bk,nb⟩ ⟨slot,.nilIface,0,.slice none 0 0,0#64⟩) 81;have hs3:=bd.size;have hs4:=b4.size;have hb1s:=b1.size;have htl:=ht4.t.lt;have hkl:=ht4.b.lt;have hnl:=ht4.m.lt;refine body_tmp2 2 3 rfl ?_;simp -implicitDefEqProofs [go_sem]
 refine ⟨⟨p,b,x,w4.heap.size,tt,bk,nb⟩,G,rfl,rfl,⟨⟨C,⟨h4.next b5,hx4.next b5,hB5,ht4.next b5,fun k hk=>?_,⟨?_,?_,?_,?_,?_,?_,?_⟩,⟨?_,?_,?_⟩⟩⟩,hS,h64,Nat.zero_le _,Nat.zero_le _⟩,fun k hk=>?_,hG2,hgx,by show w0.heap.size≤tt;omega,btr bel4 b5⟩
 ·have:=hGlt k hk;exact ⟨fun e=>hxG (by have e2:k=x:=e;rw [← e2];exact hk),by show k≠w4.heap.size;omega,by show k≠tt;omega,by show k≠bk;omega,by show k≠nb;omega⟩
 ·show w4.heap.size≠x;omega
 ·show w4.heap.size≠tt;omega
 ·show w4.heap.size≠bk;omega
 ·show w4.heap.size≠nb;omega
 ·show x≠tt;omega
 ·show x≠bk;omega
 ·show x≠nb;omega
 ·show _≠w4.heap.size;omega
 ·show _≠bk;omega
 ·show _≠nb;omega
 ·rcases hk with hk|hk|hk|hk
  ·exact hG1 k hk
  ·have e:k=w4.heap.size:=hk
   right;omega
  ·have e:k=bk:=hk
   right;omega
  ·have e:k=nb:=hk
   right;omega
theorem few_calls {a:Option Addr}{l:List WrV}{cap:Nat}(w0:World)(hin:RIn w0 3 a (l.map WrV.cs) cap):Ret Tryz.prog 16 #[.slice a l.length cap] w0 fun v w'=>∃ b,v=.bool b∧Below w0.heap.size w0 w':=by
 have bel0:=Below.refl w0.heap.size w0;have hmax:=hin.max;have hle:=hin.le;rw [List.length_map] at hle;refine ret_of (args:=[_]) _ Tryz.func16 rfl Tryz.ntmps16 (by simp) ?_;simp -implicitDefEqProofs [go_sem];refine wpE_loop (fun e' w'=>∃ k:Nat,k≤l.length∧e' 0=.slice a l.length cap∧e' 5=.slice a l.length cap∧e' 6=.int .i64 (l.length:Int)∧e' 7=.int .i64 (k:Int)∧Below w0.heap.size w0 w') (fun e' _=>l.length-(intOf (e' 7)).toNat) ?_ ?_
 ·refine ⟨0,Nat.zero_le _,?_⟩;simp -implicitDefEqProofs [go_sem];exact bel0
 ·rintro e' w1 ⟨k,hk,g0,g5,g6,g7,bel1⟩;have hin1:=hin.next bel1
  by_cases hlt:k<l.length
  ·have hlt':(k:Int)<(l.length:Int):=by omega
   have i1:=IntWalk.i64_in ((k:Int)+1) (by omega);obtain ⟨ib,io,rfl,hld⟩:=hin1.ld (i:=k) (by simpa using hlt) Tryz.underlying48 rfl wrIR;have hcs:(l.map WrV.cs)[k]'(by simpa using hlt)=l[k].cs:=by simp
   rw [hcs] at hld;have hst:=stNew (P:=Tryz.prog) (t:=48) (cs:=l[k].cs) (C0:=#[.string ⟨#[]⟩,.string ⟨#[]⟩,.bool false]) wrIR rfl l[k].cs_one;have q0:l[k].cs[0]?=some (.string l[k].key):=rfl;have q1:l[k].cs[1]?=some (.string l[k].text):=rfl;have hB2:=Blk.new w1 l[k].cs 48;have b2:=bel1.trans ((Below.refl w1.heap.size w1).alloc (Nat.le_refl _) (.cells l[k].cs 48) |>.mono bel1.size);by_cases c1:(100:Int)<(l[k].key.size:Int)
   ·simp -implicitDefEqProofs [go_sem,g0,g5,g6,g7,hlt,hlt',↓hld,↓hst,hB2.cell,q0,q1,c1];refine body_tmp 2 rfl ?_;simp -implicitDefEqProofs [go_sem];exact b2
   ·by_cases c2:(100:Int)<(l[k].text.size:Int)
    ·simp -implicitDefEqProofs [go_sem,g0,g5,g6,g7,hlt,hlt',↓hld,↓hst,hB2.cell,q0,q1,c1,c2];refine body_tmp 2 rfl ?_;simp -implicitDefEqProofs [go_sem];exact b2
    ·simp -implicitDefEqProofs [go_sem,g0,g5,g6,g7,hlt,hlt',↓hld,↓hst,hB2.cell,q0,q1,c1,c2,i1];refine goE_round ⟨k+1,by omega,?_⟩ ?_
     ·simp -implicitDefEqProofs [go_sem,g0,g5,g6,g7,i1];exact b2
     ·simp -implicitDefEqProofs [go_sem,g7,intOf,i1];omega
  ·obtain rfl:k=l.length:=by omega
   simp -implicitDefEqProofs [go_sem,g0,g5,g6,g7];refine body_tmp 2 rfl ?_;simp -implicitDefEqProofs [go_sem];exact bel1
theorem back_calls' {a:Option Addr}{l:List (ByteArray × ByteArray)}{cap:Nat}(w0:World)(hin:RIn w0 2 a (l.map prC) cap)(hl:l.length≤900):Ret Tryz.prog 30 #[.slice a l.length cap] w0 fun v w'=>∃ a' c',v=.slice a' l.length c'∧RIn w' 2 a' (l.map prC) c'∧(∀ y,a'=some y→w0.heap.size≤y.block∧y.block<w'.heap.size)∧Below w0.heap.size w0 w':=by
 have bel0:=Below.refl w0.heap.size w0;refine ret_of (args:=[_]) _ Tryz.func30 rfl Tryz.ntmps30 (by simp) ?_;simp -implicitDefEqProofs [go_sem];refine wpE_loop (fun e' w'=>∃ (k:Nat) (ao:Option Addr) (n co:Nat),k≤l.length∧e' 3=.slice ao n co∧e' 6=.slice a l.length cap∧e' 7=.int .i64 (l.length:Int)∧e' 8=.int .i64 (k:Int)∧OutP w' 50 w0.heap.size ao n co (l.take k)∧Below w0.heap.size w0 w') (fun e' _=>l.length-(intOf (e' 8)).toNat) ?_ ?_
 ·refine ⟨0,none,0,0,Nat.zero_le _,?_⟩;simp -implicitDefEqProofs [go_sem];exact ⟨⟨World.ownsRow_nil _ _ _ _,rfl⟩,bel0⟩
 ·rintro e' w1 ⟨k,ao,n,co,hk,g3,g6,g7,g8,hown,bel1⟩;have hin1:=hin.next bel1
  by_cases hlt:k<l.length
  ·have hlt':(k:Int)<(l.length:Int):=by omega
   have i1:=IntWalk.i64_in ((k:Int)+1) (by omega);have hnl:n≤1000:=by
    have h1:=hown.2;rw [List.length_take] at h1;omega
   obtain ⟨ib,io,rfl,hld⟩:=hin1.ld (i:=k) (by simpa using hlt) Tryz.underlying152 rfl pairI;have hcs:(l.map prC)[k]'(by simpa using hlt)=prC l[k]:=by simp
   rw [hcs] at hld;have hst:=stNew (P:=Tryz.prog) (t:=152) (cs:=prC l[k]) (C0:=#[.string ⟨#[]⟩,.string ⟨#[]⟩]) pairI rfl (prC_one _);have hB2:=Blk.new w1 (prC l[k]) 152;have b2:=(Below.refl w1.heap.size w1).alloc (Nat.le_refl _) (.cells (prC l[k]) 152);have hown2:=hown.next b2
   have bel2:=btr bel1 b2;have ldP:=ldAll (P:=Tryz.prog) hB2 Tryz.underlying152 rfl pairI (n:=2) rfl;have ep:prC l[k]=#[.string l[k].1,.string l[k].2]:=rfl;rw [ep] at ldP hst hld hB2 b2 hown2 bel2;obtain ⟨g9,c9,w9,hr9,hown9,b9⟩:=hown2.push (x:=l[k]) Tryz.underlying38 pairER bel2.size bel2 hnl;rw [show (w1.alloc (.cells #[.string l[k].1,.string l[k].2] 152)).heap.size=w1.heap.size+1 by simp] at hr9;simp -implicitDefEqProofs [go_sem,g3,g6,g7,g8,hlt,hlt',↓hld,↓hst,↓ldP,hr9,i1]
   refine goE_round ⟨k+1,some ⟨g9,0,none⟩,n+1,c9,by omega,?_⟩ ?_
   ·rw [← List.take_succ_eq_append_getElem hlt] at hown9;simp -implicitDefEqProofs [go_sem,g3,g6,g7,g8,i1];exact ⟨hown9,b9⟩
   ·simp -implicitDefEqProofs [go_sem,g8,intOf,i1];omega
  ·obtain rfl:k=l.length:=by omega
   rw [List.take_length] at hown;have hol:=hown.2;simp -implicitDefEqProofs [go_sem,g3,g6,g7,g8];refine body_tmp 2 rfl ?_;simp -implicitDefEqProofs [go_sem];subst hol;exact ⟨ao,co,⟨rfl,rfl,rfl⟩,owns_rin (prC_size l) (by simp) hown.1,fun y hy=>ownsRow_blk hown.1 _ ⟨y,hy,rfl⟩,bel1⟩
theorem pairs_calls {a a2:Option Addr}{l:List (ByteArray × ByteArray)}{cap cap2:Nat}(w0:World)(hin:RIn w0 2 a (l.map prC) cap)(hin2:RIn w0 2 a2 (l.map prC) cap2):Ret Tryz.prog 12 #[.slice a l.length cap,.slice a2 l.length cap2] w0 fun v w'=>v=.bool true∧Below w0.heap.size w0 w':=by
 have bel0:=Below.refl w0.heap.size w0;have hmax:=hin.max;have hle:=hin.le;rw [List.length_map] at hle;refine ret_of (args:=[_,_]) _ Tryz.func12 rfl Tryz.ntmps12 (by simp) ?_;simp -implicitDefEqProofs [go_sem];refine wpE_loop (fun e' w'=>∃ k:Nat,k≤l.length∧e' 0=.slice a l.length cap∧e' 1=.slice a2 l.length cap2∧e' 5=.int .i64 (k:Int)∧Below w0.heap.size w0 w') (fun e' _=>l.length-(intOf (e' 5)).toNat) ?_ ?_
 ·refine ⟨0,Nat.zero_le _,?_⟩;simp -implicitDefEqProofs [go_sem];exact bel0
 ·rintro e' w1 ⟨k,hk,g0,g1,g5,bel1⟩;by_cases hlt:k<l.length
  ·have hlt':(k:Int)<(l.length:Int):=by omega
   have i1:=IntWalk.i64_in ((k:Int)+1) (by omega);obtain ⟨ib,io,rfl,hld⟩:=(hin.next bel1).drew.ld (i:=k) (by simpa using hlt) Tryz.underlying50 rfl pairIR;obtain ⟨ib2,io2,rfl,hld2⟩:=(hin2.next bel1).drew.ld (i:=k) (by simpa using hlt) Tryz.underlying50 rfl pairIR;have hcs:(l.map prC)[k]'(by simpa using hlt)=prC l[k]:=by simp
   rw [hcs] at hld hld2;have ep:prC l[k]=#[.string l[k].1,.string l[k].2]:=rfl;rw [ep] at hld hld2;simp -implicitDefEqProofs [go_sem,g0,g1,g5,hlt,hlt'];refine drawE_still mixed (by decide +kernel) ?_;simp -implicitDefEqProofs [go_sem,g0,g1,g5,hlt,hlt',↓hld,↓hld2];unfold endE;simp -implicitDefEqProofs [go_sem,g0,g1,g5,i1];refine goE_round ⟨k+1,by omega,?_⟩ ?_
   ·simp -implicitDefEqProofs [go_sem,g0,g1,g5,i1];exact bel1.drew
   ·simp -implicitDefEqProofs [go_sem,g5,intOf,i1];omega
  ·obtain rfl:k=l.length:=by omega
   simp -implicitDefEqProofs [go_sem,g0,g1,g5];refine body_tmp 4 rfl ?_;simp -implicitDefEqProofs [go_sem];exact bel1
structure WsIn (w:World) (a:Option Addr) (xs:List (Option Addr × Nat × List WrV)) (cap:Nat):Prop where
 at_:VsIn w a (xs.map fun x=>.slice x.1 x.2.2.length x.2.1) cap
 in_:∀ x∈xs,RIn w 3 x.1 (x.2.2.map WrV.cs) x.2.1
theorem WsIn.next {a:Option Addr}{xs:List (Option Addr × Nat × List WrV)}{cap:Nat}(h:WsIn w a xs cap)(hb:Below w.heap.size w w'):WsIn w' a xs cap:=⟨h.at_.next hb,fun x hx=>(h.in_ x hx).next hb⟩
theorem small_calls {a:Option Addr}{xs:List (Option Addr × Nat × List WrV)}{cap:Nat}(w0:World)(hin:WsIn w0 a xs cap):Ret Tryz.prog 5 #[.slice a xs.length cap] w0 fun v w'=>∃ b,v=.bool b∧(b=true→xs.length≤12∧∀ x∈xs,x.2.2.length≤16)∧Below w0.heap.size w0 w':=by
 have bel0:=Below.refl w0.heap.size w0;have hmax:=hin.at_.max;have hle:=hin.at_.le;rw [List.length_map] at hle;refine ret_of (args:=[_]) _ Tryz.func5 rfl Tryz.ntmps5 (by simp) ?_;simp -implicitDefEqProofs [go_sem];refine wpE_loop (fun e' w'=>∃ k:Nat,k≤xs.length∧(∀ i (h:i<xs.length),i<k→xs[i].2.2.length≤16)∧e' 0=.slice a xs.length cap∧e' 5=.slice a xs.length cap∧e' 6=.int .i64 (xs.length:Int)∧e' 7=.int .i64 (k:Int)∧Below w0.heap.size w0 w') (fun e' _=>xs.length-(intOf (e' 7)).toNat) ?_ ?_
 ·refine ⟨0,Nat.zero_le _,fun i h h2=>by omega,?_⟩;simp -implicitDefEqProofs [go_sem];exact bel0
 ·rintro e' w1 ⟨k,hk,hall,g0,g5,g6,g7,bel1⟩;have hin1:=hin.next bel1
  by_cases hlt:k<xs.length
  ·have hlt':(k:Int)<(xs.length:Int):=by omega
   have i1:=IntWalk.i64_in ((k:Int)+1) (by omega);obtain ⟨ib,io,rfl,hcell⟩:=hin1.at_.at_.cell (i:=k) (by simpa using hlt);rw [List.getElem_map] at hcell;simp -implicitDefEqProofs [go_sem,g0,g5,g6,g7,hlt,hlt',hcell];refine callE_of (few_calls w1 (hin1.in_ xs[k] (List.getElem_mem hlt))) ?_;rintro v w2 ⟨fb,rfl,b2⟩;have bel2:=btr bel1 b2;cases fb with
   | false =>
    simp -implicitDefEqProofs [go_sem,g0,g5,g6,g7];refine body_tmp 2 rfl ?_;simp -implicitDefEqProofs [go_sem];exact bel2
   | true =>
    by_cases c:(16:Int)<((xs[k].2.2.length:Nat):Int)
    ·simp -implicitDefEqProofs [go_sem,g0,g5,g6,g7,c];refine body_tmp 2 rfl ?_;simp -implicitDefEqProofs [go_sem];exact bel2
    ·simp -implicitDefEqProofs [go_sem,g0,g5,g6,g7,c,i1];refine goE_round ⟨k+1,by omega,fun i h h2=>?_,?_⟩ ?_
     ·by_cases e:i<k
      ·exact hall i h e
      ·obtain rfl:i=k:=by omega
       omega
     ·simp -implicitDefEqProofs [go_sem,g0,g5,g6,g7,i1];exact bel2
     ·simp -implicitDefEqProofs [go_sem,g7,intOf,i1];omega
  ·obtain rfl:k=xs.length:=by omega
   simp -implicitDefEqProofs [go_sem,g0,g5,g6,g7];refine body_tmp 2 rfl ?_;simp -implicitDefEqProofs [go_sem];refine ⟨fun h=>⟨by omega,fun x y z hx=>?_⟩,bel1⟩;obtain ⟨i,hi,hxe⟩:=List.getElem_of_mem hx;have:=hall i hi hi;rw [hxe] at this;exact this
def SeenP (A:EA)(m:Nat)(V:PV)(G:Nat→Prop)(o:Option Tr)(ch:ChF)(slot:BitVec 64)(n top many:Nat)(w0:World)(v:Value)(w':World):Prop :=
 ∃ a c,v=.tuple #[.slice a (seenL ch slot (itemsO o)).length c,.bool true]∧RIn w' 2 a ((seenL ch slot (itemsO o)).map prC) c∧(∀ y,a=some y→w0.heap.size≤y.block∧y.block<w'.heap.size)∧EgR A w' m V G o ch slot n top (many+1) slot.toNat∧Turn w0 (EF A G) w' (EF A G)
theorem seen_calls (w0:World)(h:EgR A w0 m V G o ch slot n top many bnd)(hm:m=6∨m=24)(hmany:many<16):Ret Tryz.prog 11 #[.pointer (some ⟨A.g,0,none⟩)] w0 (SeenP A m V G o ch slot n top many w0):=by
 obtain ⟨C,hC⟩:=h.eg;have hil:=itemsO_le o;have hlen:=h.sto.len hm;have hsl:=seenL_len ch slot (itemsO o);refine ret_of (args:=[_]) _ Tryz.func11 rfl Tryz.ntmps11 (by simp) ?_;simp -implicitDefEqProofs [go_sem];refine callE_of (egBegin_calls w0 hC rfl hmany h.bnd) ?_;rintro v w1 ⟨rfl,C1,h1,t1⟩;simp -implicitDefEqProofs [go_sem];refine callE_of (egScan_calls w1 h1 rfl rfl hm h.sto) ?_;rintro v w2 ⟨a2,c2,rfl,hr2,hnew2,b2⟩;have h2:=h1.next b2
 simp -implicitDefEqProofs [go_sem];refine callE_of (egAbort_calls w2 h2 rfl rfl) ?_;rintro v w3 ⟨rfl,C3,h3,t3⟩;have hEl:=h1.lt;obtain ⟨out,hout⟩:∃ out,out=seenL ch slot (itemsO o):=⟨_,rfl⟩;have hout':seenL ch slot (itemsO o)=out:=hout.symm;unfold SeenP;rw [hout'] at hr2 hsl ⊢;have hnw:=hnew2;have hr3:=hr2.mod t3.mod (fun k ⟨y,hy,hk⟩ hE=>by have:=hEl k hE;have:=hnw y hy;omega);simp -implicitDefEqProofs [go_sem];refine callE_of (back_calls' w3 hr3 (by omega)) ?_
 rintro v w4 ⟨a4,c4,rfl,hr4,hn4,b4⟩;simp -implicitDefEqProofs [go_sem];refine body_tmp2 2 3 rfl ?_;simp -implicitDefEqProofs [go_sem];have hs1:=t1.size;have hs2:=b2.size;have hs3:=t3.size;exact ⟨a4,c4,⟨rfl,rfl⟩,hr4,fun y hy=>by have:=hn4 y hy;omega,⟨⟨C3,h3.next b4⟩,h.sto,h.w64,h.top,Nat.le_refl _⟩,((t1.trans (Turn.of b2)).trans t3).trans (Turn.of b4)⟩
theorem clean_calls (w0:World)(h:EgR A w0 m V G o ch slot n top many bnd)(hm:m=6∨m=24):Ret Tryz.prog 14 #[.pointer (some ⟨A.g,0,none⟩)] w0 fun v w'=>v=.bool true∧Below w0.heap.size w0 w':=by
 obtain ⟨C,hC⟩:=h.eg;have hr:=h.sto.own.rest;refine ret_of (args:=[_]) _ Tryz.func14 rfl Tryz.ntmps14 (by simp) ?_;simp -implicitDefEqProofs [go_sem];refine callE_of (egReach_calls w0 hC hm h.sto) ?_;rintro v w1 ⟨a1,c1,rfl,hrow1,b1⟩;simp -implicitDefEqProofs [go_sem];refine callE_of (egBlocks_calls w1 (hC.next b1) hr hm) ?_;rintro v w2 ⟨a2,c2,rfl,hv2,b2⟩;obtain ⟨L,hL⟩:∃ L,L=allK (shN m) V.T m:=⟨_,rfl⟩;have hLl:=allK_len (shN m) V.T m;rw [← hL] at hrow1 hv2 hLl ⊢
 have hv1:=(owns_vsIn (l:=offC L) (offC_len L) hrow1).below b2;have bel2:=btr b1 b2;simp -implicitDefEqProofs [go_sem];refine wpE_loop (fun e' w'=>∃ k:Nat,k≤L.length∧e' 3=.slice a1 L.length c1∧e' 5=.slice a2 L.length c2∧e' 23=.slice a1 L.length c1∧e' 24=.int .i64 (L.length:Int)∧e' 25=.int .i64 (k:Int)∧Below w2.heap.size w2 w') (fun e' _=>L.length-(intOf (e' 25)).toNat) ?_ ?_
 ·refine ⟨0,Nat.zero_le _,?_⟩;simp -implicitDefEqProofs [go_sem];exact Below.refl _ _
 ·rintro e' w3 ⟨k,hk,g3,g5,g23,g24,g25,b3⟩;by_cases hlt:k<L.length
  ·have hlt':(k:Int)<(L.length:Int):=by omega
   have hm24:m≤24:=by omega
   have i1:=IntWalk.i64_in ((k:Int)+1) (by omega);obtain ⟨lb,lo,rfl,hc⟩:=(hv1.next b3).at_.cell (i:=k) (by rw [offC_len];omega);obtain ⟨lb2,lo2,rfl,hc2⟩:=(hv2.next b3).at_.cell (i:=k) (by rw [nats_length];omega);rw [offC_get L hlt] at hc;simp only [nats,List.getElem_map] at hc2;simp -implicitDefEqProofs [go_sem,g3,g5,g23,g24,g25,hlt,hlt'];refine drawE_still mixed (by decide +kernel) ?_;simp -implicitDefEqProofs [go_sem,g3,g5,g23,g24,g25,hlt,hlt',hc,hc2];unfold endE
   simp -implicitDefEqProofs [go_sem,g3,g5,g23,g24,g25,i1];refine goE_round ⟨k+1,by omega,?_⟩ ?_
   ·simp -implicitDefEqProofs [go_sem,g3,g5,g23,g24,g25,i1];exact b3.drew
   ·simp -implicitDefEqProofs [go_sem,g25,intOf,i1];omega
  ·obtain rfl:k=L.length:=by omega
   simp -implicitDefEqProofs [go_sem,g3,g5,g23,g24,g25];refine body_tmp 2 rfl ?_;simp -implicitDefEqProofs [go_sem];exact btr bel2 b3
end
end
section
open Go Go.RowKit
open TR
section
variable {m:Nat}
theorem beg_word (hm:m=6∨m=24){x:Nat}(h8:x%8=0)(h1:64≤x)(h2:x+8≤64*nL m):(begD m).word x=0#64:=by
 have zf:=sz hm;have hof:(HM.of (NM.dev0 (nL m)).ls.length).2=true:=by rw [dev0_len',of_shN hm]
 obtain ⟨f1,f2,f3,f4,f5,f6⟩:=NM.format_up (NM.dev0_ok (nL m) (by omega)) (NM.dev0_up (nL m)) (by rw [dev0_len'];omega) hof;have hwl:(HM.words (HM.of (NM.dev0 (nL m)).ls.length).1).length=8:=by
  obtain ⟨hn1,hn2,hn3,_⟩:=HM.of_some hof;rw [hn3];exact HM.words_len (by omega) (by omega)
 have:=f5 x h8 (by unfold NM.Dv.size;rw [dev0_len'];omega);rw [show begD m=(NM.dev0 (nL m)).format.1 from rfl,this];rw [List.getD,List.getElem?_eq_none (by rw [hwl];omega)];rfl
theorem bk_beg (hm:m=6∨m=24)(y:Int):¬ 0<Bk m ⟨zL m,zL m,begD m⟩ y:=fun h=>by
 unfold Bk at h
 rcases sizeF_cases (s:=shN m) (n:=m) (B:=bF (zL m) (zL m)) y with h1|⟨i,q,_,_,_,ht,_,_⟩
 ·have h2:sizeF (shN m) m (bF (zL m) (zL m)) y=0:=h1;rw [h2] at h;omega
 ·unfold bF at ht;rw [zL_get,BitVec.or_zero,WM.tR0] at ht;cases ht
theorem sto_beg (hm:m=6∨m=24)(ch:ChF):Sto m ⟨zL m,zL m,begD m⟩ none ch [] 0 :=
 ⟨⟨rest_beg hm,⟨beg_word hm (by decide) (by decide) (by have:=sz hm;omega),(fun T hT=>by cases hT),fun T hT=>by cases hT⟩,List.nodup_nil,fun y=>⟨fun h=>absurd h (bk_beg hm y),fun h=>by cases h⟩⟩,fun e he=>by cases he⟩
end
section
variable {A:EA} {w w' w0:World} {m n top many bnd:Nat} {V V':PV} {G G' F F':Nat→Prop} {o:Option Tr} {ch:ChF} {slot:BitVec 64} {p:Nat}
set_option maxHeartbeats 4000000
def BegunP (m:Nat)(ch:ChF)(w0:World)(v:Value)(w':World):Prop :=
 ∃ A G,v=.tuple #[.pointer (some ⟨A.p,0,none⟩),.pointer (some ⟨A.g,0,none⟩)]∧EgR A w' m ⟨zL m,zL m,begD m⟩ G none ch 0#64 0 0 0 0∧(∀ k,EF A G k→w0.heap.size≤k)∧Below w0.heap.size w0 w'
theorem begun_calls (m:Nat)(hm:m=6∨m=24)(ch:ChF)(L:Int)(hL:L=((nL m:Nat):Int))(w0:World)(hF:Fours w0)(hT:Tabs w0) :
  Ret Tryz.prog 6 #[.int .i64 L] w0 (BegunP m ch w0):=by
 have zf:=sz hm;have bel0:=Below.refl w0.heap.size w0;obtain ⟨f1,f2,f3,f4,f5,f6⟩:=beg_facts hm;have hL1:L.toNat=nL m:=by omega
 refine ret_of (args:=[_]) _ Tryz.func6 rfl Tryz.ntmps6 (by simp) ?_;simp -implicitDefEqProofs [go_sem];refine callE_of (newB L w0 (by unfold I64;omega)) ?_;rintro v w1 ⟨b1,⟨hn,rfl⟩|⟨hn,p,F1,rfl,h1,hg1⟩⟩
 ·omega
 ·rw [hL1] at h1;have hS1:St w0 w1 p F1 (NM.dev0 (nL m)):=⟨h1,b1,hg1⟩;have hst:=NM.format_steps (D:=NM.dev0 (nL m)) (by rw [dev0_len'];omega);have hs0:(NM.dev0 (nL m)).steps=0:=rfl;simp -implicitDefEqProofs [go_sem];refine callE_of (format_calls w1 hS1 hF (by rw [hs0];omega)) ?_;rintro v w2 ⟨rfl,F2,h2,T2⟩;have hS2:=hS1.step h2 T2;have hF2:Fours w2:=hF.next hS2.bel
  have hT2:Tabs w2:=hT.next hS2.bel
  have hg2:=hS2.ge;have e1:(NM.dev0 (nL m)).format.2.1=shN m:=by rw [f1]
  have e2:(NM.dev0 (nL m)).format.2.2=0:=by rw [f1]
  rw [e1,e2];have h2:DevB w2 p F2 (begD m):=h2;have bel2:=hS2.bel;simp -implicitDefEqProofs [go_sem,↓stShape (shN m)];generalize hw3:World.alloc w2 _=w3 at *;obtain ⟨hB3,b3,sz3,bel3⟩:=newF hw3 bel2;replace h2:=h2.next b3
  replace hF2:=hF2.next b3
  replace hT2:=hT2.next b3
  have htl:=hT.lt;refine callE_of (egOpen_calls (V:=⟨zL m,zL m,begD m⟩) (o:=none) (ch:=ch) 0#64 w3 h2 hF2 hT2 (fun hf=>by have:=hg2 _ hf;omega) hm (sto_beg hm ch) (beg_word hm (by decide) (by decide) (by omega)) (by decide)) ?_;rintro v w4 ⟨A,G,rfl,rfl,hR,hEF,hFG,hgx,hgt,b4⟩;simp -implicitDefEqProofs [go_sem];refine body_tmp2 2 3 rfl ?_;simp -implicitDefEqProofs [go_sem];have hs3:=bel3.size;exact ⟨A,G,rfl,hR,fun k hk=>by
   rcases hEF k hk with h5|h5
   ·exact hg2 k h5
   ·omega,btr bel3 b4⟩
def PIv (A:EA)(m:Nat)(V:PV)(G:Nat→Prop)(slot:BitVec 64)(n top many:Nat)(w0:World)(y0:WrV)(SP:Prop)(k:Nat)(aD:Option Addr)(nD cD:Nat)(w':World):Prop :=
 ∃ (ls:List WrV) (aS:Option Addr) (cS:Nat) (C':Array Value) (D:List WrV),Eg A w' m V G ⟨slot,.nilIface,0,.slice none 0 0,0#64⟩ ⟨C',n,top,many+1,slot.toNat,true,slot,.slice aS ls.length cS⟩∧RIn w' 3 aS (ls.map WrV.cs) cS∧SetOk ls∧(∀ y,aS=some y→∃ b,y=⟨b,0,none⟩)∧(∀ y,aS=some y→y.block≠A.bk) ∧
  RIn w' 3 aD (D.map WrV.cs) cD∧D.length=nD∧nD≤k∧(ls=[]↔D=[])∧SepA w' (EF A G) aD∧Turn w0 (EF A G) w' (EF A G)∧(SP→(k=0→ls=[]∧D=[])∧(k=1→ls=[y0]∧D.length=1))
def EPutP (A:EA)(m:Nat)(V:PV)(G:Nat→Prop)(o:Option Tr)(ch:ChF)(slot:BitVec 64)(n many:Nat)(l:List WrV)(w0:World)(v:Value)(w':World):Prop :=
 ∃ (aD:Option Addr) (nD cD:Nat) (e:Int) (on:Bool) (V':PV) (G':Nat→Prop) (o':Option Tr) (ch':ChF) (slot':BitVec 64) (n' top':Nat),v=.tuple #[.slice aD nD cD,.int .i64 e,.bool on]∧EgR A w' m V' G' o' ch' slot' n' top' (many+1) slot.toNat∧Turn w0 (EF A G) w' (EF A G')∧V'.D.steps≤V.D.steps+2000000∧slot'.toNat≤slot.toNat+1∧n'≤n+16 ∧
  ∀ y0,l=[y0]→y0.right→y0.gone=false→itemsO o=[]→(∀ z:Nat,¬ 0<Bk m V (z:Int))→nD=1∧e=0∧on=true∧∃ place off r,itemsO o'=[(nibs y0.key,place)]∧ch' place=([r],[off])∧r.stamp=slot'∧r.gone=false∧r.text=y0.text
theorem RIn.turn' {sz cap:Nat}{a:Option Addr}{L:List (Array Value)}(h:RIn w sz a L cap)(hs:L≠[]→SepA w F a)(ht:Turn w F w' F'):RIn w' sz a L cap:=by
 by_cases h0:L=[]
 ·subst h0;exact ⟨h.size,.inl rfl,h.le,h.max,h.nil⟩
 ·exact h.turn (hs h0) ht
theorem stp_first {I J:List TR.Item}{ch ch':ChF}{q:PastV}{off:Nat}{r:LinkV}{k:ByteArray}{st:BitVec 64}{g:Bool}{tx:ByteArray}(h:Stp I J ch ch' q off r)(hI:I=[])(hk:q.key=k)(h1:r.stamp=st)(h2:r.gone=g)(h3:r.text=tx) :
  ∃ place off r,J=[(nibs k,place)]∧ch' place=([r],[off])∧r.stamp=st∧r.gone=g∧r.text=tx:=by
 obtain ⟨A,B,e1,e2⟩:=h.chg;rw [hI] at e1;have hA:A=[]:=by
  rcases A with _|⟨x,A⟩
  ·rfl
  ·cases e1
 subst hA;rw [List.nil_append] at e1;have hB:B=[]:=(List.append_eq_nil_iff.1 e1.symm).2;have hv:q.value=0#64:=by
  have:=(List.append_eq_nil_iff.1 e1.symm).1;unfold own at this;by_cases hz:q.value=0#64
  ·exact hz
  ·rw [if_neg hz] at this;cases this
 subst hB;refine ⟨q.place,off,r,?_,?_,h1,h2,h3⟩
 ·rw [e2,own_pos _ h.ne,hk];rfl
 ·rw [h.ch,chU_same,hv];unfold tlC;rw [if_pos rfl]
def SIv (A:EA)(m:Nat)(V:PV)(o:Option Tr)(ch:ChF)(slot st:BitVec 64)(n top many:Nat)(ls:List WrV)(j:Nat)(aq aset:Option Addr)(cs cset:Nat)(aS:Option Addr)(cS:Nat)(C2:Array Value)(B0:Nat)(E0:Nat→Prop)(w3:World)(SQ:Prop)(y0:WrV)(q:Nat)(w':World):Prop :=
 ∃ (L:List PastV) (V':PV) (G':Nat→Prop) (o':Option Tr) (ch':ChF) (ad:Option Addr) (cd:Nat),L.length=q∧EgJ A w' m V' G' ⟨slot,.iface 111 (.pointer (some ⟨j,0,none⟩)),0,.slice aset ls.length cset,st⟩ ⟨C2,n,top,many+1,slot.toNat,true,slot,.slice aS ls.length cS⟩ B0 j ls L aq ad aset cs cd cset ∧
  JSt m V' o' ch' (itemsO o) ch st ls L∧Turn w3 (fun k=>E0 k∨B0≤k) w' (fun k=>EF A G' k∨B0≤k)∧V'.D.steps≤V.D.steps+70000*q∧V'.D.word 64=slot ∧
  (SQ→(q=0→itemsO o'=[]∧∀ z:Nat,¬ 0<Bk m V' (z:Int))∧(q=1→∃ place off r,itemsO o'=[(nibs y0.key,place)]∧ch' place=([r],[off])∧r.stamp=st∧r.gone=false∧r.text=y0.text))
theorem eput_calls {a:Option Addr}{l:List WrV}{cap:Nat}(w0:World)(h:EgR A w0 m V G o ch slot n top many bnd)(hm:m=6∨m=24)(hmany:many<16)(hsl:slot.toNat<60000)(hn:n≤900)(hst:V.D.steps+6000000<1099511627776)(hin:RIn w0 3 a (l.map WrV.cs) cap)(hl:l.length≤16)(hsep:l.map WrV.cs≠[]→SepA w0 (EF A G) a) :
  Ret Tryz.prog 7 #[.pointer (some ⟨A.g,0,none⟩),.slice a l.length cap] w0 (EPutP A m V G o ch slot n many l w0):=by
 obtain ⟨C,hC⟩:=h.eg;obtain ⟨y0,hy0⟩:∃ y0:WrV,y0=l.getD 0 ⟨⟨#[]⟩,⟨#[]⟩,false⟩:=⟨_,rfl⟩;obtain ⟨SP,hSP⟩:∃ SP:Prop,SP=(l=[y0]∧y0.right∧y0.gone=false):=⟨_,rfl⟩;refine ret_of (args:=[_,_]) _ Tryz.func7 rfl Tryz.ntmps7 (by simp) ?_;simp -implicitDefEqProofs [go_sem];refine callE_of (egBegin_calls w0 hC rfl hmany h.bnd) ?_;rintro v w1 ⟨rfl,C1,h1,t1⟩;simp -implicitDefEqProofs [go_sem]
 refine wpE_loop (fun e' w'=>∃ (k:Nat) (aD:Option Addr) (nD cD:Nat),k≤l.length∧e' 0=.pointer (some ⟨A.g,0,none⟩)∧e' 7=.int .i64 0∧e' 9=.slice aD nD cD∧e' 24=.slice a l.length cap∧e' 25=.int .i64 (l.length:Int)∧e' 26=.int .i64 (k:Int)∧PIv A m V G slot n top many w0 y0 SP k aD nD cD w') (fun e' _=>l.length-(intOf (e' 26)).toNat) ?_ ?_
 ·refine ⟨0,none,0,0,Nat.zero_le _,?_⟩;simp -implicitDefEqProofs [go_sem];exact ⟨[],none,0,C1,[],h1,rin_nil (by decide) (fun _=>rfl),⟨by simp,by simp,by simp⟩,(fun y hy=>by cases hy),(fun y hy=>by cases hy),rin_nil (by decide) (fun _=>rfl),rfl,Nat.le_refl _,Iff.rfl,(fun y hy=>by cases hy),t1,fun _=>⟨fun _=>⟨rfl,rfl⟩,fun h=>by omega⟩⟩
 ·rintro e' w2 ⟨k,aD,nD,cD,hk,g0,g7,g9,g24,g25,g26,ls,aS,cS,C2,D,h2,hS2,hso,hsf,hsb,hD2,hDn,hnk,hiff,hDs,t2,hsp⟩;have hin2:=hin.turn' hsep t2;by_cases hlt:k<l.length
  ·have hlt':(k:Int)<(l.length:Int):=by omega
   have i1:=IntWalk.i64_in ((k:Int)+1) (by omega);obtain ⟨ib,io,rfl,hld⟩:=hin2.ld (i:=k) (by simpa using hlt) Tryz.underlying48 rfl wrIR;have hcs:(l.map WrV.cs)[k]'(by simpa using hlt)=l[k].cs:=by simp
   rw [hcs] at hld;have hstw:=stNew (P:=Tryz.prog) (t:=48) (cs:=l[k].cs) (C0:=#[.string ⟨#[]⟩,.string ⟨#[]⟩,.bool false]) wrIR rfl l[k].cs_one;have q0:l[k].cs[0]?=some (.string l[k].key):=rfl;have q1:l[k].cs[1]?=some (.string l[k].text):=rfl;have q2:l[k].cs[2]?=some (.bool l[k].gone):=rfl;have hB3:=Blk.new w2 l[k].cs 48;have b3:=(Below.refl w2.heap.size w2).alloc (Nat.le_refl _) (.cells l[k].cs 48);simp -implicitDefEqProofs [go_sem,g0,g7,g9,g24,g25,g26,hlt,hlt',↓hld,↓hstw];have hEl:=h2.lt
   have hsz3:w2.heap.size<(w2.alloc (.cells l[k].cs 48)).heap.size:=hB3.lt;generalize World.alloc w2 _=w3 at *;obtain ⟨x,hx⟩:∃ x:WrV,x=⟨l[k].key,if l[k].gone then ⟨#[]⟩ else l[k].text,l[k].gone⟩:=⟨_,rfl⟩;have hl1000:D.length≤1000:=by omega
   cases hg:l[k].gone
   case' true =>
    rw [hg] at q2;rw [hg,if_pos rfl] at hx;simp -implicitDefEqProofs [go_sem,g0,g7,g9,g24,g25,g26,hB3.cell,q0,q1,q2,hB3.thaw];have mS:Mod (fun z=>z=w2.heap.size) w3 (w3.setCell ⟨w2.heap.size,1,none⟩ (.string ⟨#[]⟩)):=(Mod.refl (fun z=>z=w2.heap.size) w3).setCell (a:=⟨w2.heap.size,1,none⟩) (.inl rfl) _;have b4:Below w2.heap.size w2 (w3.setCell ⟨w2.heap.size,1,none⟩ (.string ⟨#[]⟩)):=b3.trans (mS.below (by omega) fun z hz=>by omega)
    have hB4:Blk (w3.setCell ⟨w2.heap.size,1,none⟩ (.string ⟨#[]⟩)) w2.heap.size x.cs 48:=by
     have:=hB3.set 1 (.string ⟨#[]⟩);rw [show l[k].cs.setIfInBounds 1 (.string ⟨#[]⟩)=x.cs by rw [hx];show (#[.string l[k].key,.string ⟨#[]⟩,.bool l[k].gone]:Array Value)=_;rw [hg];rfl] at this;exact this
    generalize World.setCell w3 _ _=w4 at *;have hcall:=egDel_calls l[k].key w4 (h2.next b4) rfl rfl rfl (hS2.next b4) hso hsf hsb;rw [← hx] at hcall
   case' false =>
    rw [hg] at q2;rw [hg,if_neg (by decide)] at hx;simp -implicitDefEqProofs [go_sem,g0,g7,g9,g24,g25,g26,hB3.cell,q0,q1,q2];have b4:=b3;have hB4:Blk w3 w2.heap.size x.cs 48:=by
     have:=hB3;rw [show l[k].cs=x.cs by rw [hx];show (#[.string l[k].key,.string l[k].text,.bool l[k].gone]:Array Value)=_;rw [hg];rfl] at this;exact this
    clear hB3 b3 hsz3;obtain ⟨w4,hw4⟩:∃ w4,w4=w3:=⟨_,rfl⟩;rw [← hw4] at b4 hB4 ⊢;have hcall:=egPut_calls l[k].key l[k].text w4 (h2.next b4) rfl rfl rfl (hS2.next b4) hso hsf hsb;rw [← hx] at hcall
   all_goals
    have hD4:=hD2.next b4
    have hDs4:=hDs.next b4
    have t4:=t2.trans (Turn.of b4);have hsz4:=b4.size;have hxy:SP→k=0→x=y0:=fun hs hk0=>by
     rw [hSP] at hs;subst hk0;have e1:l[0]=y0:=by
      have:=hs.1;simp [this]
     rw [hx,e1];have h3:=hs.2.2;rw [e1,h3] at hg
     first
      | cases hg;done
      | (cases y0;simp at h3 ⊢;first|exact h3.symm|exact h3)
    refine callE_of hcall ?_;rintro v w5 ⟨ls',aS',cS',C',e,rfl,h5,hS5,hso5,hsf5,hsb5,t5,hcase,hone,hnewS⟩;have hB5:=hB4.mod t5.mod (fun hE=>by have:=hEl _ hE;omega);have hD5:=hD4.turn hDs4 t5;have hDs5:=hDs4.turn t5;have t5':=t4.trans t5;by_cases he:e=0
    ·subst he;have hok:x.right∧ls'≠[]:=by
      rcases hcase with h|h
      ·exact h.2
      ·exact absurd rfl h.1
     have ldx:=ldAll (P:=Tryz.prog) hB5 Tryz.underlying48 rfl wrIR (n:=3) x.cs_size;have hrp:=refWPut_calls x w5 hD5 hl1000;rw [hDn] at hrp;simp -implicitDefEqProofs [go_sem,g0,g7,g9,g24,g25,g26,↓ldx];refine callE_of hrp ?_;rintro v w6 ⟨D',aD',cD',e6,rfl,hD6,hne6,hone6,hno6,hlen6,hwh6,b6⟩;simp -implicitDefEqProofs [go_sem,g0,g7,g9,g24,g25,g26,i1];refine goE_round ⟨k+1,aD',D'.length,cD',by omega,?_⟩ ?_
     ·simp -implicitDefEqProofs [go_sem,g0,g7,g9,g24,g25,g26,i1];have hlt5:=h5.lt;refine ⟨ls',aS',cS',C',D',h5.next b6,hS5.next b6,hso5,hsf5,hsb5,hD6,rfl,by omega,⟨fun h=>absurd h hok.2,fun h=>absurd h (hne6 hok.1)⟩,fun y hy=>?_,t5'.trans (Turn.of b6),fun hs=>⟨fun h=>by omega,fun h=>?_⟩⟩
      ·rcases hwh6 y hy with h7|h7
       ·have h8:=(hDs5.next b6) y (by rw [← h7];exact hy);exact h8
       ·exact ⟨h7.2,fun hE=>by have:=hlt5 _ hE;omega⟩
      ·have hk0:k=0:=by omega
       obtain ⟨hl0,hD0⟩:=(hsp hs).1 hk0;have h8:=hone hl0 hok.1;rw [hxy hs hk0] at h8;exact ⟨h8.1,hone6 hok.1 hD0⟩
     ·simp -implicitDefEqProofs [go_sem,g26,intOf,i1];omega
    ·have heb:(e==0)=false:=beq_eq_false_iff_ne.2 he;have hls:ls'=ls:=by
      rcases hcase with h|h
      ·exact absurd h.1 he
      ·exact h.2
     subst hls;simp -implicitDefEqProofs [go_sem,g0,g7,g9,g24,g25,g26,heb,i1];refine goE_round ⟨k+1,aD,nD,cD,by omega,?_⟩ ?_
     ·simp -implicitDefEqProofs [go_sem,g0,g7,g9,g24,g25,g26,i1];refine ⟨ls',aS',cS',C',D,h5,hS5,hso5,hsf5,hsb5,hD5,hDn,by omega,hiff,hDs5,t5',fun hs=>⟨fun h=>by omega,fun h=>?_⟩⟩;have hk0:k=0:=by omega
      obtain ⟨hl0,hD0⟩:=(hsp hs).1 hk0;have hr0:x.right:=by
       rw [hxy hs hk0];rw [hSP] at hs;exact hs.2.1
      exact absurd (hone hl0 hr0).2 he
     ·simp -implicitDefEqProofs [go_sem,g26,intOf,i1];omega
  ·obtain rfl:k=l.length:=by omega
   have hr:=h.sto.own.rest;have hSPof:∀ z,l=[z]→z.right→z.gone=false→z=y0∧SP:=fun z h1 h2 h3=>by
    have e1:y0=z:=by rw [hy0,h1];rfl
    rw [hSP];subst e1;exact ⟨rfl,h1,h2,h3⟩
   by_cases hls:ls=[]
   ·subst hls;have hD0:=hiff.1 rfl;subst hD0;have hnD:nD=0:=hDn.symm;subst hnD;simp -implicitDefEqProofs [go_sem,g0,g7,g9,g24,g25,g26];refine callE_of (egCommit0_calls w2 h2 rfl rfl rfl hS2) ?_;rintro v w3 ⟨rfl,C3,h3,t3⟩;simp -implicitDefEqProofs [go_sem,g0,g7,g9];refine body_tmp3 4 5 6 rfl ?_;simp -implicitDefEqProofs [go_sem];refine ⟨none,0,0,0,false,V,G,o,ch,slot,n,top,rfl,⟨⟨C3,h3⟩,h.sto,h.w64,h.top,Nat.le_refl _⟩,t2.trans t3,by omega,by omega,by omega,fun z h1 h4 h5 _ _=>?_⟩
    obtain ⟨rfl,hs⟩:=hSPof z h1 h4 h5;have:=((hsp hs).2 (by rw [h1];rfl)).1;cases this
   ·have hDne:D≠[]:=fun h=>hls (hiff.2 h)
    have hnD:((nD:Int)==0)=false:=by
     rw [beq_eq_false_iff_ne];intro e;exact hDne (List.eq_nil_of_length_eq_zero (by omega))
    simp -implicitDefEqProofs [go_sem,g0,g7,g9,g24,g25,g26];refine callE_of (egCommit_calls w2 h2 rfl rfl rfl hS2 hso hls hr hm h.w64 hsl h.top) ?_;rintro v w3 ⟨rfl,j,aq,aset,csz,cset,hJ,t3⟩;obtain ⟨st,hst0⟩:∃ st,st=slot+1#64:=⟨_,rfl⟩;have est:st.toNat=slot.toNat+1:=by
     rw [hst0,BitVec.toNat_add];show (slot.toNat+1)%18446744073709551616=_;omega
    have hst1:st≠0#64:=fun e=>by rw [e] at est;simp at est
    rw [← hst0] at hJ;have hl16:=hso.len;have hJS:JSt m V o ch (itemsO o) ch st ls []:=⟨h.sto.mono (by omega),⟨rfl,rfl⟩,Nat.zero_le _,(fun i hi=>by cases hi),fun i hi _ k hk=>by have:=tl_stamps h.sto (nibs ls[i].key) k hk;omega⟩;obtain ⟨SQ,hSQ⟩:∃ SQ:Prop,SQ=(SP∧itemsO o=[]∧∀ z:Nat,¬ 0<Bk m V (z:Int)):=⟨_,rfl⟩;have hB0:w0.heap.size≤w2.heap.size:=t2.size;have hsqf:SQ→ls=[y0]∧nD=1∧y0.gone=false:=fun hq=>by
     rw [hSQ] at hq;have h4:=hsp hq.1;have h5:=hq.1;rw [hSP] at h5;have h6:=h4.2 (by rw [h5.1];rfl);exact ⟨h6.1,by omega,h5.2.2⟩
    simp -implicitDefEqProofs [go_sem,g0,g7,g9,hnD];refine wpE_loop (fun e' w'=>∃ (q:Nat),q≤ls.length∧e' 0=.pointer (some ⟨A.g,0,none⟩)∧e' 9=.slice aD nD cD∧e' 65=.int .i64 (q:Int) ∧
     SIv A m V o ch slot st n top many ls j aq aset csz cset aS cS C2 w2.heap.size (EF A G) w3 SQ y0 q w') (fun e' _=>20-(intOf (e' 65)).toNat) ?_ ?_
    ·refine ⟨0,Nat.zero_le _,?_⟩;simp -implicitDefEqProofs [go_sem,g0,g9];exact ⟨[],V,G,o,ch,none,0,rfl,hJ,hJS,⟨Mod.refl _ _,fun k hk=>.inl hk⟩,by omega,h.w64,fun hq=>⟨fun _=>by rw [hSQ] at hq;exact hq.2,fun h=>by omega⟩⟩
    ·rintro e2 w4 ⟨q,hq,u0,u9,u65,L,V4,G4,o4,ch4,ad,cd,hLq,hJ4,hJS4,t4,hs4,hw4,hsp4⟩;have hq20:(q:Int)<20:=by omega
     have i1:=IntWalk.i64_in ((q:Int)+1) (by omega);simp -implicitDefEqProofs [go_sem,u0,u9,u65,hq20];refine callE_of (egStep_calls w4 hJ4 hJS4 rfl hso hm (by omega) hst1 (by show n≤1000;omega) (by show top≤st.toNat;have:=h.top;omega)) ?_;rintro v w5 ⟨over,e,V5,G5,o5,rfl,t5,hs5,hcase⟩;have t35:=t4.trans t5;have tall:Turn w0 (EF A G) w5 (EF A G5):=by
      have t03:=t2.trans t3;have hElt:=h2.lt;refine ⟨t03.mod.trans (t35.mod) fun k hk hlt2=>?_,fun k hk=>?_⟩
      ·rcases hk with hk|hk
       ·exact hk
       ·omega
      ·rcases t35.new k (.inl hk) with (h6|h6)|h6
       ·exact .inl h6
       ·exact .inr (by omega)
       ·exact .inr (by have:=t3.size;omega)
     rcases hcase with ⟨rfl,rfl,qq,ch5,ad5,cd5,hqlt,hJ5,hJS5,hw5,hfin⟩|⟨rfl,rfl,hLe,rfl,hS5,hw5,C5,h5⟩|⟨rfl,rfl,hLt,hS5,hI5,hw5,hmany5,C5,h5⟩
     ·simp -implicitDefEqProofs [go_sem,u0,u9,u65,i1];refine goE_round ⟨q+1,by omega,?_⟩ ?_
      ·simp -implicitDefEqProofs [go_sem,u0,u9,u65,i1];refine ⟨L++[qq],V5,G5,o5,ch5,ad5,cd5,by rw [List.length_append,hLq];rfl,hJ5,hJS5,t35,by rw [Nat.mul_add_one];exact Nat.le_trans hs5 (by rw [← Nat.add_assoc];exact Nat.add_le_add_right hs4 _),hw5.trans hw4,fun hsq=>⟨fun h=>by omega,fun h6=>?_⟩⟩;have hq0:q=0:=by omega
       subst hq0;have hL0:L=[]:=List.eq_nil_of_length_eq_zero hLq;subst hL0;obtain ⟨hI4,_⟩:=(hsp4 hsq).1 rfl;obtain ⟨hlsy,_,hgy⟩:=hsqf hsq;subst hlsy
       rcases hfin with ⟨_,h7⟩|⟨off,r,hSt,hk,hr1,hr2,hr3⟩
       ·have h8:y0.gone=true:=h7;rw [hgy] at h8;cases h8
       ·exact stp_first hSt hI4 hk hr1 (hr2.trans hgy) hr3
      ·simp -implicitDefEqProofs [go_sem,u65,intOf,i1];omega
     ·simp -implicitDefEqProofs [go_sem,u0,u9,u65];refine body_tmp3 4 5 6 rfl ?_;simp -implicitDefEqProofs [go_sem];refine ⟨aD,nD,cD,0,true,V5,G5,_,ch4,st,n+ls.length,st.toNat,rfl,⟨⟨C5,h5⟩,hS5,hw5,Nat.le_refl _,by omega⟩,tall,by omega,by omega,by omega,fun z h1 h6 h7 h8 h9=>?_⟩;obtain ⟨rfl,hs⟩:=hSPof z h1 h6 h7;have hsq:SQ:=by rw [hSQ];exact ⟨hs,h8,h9⟩
      obtain ⟨hlsy,hnd,_⟩:=hsqf hsq;have hq1:q=1:=by rw [← hLq,hLe,hlsy];rfl
      exact ⟨hnd,rfl,rfl,(hsp4 hsq).2 hq1⟩
     ·simp -implicitDefEqProofs [go_sem,u0,u9,u65];refine body_tmp3 4 5 6 rfl ?_;simp -implicitDefEqProofs [go_sem];refine ⟨aD,nD,cD,6,true,V5,G5,o5,ch,slot,n,top,rfl,⟨⟨C5,h5⟩,hS5.lower h.sto hI5,hw5.trans hw4,h.top,Nat.le_refl _⟩,tall,by omega,by omega,by omega,fun z h1 h6 h7 h8 h9=>?_⟩;obtain ⟨rfl,hs⟩:=hSPof z h1 h6 h7;have hsq:SQ:=by rw [hSQ];exact ⟨hs,h8,h9⟩
      obtain ⟨hlsy,hnd,_⟩:=hsqf hsq;have hq0:q=0:=by rw [hlsy] at hLt;simp at hLt;rw [hLt] at hLq;simpa using hLq.symm
      obtain ⟨_,hb4⟩:=(hsp4 hsq).1 hq0;obtain ⟨V6,L6,hG6,hL6,hM6⟩:=hmany5;have h10:=hM6 L6 fun y hy=>by
       by_cases hyL:y∈L6
       ·exact hyL
       ·rw [hG6.old y hyL] at hy;exact absurd hy (hb4 y)
      omega
end
end
end Go.Proofs.YtaaihijkdhmcdaaGreatDoor
