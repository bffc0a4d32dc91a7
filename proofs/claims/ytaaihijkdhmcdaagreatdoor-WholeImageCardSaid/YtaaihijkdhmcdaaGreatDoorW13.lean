/- WholeImage, part 14 of 38: contracts and lemmas of its proof. Conditions: none. -/
import Derived.Test.YtaaihijkdhmcdaaGreatDoorW12
import Derived.Test.YtaaihijkdhmcdaaGreatDoorW08
import Derived.Test.YtaaihijkdhmcdaaGreatDoorW10
set_option linter.unusedVariables false
set_option linter.unusedSimpArgs false
set_option maxRecDepth 100000
namespace Go.Proofs.YtaaihijkdhmcdaaGreatDoor
section
open Go Go.RowKit
def nL (m:Nat):Nat:=if m=6 then 100 else 400
def dT (m:Nat):Nat:=if m=6 then 192 else 320
theorem sz {m:Nat}(hm:m=6∨m=24):128+8*m≤dT m∧dT m+1024*m≤64*nL m∧nL m≤400∧100≤nL m∧6≤m∧m≤24∧192≤dT m∧dT m≤320∧dT m%64=0:=by
 rcases hm with rfl|rfl<;>decide
def shN (m:Nat):HM.Shape:=⟨((nL m:Nat):Int),(m:Int),128,((dT m:Nat):Int)⟩
def begD (m:Nat):NM.Dv:=(NM.dev0 (nL m)).format.1
theorem of_shN {m:Nat}(hm:m=6∨m=24):HM.of ((nL m:Nat):Int)=(shN m,true):=by
 have zf:=sz hm
 rcases hm with rfl|rfl<;>decide +kernel
theorem dev0_len' (n:Nat):(NM.dev0 n).ls.length=n:=by simp [NM.dev0]
theorem beg_facts {m:Nat}(hm:m=6∨m=24):(NM.dev0 (nL m)).format.2=(shN m,0)∧(begD m).openH=(shN m,0)∧(begD m).Up∧(begD m).Ok∧(begD m).ls.length=nL m∧∀ i,i<m→(begD m).word (128+8*i)=0#64:=by
 have zf:=sz hm;have hof:(HM.of (NM.dev0 (nL m)).ls.length).2=true:=by rw [dev0_len',of_shN hm]
 have hs:(HM.of (NM.dev0 (nL m)).ls.length).1=shN m:=by rw [dev0_len',of_shN hm]
 have hok:=NM.dev0_ok (nL m) (by omega);have hup:=NM.dev0_up (nL m);have hp:0<(NM.dev0 (nL m)).ls.length:=by rw [dev0_len'];omega
 obtain ⟨f1,f2,f3,f4,f5,f6⟩:=NM.format_up hok hup hp hof;have fo:=NM.open_format hok hup hp hof;have hwl:(HM.words (HM.of (NM.dev0 (nL m)).ls.length).1).length=8:=by
  obtain ⟨hn1,hn2,hn3,_⟩:=HM.of_some hof;rw [hn3];exact HM.words_len (by omega) (by omega)
 rw [hs] at f1 fo;refine ⟨f1,fo,f2,f3,by rw [← dev0_len' (nL m)];exact f4,fun i hi=>?_⟩;have:=f5 (128+8*i) (by omega) (by unfold NM.Dv.size;rw [dev0_len'];omega);rw [show begD m=(NM.dev0 (nL m)).format.1 from rfl,this];rw [List.getD,List.getElem?_eq_none (by rw [hwl];omega)];rfl
theorem get_word {D:NM.Dv}(hp:0<D.ls.length)(hd:D.down=false){i:Nat}(hi:136+8*i≤D.size):D.get ((128+8*i:Nat):Int) 1=([D.word (128+8*i)],0):=by
 have h:D.get ((128+8*i:Nat):Int) 1=(wordsAt D (128+8*i) 1,0):=get_in (o:=128+8*i) (n:=1) hp hd (by omega) (by omega);rw [h];rfl
theorem wordD_word {D:NM.Dv}(hp:0<D.ls.length)(hd:D.down=false){i:Nat}(hi:136+8*i≤D.size):wordD D i=D.word (128+8*i):=by
 unfold wordD;rw [get_word hp hd hi];rfl
theorem badD_word {D:NM.Dv}(hp:0<D.ls.length)(hd:D.down=false){i:Nat}(hi:136+8*i≤D.size):badD D i=if WM.rightM (D.word (128+8*i))=true then none else some 5:=by
 unfold badD;rw [wordD_word hp hd hi,get_word hp hd hi,if_neg (by simp)]
theorem openE_none {D:NM.Dv}{n:Nat}(h:∀ i,i<n→badD D i=none):openE D n=none:=by
 induction n with
 | zero=>rfl
 | succ n ih=>unfold openE;rw [ih (fun i hi=>h i (by omega))];exact h n (by omega)
end
section
open Go Go.RowKit
theorem put_same {D:NM.Dv}{o:Nat}(h8:o%8=0)(ho:o+8≤D.size)(n:BitVec 64):runS D (putAllS o [n])=runS D (putS o n):=by
 have hlines:linesOf o 1=1:=by unfold linesOf;rw [if_neg (by omega)];omega
 have hs:putAllS o [n]=[.store (o:Int) n,.flush ((64*(o/64):Nat):Int),.fence]:=by
  unfold putAllS;rw [show ([n]:List (BitVec 64)).length=1 from rfl,hlines];simp [storesS,flushesS,List.range_succ]
 unfold NM.Dv.size at ho;rw [hs];unfold putS;by_cases h0:(D.step (.store (o:Int) n)).2=0
 ·rw [runS_ok h0,runS_ok h0];have hlE:=step_len D (.store (o:Int) n);generalize (D.step (.store (o:Int) n)).1=E at *;have hf:E.step (.flush ((64*(o/64):Nat):Int))=E.step (.flush (o:Int)):=by
   show E.flush _=E.flush _;cases hd:E.down with
   | true=>unfold NM.Dv.flush;rw [NM.ask_down (by omega) hd,NM.ask_down (by omega) hd];rfl
   | false =>
    have a1:E.ask ((64*(o/64):Nat):Int) 1=0:=NM.ask_nat (e:=1) (by omega) hd (by unfold NM.Dv.size;omega) (Nat.mod_one _);have a2:E.ask (o:Int) 1=0:=NM.ask_nat (e:=1) (by omega) hd (by unfold NM.Dv.size;omega) (Nat.mod_one _);unfold NM.Dv.flush;rw [if_pos a1,if_pos a2,Int.toNat_natCast,Int.toNat_natCast,show 64*(o/64)/64=o/64 by omega]
  by_cases h1:(E.step (.flush (o:Int))).2=0
  ·rw [runS_ok h1,runS_ok (by rw [hf];exact h1),hf]
  ·rw [runS_err h1,runS_err (by rw [hf];exact h1),hf]
 ·rw [runS_err h0,runS_err h0]
theorem put_up {D:NM.Dv}(hok:D.Ok)(hu:D.Up)(hp:0<D.ls.length){o:Nat}(h8:o%8=0)(ho:o+8≤D.size)(n:BitVec 64) :
  (runS D (putS o n)).2=0∧(runS D (putS o n)).1.Up∧(runS D (putS o n)).1.Ok∧(runS D (putS o n)).1.ls.length=D.ls.length ∧
  (∀ x,x%8=0→x<D.size→(runS D (putS o n)).1.word x=if x=o then n else D.word x)∧((runS D (putS o n)).1.ln (o/64)).chg=[]:=by
 have hin:=putAllS_in (o:=o) (l:=[n]) (N:=D.ls.length) h8 (by unfold NM.Dv.size at ho;show o+8*1≤_;omega);obtain ⟨h1,h2⟩:=runS_upUp hu hp _ hin;have h3:=runS_okk hok (putAllS o [n]);have h4:=runS_len D (putAllS o [n]);have h5:=fun x hx hxs=>putAll_words hok hp (o:=o) (l:=[n]) h8 (by show o+8*1≤_;omega) h1 (x:=x) hx hxs
 have h6:=putAll_one hp (o:=o) (l:=[n]) h8 (by show o+8*1≤_;omega) h1 (j:=0) (by show 0<1;omega);rw [put_same h8 ho] at h1 h2 h3 h4 h5 h6;refine ⟨h1,h2,h3,h4,fun x hx hxs=>?_,?_⟩
 ·rw [h5 x hx hxs];by_cases e:x=o
  ·subst e;rw [if_pos ⟨Nat.le_refl _,by show x<x+8*1;omega⟩,if_pos rfl,Nat.sub_self];rfl
  ·rw [if_neg e,if_neg];rintro ⟨h,h'⟩;have h':x<o+8*1:=h';omega
 ·simpa using h6
structure Well (m:Nat) (V:PV):Prop where
 len:V.T.length=m
 lenH:V.H.length=m
 pair:∀ i,i<m→WM.Pair (V.T.getD i 0#64) (V.H.getD i 0#64)
 up:V.D.Up
 ok:V.D.Ok
 lines:V.D.ls.length=nL m
 tab:∀ i,i<m→V.D.word (128+8*i)=V.T.getD i 0#64
theorem well_put {m i:Nat}{V:PV}{x:BitVec 64}(h:Well m V)(hm:m=6∨m=24)(hi:i<m)(hx:WM.Pair x (V.H.getD i 0#64)):(putV V i x).2=0∧(putV V i x).1.T=V.T.set i x∧(putV V i x).1.H=V.H∧Well m (putV V i x).1:=by
 have zf:=sz hm;have hs:V.D.size=64*(nL m):=by unfold NM.Dv.size;rw [h.lines]
 obtain ⟨u1,u2,u3,u4,u5,u6⟩:=put_up h.ok h.up (by rw [h.lines];omega) (o:=128+8*i) (by omega) (by omega) x;have e1:(putV V i x).2=0:=u1;have e2:(putV V i x).1.T=V.T.set i x:=by show (if _ then _ else _)=_;rw [if_pos u1]
 have e3:(putV V i x).1.H=V.H:=rfl;have hget:∀ j,j<m→(V.T.set i x).getD j 0#64=if j=i then x else V.T.getD j 0#64:=fun j hj=>by
  by_cases e:j=i
  ·subst e;rw [if_pos rfl];simp [List.getD,h.len,hj]
  ·rw [if_neg e];simp [List.getD,Ne.symm e]
 refine ⟨e1,e2,e3,⟨by rw [e2,List.length_set];exact h.len,h.lenH,fun j hj=>?_,u2,u3,u4.trans h.lines,fun j hj=>?_⟩⟩
 ·rw [e2,e3,hget j hj];split
  ·rename_i e;subst e;exact hx
  ·exact h.pair j hj
 ·show (runS V.D (putS ((128+8*i:Nat):Int) x)).1.word (128+8*j)=_;rw [u5 _ (by omega) (by omega),e2,hget j hj];by_cases e:j=i
  ·subst e;rw [if_pos rfl,if_pos rfl]
  ·rw [if_neg (by omega),if_neg e];exact h.tab j hj
end
section
open Go Go.RowKit
theorem wordsSet {l:List (BitVec 64)}{m i j:Nat}(hl:l.length=m)(hj:j<m)(x:BitVec 64):(l.set i x).getD j 0#64=if j=i then x else l.getD j 0#64:=by
 by_cases e:j=i
 ·subst e;rw [if_pos rfl];simp [List.getD,hl,hj]
 ·rw [if_neg e];simp [List.getD,Ne.symm e]
theorem well_held {m i:Nat}{V:PV}{y:BitVec 64}(h:Well m V)(hp:WM.Pair (V.T.getD i 0#64) y):Well m { V with H:=V.H.set i y }:=by
 refine ⟨h.len,by rw [List.length_set];exact h.lenH,fun j hj=>?_,h.up,h.ok,h.lines,h.tab⟩;show WM.Pair (V.T.getD j 0#64) ((V.H.set i y).getD j 0#64);rw [wordsSet h.lenH hj];split
 ·rename_i e;subst e;exact hp
 ·exact h.pair j hj
theorem well_zero {m:Nat}(hm:m=6∨m=24):Well m ⟨List.replicate m 0#64,List.replicate m 0#64,begD m⟩:=by
 have zf:=sz hm;obtain ⟨f1,f2,f3,f4,f5,f6⟩:=beg_facts hm;have hz:∀ i,(List.replicate m 0#64).getD i 0#64=0#64:=fun i=>by
  simp only [List.getD,List.getElem?_replicate];split<;>rfl
 refine ⟨List.length_replicate,List.length_replicate,fun i _=>?_,f3,f4,f5,fun i hi=>?_⟩
 ·show WM.Pair ((List.replicate m 0#64).getD i 0#64) ((List.replicate m 0#64).getD i 0#64);rw [hz];exact WM.Pair.zero
 ·show (begD m).word (128+8*i)=(List.replicate m 0#64).getD i 0#64;rw [hz];exact f6 i hi
theorem well_take {m:Nat}{V:PV}{s:HM.Shape}(h:Well m V)(hm:m=6∨m=24)(off:Int):Well m (takeV s V off).1∧((takeV s V off).2=0∨((takeV s V off).2=7∧(takeV s V off).1=V)):=by
 have zf:=sz hm;unfold takeV;split
 ·exact ⟨h,.inr ⟨rfl,rfl⟩⟩
 ·rename_i i q hf;obtain ⟨hi,hq,-,-⟩:=findP_some hf;rw [h.len] at hi;by_cases hh:WM.hasM (V.H.getD i 0#64) q=true
  ·rw [if_pos hh];have ht:WM.tR (V.H.getD i 0#64) q=true:=by rw [← WM.has_ref _ _ hq];exact hh
   obtain ⟨k1,k2,k3⟩:=(h.pair i hi).keep hq ht;rw [WM.cR_class];have hp0:WM.Pair (WM.takeW (V.T.getD i 0#64) (WM.cR (V.H.getD i 0#64):Nat) q) (WM.dropW (V.H.getD i 0#64) q):=k2;have hs:V.D.size=64*(nL m):=by unfold NM.Dv.size;rw [h.lines]
   obtain ⟨u1,u2,u3,u4,u5,u6⟩:=put_up h.ok h.up (by rw [h.lines];omega) (o:=128+8*i) (by omega) (by omega) (WM.takeW (V.T.getD i 0#64) (WM.cR (V.H.getD i 0#64):Nat) q);have e1:(putV V i (WM.takeW (V.T.getD i 0#64) (WM.cR (V.H.getD i 0#64):Nat) q)).2=0:=u1;have e2:(putV V i (WM.takeW (V.T.getD i 0#64) (WM.cR (V.H.getD i 0#64):Nat) q)).1.T=V.T.set i (WM.takeW (V.T.getD i 0#64) (WM.cR (V.H.getD i 0#64):Nat) q):=by show (if _ then _ else _)=_;rw [if_pos u1]
   rw [if_pos e1];refine ⟨⟨?_,?_,fun j hj=>?_,u2,u3,u4.trans h.lines,fun j hj=>?_⟩,.inl rfl⟩
   ·show (putV V i _).1.T.length=m;rw [e2,List.length_set];exact h.len
   ·show (V.H.set i _).length=m;rw [List.length_set];exact h.lenH
   ·show WM.Pair ((putV V i _).1.T.getD j 0#64) ((V.H.set i _).getD j 0#64);rw [e2,wordsSet h.len hj,wordsSet h.lenH hj];by_cases e:j=i
    ·rw [if_pos e,if_pos e];exact hp0
    ·rw [if_neg e,if_neg e];exact h.pair j hj
   ·show (runS V.D (putS ((128+8*i:Nat):Int) _)).1.word (128+8*j)=(putV V i _).1.T.getD j 0#64;rw [u5 _ (by omega) (by omega),e2,wordsSet h.len hj];by_cases e:j=i
    ·subst e;rw [if_pos rfl,if_pos rfl]
    ·rw [if_neg (by omega),if_neg e];exact h.tab j hj
  ·rw [if_neg hh];exact ⟨h,.inr ⟨rfl,rfl⟩⟩
theorem well_drop {m:Nat}{V:PV}{s:HM.Shape}(h:Well m V)(hm:m=6∨m=24)(off:Int):Well m (dropV s V off).1∧((dropV s V off).2=0∨((dropV s V off).2=7∧(dropV s V off).1=V)):=by
 have zf:=sz hm;unfold dropV;split
 ·exact ⟨h,.inr ⟨rfl,rfl⟩⟩
 ·rename_i i q hf;obtain ⟨hi,hq,-,-⟩:=findP_some hf;rw [h.len] at hi;by_cases hh:WM.hasM (V.H.getD i 0#64) q=true
  ·rw [if_pos hh];have ht:WM.tR (V.H.getD i 0#64) q=true:=by rw [← WM.has_ref _ _ hq];exact hh
   exact ⟨well_held h ((h.pair i hi).dropH hq ht).1,.inl rfl⟩
  ·rw [if_neg hh];by_cases hy:WM.hasM (V.T.getD i 0#64) q=true
   ·rw [if_pos hy];have ht:WM.tR (V.T.getD i 0#64) q=true:=by rw [← WM.has_ref _ _ hq];exact hy
    obtain ⟨e1,e2,e3,e4⟩:=well_put h hm hi ((h.pair i hi).dropT hq ht).1;exact ⟨e4,.inl e1⟩
   ·rw [if_neg hy];exact ⟨h,.inr ⟨rfl,rfl⟩⟩
end
section
open Go Go.RowKit
def reserveV (s:HM.Shape)(V:PV)(c:Nat):PV × Int × Int :=
 match pickP (bF V.T V.H) V.T.length c with
 | none=>(V,0,6)
 | some i=>({ V with H:=V.H.set i (WM.takeW (V.H.getD i 0#64) c (WM.nextM (bF V.T V.H i) c)) },placeI s i c (WM.nextM (bF V.T V.H i) c).toNat,0)
theorem takeOk_next {x:BitVec 64}{c:Nat}(hx:WM.rB x=true)(hc:c=1∨c=2)(h:0≤WM.nextM x c):∃ q:Nat,WM.nextM x c=q∧q<WM.bl c∧WM.takeOk x c q=true∧WM.tR x q=false∧∀ j,j<q→WM.tR x j=true:=by
 have hn:=WM.next_ref x c;rw [WM.blocksI_nat,Int.toNat_natCast] at hn;split at hn
 ·rename_i h1
  rcases WM.firstOff_cases x (WM.bl c) 0 with ⟨e,_⟩|⟨t,e,h2,h3,h4,h5⟩
  ·omega
  ·have hf:WM.tR x t=false:=by rw [WM.bit_tR hx];exact h4
   refine ⟨t,by rw [hn];exact e,by omega,WM.take_ok hc (by omega) hx (by omega) hf,hf,fun j hj=>?_⟩;rw [WM.bit_tR hx];exact h5 j (by omega) hj
 ·omega
section
variable {b p:Nat} {s:HM.Shape} {tb tc hb hc:Nat} {F:Nat→Prop}
theorem poolReserve_calls (V:PV)(c:Nat)(hcl:c=1∨c=2)(w0:World)(h:PD w0 b p s V.T V.H tb tc hb hc F V.D)(hT:Tabs w0)(hn:V.T.length≤64)(hs:0≤s.data∧s.data≤1000000) :
  Ret Tryz.prog 193 #[.pointer (some ⟨b,0,none⟩),.int .i64 (c:Int)] w0 fun v w'=>v=.tuple #[.int .i64 (reserveV s V c).2.1,.int .i64 (reserveV s V c).2.2] ∧
   PD w' b p s (reserveV s V c).1.T (reserveV s V c).1.H tb tc hb hc F (reserveV s V c).1.D∧Turn w0 (PdK b tb hb F) w' (PdK b tb hb F):=by
 refine (reserve_calls w0 c h.pool hT hn hs).mono ?_;rintro v w' (⟨h0,_⟩|⟨cn,hcn,_,h1⟩)
 ·rcases hcl with rfl|rfl<;>exact absurd h0 (by decide)
 ·obtain rfl:c=cn:=by omega
  rcases h1 with ⟨hp,rfl,hb'⟩|⟨i,q,hp,hq,rfl,hP,hM⟩
  ·have e:reserveV s V c=(V,0,6):=by unfold reserveV;rw [hp]
   rw [e];exact ⟨rfl,h.next hb',Turn.of hb'⟩
  ·have e:reserveV s V c=({ V with H:=V.H.set i (WM.takeW (V.H.getD i 0#64) c q) },placeI s i c q,0):=by
    unfold reserveV;rw [hp];dsimp only;rw [hq,Int.toNat_natCast]
   rw [e];exact ⟨rfl,⟨hP,h.dev.mod hM (fun k hk e=>h.apart k (.inr (.inr e)) hk),h.apart⟩,⟨hM.mono (fun k hk _=>.inr (.inr (.inr hk))),fun k hk=>.inl hk⟩⟩
end
end
section
open Go Go.RowKit
theorem well_tab {m:Nat}{V:PV}(h:Well m V)(hm:m=6∨m=24):openE V.D m=none∧tabD V.D m=V.T:=by
 have zf:=sz hm;have hp:0<V.D.ls.length:=by rw [h.lines];omega
 have hsz:∀ i,i<m→136+8*i≤V.D.size:=fun i hi=>by unfold NM.Dv.size;rw [h.lines];omega
 refine ⟨openE_none fun i hi=>?_,?_⟩
 ·rw [badD_word hp h.up.down (hsz i hi),h.tab i hi,if_pos];have:=(h.pair i hi).rt;rw [WM.rB_eq] at this;exact this
 ·refine List.ext_getElem (by simp [tabD,h.len]) fun i h1 h2=>?_
  have hi:i<m:=by simpa [tabD] using h1
  simp only [tabD,List.getElem_map,List.getElem_range];rw [wordD_word hp h.up.down (hsz i hi),h.tab i hi];simp [List.getD,h2]
end
section
open Go Go.RowKit
theorem lines_bl {c:Nat}(hc:c=1∨c=2):∃ L:Nat,linesI c=(L:Int)∧0<L∧L≤4∧L*WM.bl c=16:=by
 rcases hc with rfl|rfl
 ·exact ⟨1,rfl,by decide,by decide,by decide⟩
 ·exact ⟨4,rfl,by decide,by decide,by decide⟩
theorem place_nat {c q L:Nat}(s:HM.Shape)(i:Nat)(hL:linesI c=(L:Int)):placeI s i c q=s.data+((1024*i+64*L*q:Nat):Int):=by
 unfold placeI;rw [hL];have e5:64*(L:Int)*(q:Int)=((64*L*q:Nat):Int):=by push_cast;rfl
 rw [e5];omega
theorem place_in {c q L:Nat}(hL0:L*WM.bl c=16)(hq:q<WM.bl c):64*L*q+64*L≤1024:=by
 have h:L*(q+1)≤L*WM.bl c:=Nat.mul_le_mul (Nat.le_refl _) hq;rw [hL0,Nat.mul_add] at h;have e:64*L*q=64*(L*q):=Nat.mul_assoc _ _ _;omega
theorem findP_place {s:HM.Shape}{n i q c:Nat}{B:Nat→BitVec 64}(hi:i<n)(hc:c=1∨c=2)(hB:WM.cR (B i)=c)(hq:q<WM.bl c):findP s n B (placeI s i c q)=some (i,q):=by
 obtain ⟨L,hL,hL0,hL4,hLb⟩:=lines_bl hc;have hin:=place_in hLb hq;rw [place_nat s i hL];obtain ⟨r,hr⟩:∃ r,r=64*L*q:=⟨_,rfl⟩;rw [← hr] at hin ⊢;have h1:r%(64*L)=0:=by rw [hr];exact Nat.mul_mod_right _ _
 have h2:r/(64*L)=q:=by rw [hr];exact Nat.mul_div_cancel_left q (by omega)
 unfold findP;rw [if_neg (by omega),show s.data+((1024*i+r:Nat):Int)-s.data=((1024*i+r:Nat):Int) by omega,Int.toNat_natCast,
  show (1024*i+r)/1024=i by omega,show (1024*i+r)%1024=r by omega,WM.cR_class,hB,hL,Int.toNat_natCast,h1,h2,if_neg (by omega)]
theorem tR_cls {x:BitVec 64}{q:Nat}(hq:q<16)(h:WM.tR x q=true):(WM.cR x=1∨WM.cR x=2)∧q<WM.bl (WM.cR x):=by
 obtain ⟨h1,h2⟩:=WM.tR_lt hq h;refine ⟨?_,h2⟩;unfold WM.bl at h2;by_cases e1:WM.cR x=1
 ·exact .inl e1
 ·by_cases e2:WM.cR x=2
  ·exact .inr e2
  ·rw [if_neg e1,if_neg e2] at h2;omega
def sizeF (s:HM.Shape)(n:Nat)(B:Nat→BitVec 64)(x:Int):Int :=
 match findP s n B x with
 | none=>0
 | some (i,q)=>if WM.tR (B i) q=true then 64*linesI (WM.cR (B i)) else 0
section
variable {s:HM.Shape} {n:Nat} {B B':Nat→BitVec 64} {x:Int}
theorem sizeF_at {i q:Nat}(hi:i<n)(hq:q<16)(ht:WM.tR (B i) q=true):sizeF s n B (placeI s i (WM.cR (B i):Nat) q)=64*linesI (WM.cR (B i)):=by
 obtain ⟨h1,h2⟩:=tR_cls hq ht;unfold sizeF;rw [findP_place hi h1 rfl h2];exact if_pos ht
theorem sizeF_cases (x:Int):sizeF s n B x=0∨∃ i q,findP s n B x=some (i,q)∧i<n∧q<16∧WM.tR (B i) q=true∧x=placeI s i (WM.cR (B i):Nat) q∧sizeF s n B x=64*linesI (WM.cR (B i)):=by
 unfold sizeF;cases hf:findP s n B x with
 | none=>exact .inl rfl
 | some y =>
  obtain ⟨i,q⟩:=y;obtain ⟨hi,hq,hx,-⟩:=findP_some hf;rw [WM.cR_class] at hx;dsimp only;by_cases ht:WM.tR (B i) q=true
  ·rw [if_pos ht];exact .inr ⟨i,q,rfl,hi,hq,ht,hx,rfl⟩
  ·rw [if_neg ht];exact .inl rfl
theorem sizeF_ne {i q:Nat}(hi:i<n)(hq:q<16)(ht:WM.tR (B i) q=true):0<sizeF s n B (placeI s i (WM.cR (B i):Nat) q):=by
 rw [sizeF_at hi hq ht];obtain ⟨L,hL,hL0,-,-⟩:=lines_bl (tR_cls hq ht).1;rw [hL];omega
theorem sizeF_other (h:∀ j,j<n→placeI s j 0 0≤x→x<placeI s j 0 0+1024→B' j=B j):sizeF s n B' x=sizeF s n B x:=by
 have hz:∀ j:Nat,placeI s j 0 0=s.data+1024*(j:Int):=fun j=>by unfold placeI;simp
 have hf:findP s n B' x=findP s n B x:=by
  unfold findP;by_cases h1:x<s.data∨s.data+1024*(n:Int)≤x
  ·rw [if_pos h1,if_pos h1]
  ·rw [if_neg h1,if_neg h1];obtain ⟨d,hd⟩:=Int.eq_ofNat_of_zero_le (by omega:0≤x-s.data);rw [hd,Int.toNat_natCast];rw [h (d/1024) (by omega) (by rw [hz];omega) (by rw [hz];omega)]
 unfold sizeF;rw [hf];cases hf2:findP s n B x with
 | none=>rfl
 | some y =>
  obtain ⟨i,q⟩:=y;have e:B' i=B i:=by
   obtain ⟨hi,hq,hx,hl⟩:=findP_some hf2;have hl2:=linesI_le (WM.classM (B i));refine h i hi ?_ ?_
   ·rw [hz,hx];unfold placeI;have:0≤64*linesI (WM.classM (B i))*(q:Int):=Int.mul_nonneg (by omega) (by omega);omega
   ·unfold findP at hf2;split at hf2
    ·cases hf2
    ·rename_i h1;split at hf2
     ·cases hf2
     ·simp only [Option.some.injEq,Prod.mk.injEq] at hf2;rw [hz];omega
  dsimp only;rw [e]
end
end
section
open Go Go.RowKit
theorem bF_H {m i:Nat}{T H:List (BitVec 64)}(hH:H.length=m)(x:BitVec 64){j:Nat}(hj:j<m):bF T (H.set i x) j=if j=i then T.getD i 0#64 ||| x else bF T H j:=by
 unfold bF;rw [wordsSet hH hj];by_cases e:j=i
 ·subst e;rw [if_pos rfl,if_pos rfl]
 ·rw [if_neg e,if_neg e]
theorem bF_T {m i:Nat}{T H:List (BitVec 64)}(hT:T.length=m)(x:BitVec 64){j:Nat}(hj:j<m):bF (T.set i x) H j=if j=i then x ||| H.getD i 0#64 else bF T H j:=by
 unfold bF;rw [wordsSet hT hj];by_cases e:j=i
 ·subst e;rw [if_pos rfl,if_pos rfl]
 ·rw [if_neg e,if_neg e]
theorem bF_TH {m i:Nat}{T H:List (BitVec 64)}(hT:T.length=m)(hH:H.length=m)(x y:BitVec 64){j:Nat}(hj:j<m):bF (T.set i x) (H.set i y) j=if j=i then x ||| y else bF T H j:=by
 unfold bF;rw [wordsSet hT hj,wordsSet hH hj];by_cases e:j=i
 ·rw [if_pos e,if_pos e,if_pos e]
 ·rw [if_neg e,if_neg e,if_neg e]
theorem place_inj {s:HM.Shape}{i i' q q' c c':Nat}(hc:c=1∨c=2)(hc':c'=1∨c'=2)(hq:q<WM.bl c)(hq':q' < WM.bl c')(h:placeI s i c q=placeI s i' c' q'):i=i'∧(c=c'→q=q'):=by
 obtain ⟨L,hL,hL0,hL4,hLb⟩:=lines_bl hc;obtain ⟨L',hL',hL0',hL4',hLb'⟩:=lines_bl hc';have h1:=place_in hLb hq;have h2:=place_in hLb' hq';rw [place_nat s i hL,place_nat s i' hL'] at h;obtain ⟨r,hr⟩:∃ r,r=64*L*q:=⟨_,rfl⟩;obtain ⟨r',hr'⟩:∃ r,r=64*L' * q':=⟨_,rfl⟩;rw [← hr] at h h1;rw [← hr'] at h h2;refine ⟨by omega,fun e=>?_⟩;subst e;have e2:L=L':=by rw [hL] at hL';omega
 subst e2;have e3:r=r':=by omega
 rw [hr,hr'] at e3;exact Nat.eq_of_mul_eq_mul_left (by omega:0<64*L) e3
def isB (s:HM.Shape)(n:Nat)(B:Nat→BitVec 64)(y k:Int):Prop:=∃ i q:Nat,i<n∧q<16∧WM.tR (B i) q=true∧y=placeI s i (WM.cR (B i):Nat) q∧k=64*linesI (WM.cR (B i))
section
variable {s:HM.Shape} {n:Nat} {B B':Nat→BitVec 64} {x y:Int}
theorem sizeF_isB {k:Int}(h:isB s n B y k):sizeF s n B y=k∧0<k:=by
 obtain ⟨i,q,hi,hq,ht,rfl,rfl⟩:=h;have h1:=sizeF_at (s:=s) hi hq ht;have h2:=sizeF_ne (s:=s) hi hq ht;exact ⟨h1,h1▸h2⟩
theorem isB_sizeF (h:0<sizeF s n B y):isB s n B y (sizeF s n B y):=by
 rcases sizeF_cases (s:=s) (n:=n) (B:=B) y with h0|⟨i,q,-,hi,hq,ht,hy,hk⟩
 ·omega
 ·exact ⟨i,q,hi,hq,ht,hy,hk⟩
theorem sizeF_nn:0≤sizeF s n B y:=by
 rcases sizeF_cases (s:=s) (n:=n) (B:=B) y with h0|⟨i,q,-,hi,hq,ht,hy,hk⟩
 ·omega
 ·have:=linesI_le (WM.cR (B i));omega
theorem sizeF_ext (h:∀ k,isB s n B' y k↔isB s n B y k):sizeF s n B' y=sizeF s n B y:=by
 have n1:=sizeF_nn (s:=s) (n:=n) (B:=B) (y:=y);have n2:=sizeF_nn (s:=s) (n:=n) (B:=B') (y:=y);by_cases h1:0<sizeF s n B' y
 ·exact (sizeF_isB ((h _).1 (isB_sizeF h1))).1.symm
 ·by_cases h2:0<sizeF s n B y
  ·exact (sizeF_isB ((h _).2 (isB_sizeF h2))).1
  ·omega
theorem sizeF_same (h:∀ j,j<n→B' j=B j)(y:Int):sizeF s n B' y=sizeF s n B y:=sizeF_other fun j hj _ _=>h j hj
theorem sizeF_more {i q c:Nat}(hi:i<n)(hc:c=1∨c=2)(hq:q<WM.bl c)(ho:∀ j,j<n→j≠i→B' j=B j)(hk:WM.cR (B i)=0∨WM.cR (B i)=c)(hc':WM.cR (B' i)=c)(hf:WM.tR (B i) q=false)
  (ht:∀ j,j<16→WM.tR (B' i) j=WM.setT (WM.tR (B i)) q true j):sizeF s n B (placeI s i c q)=0∧sizeF s n B' (placeI s i c q)=64*linesI c∧∀ y,y≠placeI s i c q→sizeF s n B' y=sizeF s n B y:=by
 have hq16:q<16:=Nat.lt_of_lt_of_le hq (WM.bl_le c);refine ⟨?_,?_,fun y hy=>sizeF_ext fun k=>⟨?_,?_⟩⟩
 ·rcases sizeF_cases (s:=s) (n:=n) (B:=B) (placeI s i c q) with h0|⟨i',q',-,hi',hq',ht',hy,-⟩
  ·exact h0
  ·obtain ⟨k1,k2⟩:=tR_cls hq' ht';obtain ⟨rfl,e2⟩:=place_inj hc k1 hq k2 hy
   rcases hk with hk|hk
   ·omega
   ·rw [e2 hk.symm] at hf;rw [hf] at ht';cases ht'
 ·have h1:WM.tR (B' i) q=true:=by rw [ht q hq16];simp [WM.setT]
  have:=sizeF_at (s:=s) hi hq16 h1;rw [hc'] at this;exact this
 ·rintro ⟨i',q',hi',hq',ht',rfl,rfl⟩;by_cases e:i'=i
  ·subst e;have h2:q'≠q:=fun e=>hy (by rw [hc',e])
   rw [ht q' hq'] at ht';have h3:WM.tR (B i') q'=true:=by simpa [WM.setT,h2] using ht'
   have h4:WM.cR (B i')=c:=by
    rcases hk with hk|hk
    ·have:=(WM.tR_lt hq' h3).1;omega
    ·exact hk
   exact ⟨i',q',hi',hq',h3,by rw [hc',h4],by rw [hc',h4]⟩
  ·rw [ho i' hi' e] at ht' ⊢;exact ⟨i',q',hi',hq',ht',rfl,rfl⟩
 ·rintro ⟨i',q',hi',hq',ht',rfl,rfl⟩;by_cases e:i'=i
  ·subst e;have h4:WM.cR (B i')=c:=by
    rcases hk with hk|hk
    ·have:=(WM.tR_lt hq' ht').1;omega
    ·exact hk
   have h3:WM.tR (B' i') q'=true:=by rw [ht q' hq'];simp [WM.setT,ht']
   exact ⟨i',q',hi',hq',h3,by rw [hc',h4],by rw [hc',h4]⟩
  ·have h3:WM.tR (B' i') q'=true:=by rw [ho i' hi' e];exact ht'
   exact ⟨i',q',hi',hq',h3,by rw [ho i' hi' e],by rw [ho i' hi' e]⟩
theorem sizeF_less {i q:Nat}(hi:i<n)(hq:q<16)(ho:∀ j,j<n→j≠i→B' j=B j)(ht:WM.tR (B i) q=true)(hk:WM.cR (B' i)=0∨WM.cR (B' i)=WM.cR (B i))
  (ht':∀ j,j<16→WM.tR (B' i) j=WM.setT (WM.tR (B i)) q false j):sizeF s n B' (placeI s i (WM.cR (B i):Nat) q)=0∧∀ y,y≠placeI s i (WM.cR (B i):Nat) q→sizeF s n B' y=sizeF s n B y:=by
 obtain ⟨k1,k2⟩:=tR_cls hq ht;have hoff:∀ q',q' < 16→WM.tR (B' i) q'=true→q'≠q∧WM.tR (B i) q'=true∧WM.cR (B' i)=WM.cR (B i):=fun q' hq' h=>by
  have h0:=(WM.tR_lt hq' h).1;rw [ht' q' hq'] at h;by_cases e:q'=q
  ·rw [e] at h;simp [WM.setT] at h
  ·refine ⟨e,by simpa [WM.setT,e] using h,by omega⟩
 refine ⟨?_,fun y hy=>sizeF_ext fun k=>⟨?_,?_⟩⟩
 ·rcases sizeF_cases (s:=s) (n:=n) (B:=B') (placeI s i (WM.cR (B i):Nat) q) with h0|⟨i',q',-,hi',hq',h3,hy,-⟩
  ·exact h0
  ·obtain ⟨k3,k4⟩:=tR_cls hq' h3;obtain ⟨rfl,e2⟩:=place_inj k1 k3 k2 k4 hy;obtain ⟨h5,h6,h7⟩:=hoff q' hq' h3;exact absurd (e2 h7.symm).symm h5
 ·rintro ⟨i',q',hi',hq',h3,rfl,rfl⟩;by_cases e:i'=i
  ·subst e;obtain ⟨h5,h6,h7⟩:=hoff q' hq' h3;exact ⟨i',q',hi',hq',h6,by rw [h7],by rw [h7]⟩
  ·rw [ho i' hi' e] at h3 ⊢;exact ⟨i',q',hi',hq',h3,rfl,rfl⟩
 ·rintro ⟨i',q',hi',hq',h3,rfl,rfl⟩;by_cases e:i'=i
  ·subst e;have h5:q'≠q:=fun e=>hy (by rw [e])
   have h6:WM.tR (B' i') q'=true:=by rw [ht' q' hq'];simp [WM.setT,h5,h3]
   obtain ⟨-,-,h7⟩:=hoff q' hq' h6;exact ⟨i',q',hi',hq',h6,by rw [h7],by rw [h7]⟩
  ·have h4:WM.tR (B' i') q'=true:=by rw [ho i' hi' e];exact h3
   exact ⟨i',q',hi',hq',h4,by rw [ho i' hi' e],by rw [ho i' hi' e]⟩
end
section
variable {m:Nat} {V:PV} {s:HM.Shape}
theorem resV (h:Well m V){c:Nat}(hc:c=1∨c=2):reserveV s V c=(V,0,6)∨∃ i q:Nat,i<m∧q<WM.bl c∧WM.takeOk (bF V.T V.H i) c q=true ∧
  reserveV s V c=(⟨V.T,V.H.set i (WM.takeW (V.H.getD i 0#64) c q),V.D⟩,placeI s i c q,0):=by
 unfold reserveV;split
 ·exact .inl rfl
 ·rename_i i hp;obtain ⟨hi,hge⟩:=pickP_of hp;rw [h.len] at hi;obtain ⟨q,hq,hqb,hok,_,_⟩:=takeOk_next (x:=bF V.T V.H i) (h.pair i hi).both.1 hc hge;rw [hq,Int.toNat_natCast];exact .inr ⟨i,q,hi,hqb,hok,rfl⟩
theorem resV_size (h:Well m V){c i q:Nat}(hc:c=1∨c=2)(hi:i<m)(hq:q<WM.bl c)(hok:WM.takeOk (bF V.T V.H i) c q=true) :
  Well m ⟨V.T,V.H.set i (WM.takeW (V.H.getD i 0#64) c q),V.D⟩∧WM.tR (WM.takeW (V.H.getD i 0#64) c q) q=true∧WM.cR (bF V.T (V.H.set i (WM.takeW (V.H.getD i 0#64) c q)) i)=c ∧
  sizeF s m (bF V.T V.H) (placeI s i c q)=0∧sizeF s m (bF V.T (V.H.set i (WM.takeW (V.H.getD i 0#64) c q))) (placeI s i c q)=64*linesI c ∧
  ∀ y,y≠placeI s i c q→sizeF s m (bF V.T (V.H.set i (WM.takeW (V.H.getD i 0#64) c q))) y=sizeF s m (bF V.T V.H) y:=by
 have hpr:=h.pair i hi;have hq16:q<16:=Nat.lt_of_lt_of_le hq (WM.bl_le c);obtain ⟨r1,r2,r3⟩:=hpr.reserve (q:=q) hok;have hB':bF V.T (V.H.set i (WM.takeW (V.H.getD i 0#64) c q)) i=WM.takeW (bF V.T V.H i) c q:=by
  rw [bF_H h.lenH _ hi,if_pos rfl];exact r3
 obtain ⟨cn,qn,e1,e2,-,-,h5,h6,h7,h8⟩:=WM.take_state hok;obtain ⟨-,q2,e3,e4,-,-,g5,g6,g7,g8⟩:=WM.take_state r1;obtain rfl:cn=c:=by omega
 obtain rfl:qn=q:=by omega
 obtain rfl:q2=qn:=by omega
 have hcR:=(WM.cR_norm h7).1;refine ⟨well_held h r2,?_,by rw [hB',hcR],?_⟩
 ·rw [g8 _ hq16];simp [WM.setT]
 ·refine sizeF_more hi hc hq (fun j hj hne=>?_) (by omega) (by rw [hB',hcR]) h5 (fun j hj=>by rw [hB',h8 j hj]);rw [bF_H h.lenH _ hj,if_neg hne]
theorem takV (h:Well m V)(hm:m=6∨m=24)(off:Int):takeV s V off=(V,7)∨∃ i q:Nat,findP s m (bF V.T V.H) off=some (i,q)∧i<m∧q<16∧WM.tR (V.H.getD i 0#64) q=true∧off=placeI s i (WM.cR (bF V.T V.H i):Nat) q ∧
  ∃ D',takeV s V off=(⟨V.T.set i (WM.takeW (V.T.getD i 0#64) (WM.cR (V.H.getD i 0#64):Nat) q),V.H.set i (WM.dropW (V.H.getD i 0#64) q),D'⟩,0)∧D'=(runS V.D (putS ((128+8*i:Nat):Int) (WM.takeW (V.T.getD i 0#64) (WM.cR (V.H.getD i 0#64):Nat) q))).1:=by
 have zf:=sz hm;unfold takeV;rw [h.len];cases hf:findP s m (bF V.T V.H) off with
 | none=>exact .inl rfl
 | some y =>
  obtain ⟨i,q⟩:=y;obtain ⟨hi,hq,hx,-⟩:=findP_some hf;rw [WM.cR_class] at hx;dsimp only;by_cases hh:WM.hasM (V.H.getD i 0#64) q=true
  ·rw [if_pos hh,WM.cR_class];have ht:WM.tR (V.H.getD i 0#64) q=true:=by rw [← WM.has_ref _ _ hq];exact hh
   have hs:V.D.size=64*(nL m):=by unfold NM.Dv.size;rw [h.lines]
   obtain ⟨u1,-⟩:=put_up h.ok h.up (by rw [h.lines];omega) (o:=128+8*i) (by omega) (by omega) (WM.takeW (V.T.getD i 0#64) (WM.cR (V.H.getD i 0#64):Nat) q);have e1:(putV V i (WM.takeW (V.T.getD i 0#64) (WM.cR (V.H.getD i 0#64):Nat) q)).2=0:=u1;rw [if_pos e1];refine .inr ⟨i,q,rfl,hi,hq,ht,hx,_,?_,rfl⟩;refine Prod.ext ?_ rfl;exact congrArg (fun x=>PV.mk x _ _) (if_pos u1)
  ·rw [if_neg hh];exact .inl rfl
theorem drpV (h:Well m V)(hm:m=6∨m=24)(off:Int):(dropV s V off=(V,7)∧sizeF s m (bF V.T V.H) off=0)∨∃ i q:Nat,findP s m (bF V.T V.H) off=some (i,q)∧i<m∧q<16∧off=placeI s i (WM.cR (bF V.T V.H i):Nat) q ∧
  ((WM.tR (V.H.getD i 0#64) q=true∧dropV s V off=(⟨V.T,V.H.set i (WM.dropW (V.H.getD i 0#64) q),V.D⟩,0)) ∨
   (WM.tR (V.H.getD i 0#64) q=false∧WM.tR (V.T.getD i 0#64) q=true∧dropV s V off=(⟨V.T.set i (WM.dropW (V.T.getD i 0#64) q),V.H,(runS V.D (putS ((128+8*i:Nat):Int) (WM.dropW (V.T.getD i 0#64) q))).1⟩,0))):=by
 have zf:=sz hm;unfold dropV sizeF;rw [h.len];cases hf:findP s m (bF V.T V.H) off with
 | none=>exact .inl ⟨rfl,rfl⟩
 | some y =>
  obtain ⟨i,q⟩:=y;obtain ⟨hi,hq,hx,-⟩:=findP_some hf;rw [WM.cR_class] at hx;dsimp only;have hb:=(h.pair i hi).both.2.2 q hq;rw [WM.has_ref _ _ hq,WM.has_ref _ _ hq];cases hH:WM.tR (V.H.getD i 0#64) q with
  | true=>rw [if_pos rfl];exact .inr ⟨i,q,rfl,hi,hq,hx,.inl ⟨hH,rfl⟩⟩
  | false =>
   rw [if_neg (by decide)];cases hT:WM.tR (V.T.getD i 0#64) q with
   | true =>
    rw [if_pos rfl];refine .inr ⟨i,q,rfl,hi,hq,hx,.inr ⟨hH,hT,?_⟩⟩;have hs:V.D.size=64*(nL m):=by unfold NM.Dv.size;rw [h.lines]
    obtain ⟨u1,-⟩:=put_up h.ok h.up (by rw [h.lines];omega) (o:=128+8*i) (by omega) (by omega) (WM.dropW (V.T.getD i 0#64) q);refine Prod.ext ?_ u1;exact congrArg (fun x=>PV.mk x _ _) (if_pos u1)
   | false =>
    rw [if_neg (by decide)];have e:WM.tR (bF V.T V.H i) q=false:=by
     have:WM.tR (bF V.T V.H i) q=(WM.tR (V.T.getD i 0#64) q || WM.tR (V.H.getD i 0#64) q):=hb;rw [this,hH,hT];rfl
    exact .inl ⟨rfl,by rw [e];rfl⟩
theorem takV_size (h:Well m V){i q:Nat}(hi:i<m)(hq:q<16)(ht:WM.tR (V.H.getD i 0#64) q=true)(y:Int) :
  sizeF s m (bF (V.T.set i (WM.takeW (V.T.getD i 0#64) (WM.cR (V.H.getD i 0#64):Nat) q)) (V.H.set i (WM.dropW (V.H.getD i 0#64) q))) y=sizeF s m (bF V.T V.H) y:=by
 obtain ⟨k1,k2,k3⟩:=(h.pair i hi).keep hq ht;refine sizeF_same (fun j hj=>?_) y;rw [bF_TH h.len h.lenH _ _ hj];by_cases e:j=i
 ·subst e;rw [if_pos rfl];exact k3
 ·rw [if_neg e]
theorem drpV_size (h:Well m V)(hm:m=6∨m=24)(off:Int):(dropV s V off=(V,7)∧sizeF s m (bF V.T V.H) off=0) ∨
  ((dropV s V off).2=0∧0<sizeF s m (bF V.T V.H) off∧sizeF s m (bF (dropV s V off).1.T (dropV s V off).1.H) off=0∧∀ y,y≠off→sizeF s m (bF (dropV s V off).1.T (dropV s V off).1.H) y=sizeF s m (bF V.T V.H) y):=by
 have zf:=sz hm
 rcases drpV (s:=s) h hm off with h0|⟨i,q,hf,hi,hq,hx,⟨hH,he⟩|⟨hH,hT,he⟩⟩
 ·exact .inl h0
 ·right;have hb:=(h.pair i hi).both.2.2 q hq;have ht:WM.tR (bF V.T V.H i) q=true:=by
   have:WM.tR (bF V.T V.H i) q=(WM.tR (V.T.getD i 0#64) q || WM.tR (V.H.getD i 0#64) q):=hb;rw [this,hH,Bool.or_true]
  obtain ⟨-,d2⟩:=(h.pair i hi).dropH hq hH;have hB':bF V.T (V.H.set i (WM.dropW (V.H.getD i 0#64) q)) i=WM.dropW (bF V.T V.H i) q:=by rw [bF_H h.lenH _ hi,if_pos rfl];exact d2
  obtain ⟨-,f2,f3⟩:=WM.drop_full hq ht;have hl:=sizeF_less (s:=s) (B':=bF V.T (V.H.set i (WM.dropW (V.H.getD i 0#64) q))) hi hq (fun j hj hne=>by rw [bF_H h.lenH _ hj,if_neg hne]) ht (by rw [hB'];exact f2) (fun j hj=>by rw [hB'];exact f3 j hj);rw [he];refine ⟨rfl,?_,?_⟩
  ·rw [hx];exact sizeF_ne hi hq ht
  ·rw [hx];exact hl
 ·right;have hb:=(h.pair i hi).both.2.2 q hq;have ht:WM.tR (bF V.T V.H i) q=true:=by
   have:WM.tR (bF V.T V.H i) q=(WM.tR (V.T.getD i 0#64) q || WM.tR (V.H.getD i 0#64) q):=hb;rw [this,hT,Bool.true_or]
  obtain ⟨-,d2⟩:=(h.pair i hi).dropT hq hT;have hB':bF (V.T.set i (WM.dropW (V.T.getD i 0#64) q)) V.H i=WM.dropW (bF V.T V.H i) q:=by rw [bF_T h.len _ hi,if_pos rfl];exact d2
  obtain ⟨-,f2,f3⟩:=WM.drop_full hq ht;have hl:=sizeF_less (s:=s) (B':=bF (V.T.set i (WM.dropW (V.T.getD i 0#64) q)) V.H) hi hq (fun j hj hne=>by rw [bF_T h.len _ hj,if_neg hne]) ht (by rw [hB'];exact f2) (fun j hj=>by rw [hB'];exact f3 j hj);rw [he];refine ⟨rfl,?_,?_⟩
  ·rw [hx];exact sizeF_ne hi hq ht
  ·rw [hx];exact hl
end
end
section
open Go Go.RowKit
def zL (m:Nat):List (BitVec 64):=List.replicate m 0#64
theorem beg_small {m:Nat}(hm:m=6∨m=24):(begD m).steps≤100000:=by
 have zf:=sz hm;have:=NM.format_steps (D:=NM.dev0 (nL m)) (by rw [dev0_len'];omega);have hs0:(NM.dev0 (nL m)).steps=0:=rfl;unfold begD;omega
theorem zL_get (m i:Nat):(zL m).getD i 0#64=0#64:=by
 unfold zL;simp only [List.getD,List.getElem?_replicate];split<;>rfl
theorem mem_all {s:HM.Shape}{T:List (BitVec 64)}{x:Nat}:∀ {n:Nat},x∈allK s T n→∃ i q,i<n∧q<16∧WM.tR (T.getD i 0#64) q=true∧x=placeN s i (WM.classM (T.getD i 0#64)) q
 | 0,h=>by cases h
 | n+1,h=>by
  rcases List.mem_append.1 (show x∈allK s T n++rowK s n (T.getD n 0#64) from h) with h|h
  ·obtain ⟨i,q,h1,h2⟩:=mem_all h;exact ⟨i,q,by omega,h2⟩
  ·unfold rowK at h;obtain ⟨q,hq,rfl⟩:=List.mem_map.1 h;rw [WM.list_ref,List.mem_filter,List.mem_range] at hq;exact ⟨n,q,by omega,hq.1,hq.2,rfl⟩
theorem putV_steps (V:PV)(i:Nat)(x:BitVec 64):(putV V i x).1.D.steps≤V.D.steps+3:=runS_steps V.D (putS ((128+8*i:Nat):Int) x)
theorem takeV_steps (s:HM.Shape)(V:PV)(off:Int):(takeV s V off).1.D.steps≤V.D.steps+3:=by
 unfold takeV;split
 ·exact Nat.le_add_right _ _
 ·split
  ·split
   ·exact putV_steps V _ _
   ·exact putV_steps V _ _
  ·exact Nat.le_add_right _ _
theorem dropV_steps (s:HM.Shape)(V:PV)(off:Int):(dropV s V off).1.D.steps≤V.D.steps+3:=by
 unfold dropV;split
 ·exact Nat.le_add_right _ _
 ·split
  ·exact Nat.le_add_right _ _
  ·split
   ·exact putV_steps V _ _
   ·exact Nat.le_add_right _ _
end
end Go.Proofs.YtaaihijkdhmcdaaGreatDoor
