/- WholeImage, part 31 of 38: contracts and lemmas of its proof. Conditions: none. -/
import Derived.Test.YtaaihijkdhmcdaaGreatDoorW29
import Derived.StringKeys
set_option linter.unusedVariables false
set_option linter.unusedSimpArgs false
set_option maxRecDepth 100000
namespace Go.Proofs.YtaaihijkdhmcdaaGreatDoor
section
open Go Go.RowKit
section
variable {w w':World} {a:Option Addr} {cap:Nat} {l:List WrV} {F:Nat→Prop}
theorem run_appendR {t e:TypeId}{size bytes base len cap m c2:Nat}{a a2:Option Addr}{xs news:List Value}(ht:Tryz.prog.underlying t=some (.slice e))(hI:EInfo Tryz.prog e size bytes)(hsz:0<size)(hby:bytes≤1000)(hown:w.ownsRow base e size (.slice a len cap) len xs)(hl:news.length=m*size)(hsrc:SrcAt w a2 news)(hc2:a2=none→c2=0)
  (h1:∀ u∈news,u.oneCell'=true) (hlen:len+m≤100000) (hbase:base≤w.heap.size) :
  ∃ a' cap' w',(appendB #[t,t] t #[.slice a len cap,.slice a2 m c2]).run Tryz.prog w=.ok (.slice a' (len+m) cap') w'∧w'.ownsRow base e size (.slice a' (len+m) cap') (len+m) (xs++news)∧w.grownBy w' (Value.ownBlock (.slice a len cap)):=by
 unfold appendB;obtain ⟨i,z,hi,hz,hs,hb,hzs⟩:=hI.get;have hbb:(len+m)*bytes≤140737488355328:=by
  have:=Nat.mul_le_mul (show len+m≤100000 from hlen) hby;omega
 rcases hsrc with ⟨rfl,rfl⟩|⟨x,rfl,hx⟩
 ·have hm:m=0:=by
   have h2:m*size=0:=by rw [← hl];rfl
   rcases Nat.mul_eq_zero.1 h2 with h|h
   ·exact h
   ·omega
  subst hm;rw [hc2 rfl];refine ⟨a,cap,w,?_,by simpa using hown,⟨rfl,rfl,rfl,Nat.le_refl _,fun _ _ _=>rfl⟩⟩;exact run_append_owned_none w base t t e i size ht hi _ _ _ hown
 ·obtain ⟨v',w',hr,ho,hg,_⟩:=run_append_own (P:=Tryz.prog) w base t t e i z size bytes ht hi hz hs hb hzs hsz _ _ _ hown x m c2 news hl hx h1 (by unfold maxLen;omega) hbb hbase
  rcases ho.2 with ⟨rfl,h0⟩|⟨g,cap',cur,rfl,h⟩
  ·refine ⟨none,0,w',?_,?_,hg⟩
   ·rw [h0];exact hr
   ·rw [h0] at ho ⊢;exact ho
  ·exact ⟨_,cap',w',hr,ho,hg⟩
theorem RIn.srcTake {sz:Nat}{L:List (Array Value)}(h:RIn w sz a L cap)(hs:0<sz)(k:Nat):SrcAt w a (flatR (L.take k))∨L.take k=[]:=by
 by_cases hk:L.take k=[]
 ·exact .inr hk
 ·left;have hne:L≠[]:=fun e=>hk (by rw [e];simp)
  rcases h.at_ with h1|⟨b,o,ha,hc⟩
  ·exact absurd h1 hne
  ·refine .inr ⟨_,ha,fun j u hu=>?_⟩;have hsz:∀ x∈L.take k,x.size=sz:=fun x hx=>h.size x (List.mem_of_mem_take hx)
   have hj:j<(L.take k).length*sz:=by
    have h2:=(List.getElem?_eq_some_iff.1 hu).1;rw [flatR_len hsz] at h2;exact h2
   have hd:j/sz<(L.take k).length:=(Nat.div_lt_iff_lt_mul hs).2 hj;have hm:=Nat.mod_lt j hs;have h2:=flatR_get (L.take k) hsz (j/sz) hd (j%sz) hm;rw [Nat.div_add_mod',hu] at h2;have hdL:j/sz<L.length:=by rw [List.length_take] at hd;omega
   rw [List.getElem_take] at h2;have h3:=hc (j/sz) hdL (j%sz) (by rw [h.size _ (List.getElem_mem hdL)];exact hm);rw [Addr.add_lit];have e:o+j/sz*sz+j%sz=o+j:=by rw [Nat.add_assoc,Nat.div_add_mod']
   rw [e] at h3;rw [h3];rw [Array.getElem?_eq_getElem (by rw [h.size _ (List.getElem_mem hdL)];exact hm)] at h2;exact h2.symm
theorem flatR_one_cell {L:List WrV}:∀ u∈flatR (L.map WrV.cs),u.oneCell'=true:=fun u hu=>by
 unfold flatR at hu;obtain ⟨c,hc,hu⟩:=List.mem_flatMap.1 hu;obtain ⟨e,_,rfl⟩:=List.mem_map.1 hc;exact e.cs_one u hu
theorem RIn.drop3 {sz:Nat}{b o:Nat}{L:List (Array Value)}(h:RIn w sz (some ⟨b,o,none⟩) L cap){i:Nat}(hi:i≤L.length):RIn w sz (if cap=i then some ⟨b,o,none⟩ else some ⟨b,o+i*sz,none⟩) (L.drop i) (cap-i):=by
 have hle:=h.le;have hmx:=h.max;refine ⟨fun x hx=>h.size x (List.mem_of_mem_drop hx),?_,by rw [List.length_drop];omega,by omega,fun h=>by split at h<;>cases h⟩;by_cases e:cap=i
 ·left;exact List.drop_eq_nil_of_le (by omega)
 ·rw [if_neg e]
  rcases h.at_ with h1|⟨b',o',hb,hc⟩
  ·left;rw [h1];simp
  ·right;simp only [Option.some.injEq,Addr.mk.injEq,and_true] at hb;obtain ⟨rfl,rfl⟩:=hb;refine ⟨b,o+i*sz,rfl,fun j hj k hk=>?_⟩;rw [List.length_drop] at hj;have:=hc (i+j) (by omega) k (by simpa [List.getElem_drop] using hk);rw [show o+i*sz+j*sz+k=o+(i+j)*sz+k by rw [Nat.add_mul];omega,this];simp [List.getElem_drop]
theorem owns_set {base sz n:Nat}{e:TypeId}{L:List (Array Value)}(h:w.ownsRow base e sz (.slice a n cap) n (flatR L))(hsz:∀ x∈L,x.size=sz)(hn:L.length=n){i:Nat}(hi:i<L.length){cs:Array Value}(hc:cs.size=sz) :
  ∃ g cur,a=some ⟨g,0,none⟩∧base≤g∧Blk w g cur e∧i*sz+sz≤cur.size∧(w.setRow g (segPut cur (i*sz) cs)).ownsRow base e sz (.slice a n cap) n (flatR (L.set i cs)):=by
 obtain ⟨hl,⟨hv,h0⟩|⟨g,cap2,cur,hv,hg,hblk,hcap,hm,hcs,htake⟩⟩:=h
 ·omega
 ·simp only [Value.slice.injEq] at hv;obtain ⟨rfl,_,rfl⟩:=hv;have hblk:Blk w g cur e:=hblk;have hin:i*sz+sz≤cur.size:=by
   have h1:(i+1)*sz≤cap*sz:=Nat.mul_le_mul (by omega) (Nat.le_refl _);rw [Nat.add_mul] at h1;omega
  refine ⟨g,cur,rfl,hg,hblk,hin,?_,.inr ⟨g,cap,_,rfl,hg,hblk.row _,hcap,hm,by rw [segPut_size _ _ _ (by rw [hc];exact hin)];exact hcs,?_⟩⟩
  ·have hs2:∀ x∈L.set i cs,x.size=sz:=fun x hx=>by
    rcases List.mem_or_eq_of_mem_set hx with hx|rfl
    ·exact hsz x hx
    ·exact hc
   rw [flatR_len hs2,List.length_set,hn]
  ·have hs2:∀ x∈L.set i cs,x.size=sz:=fun x hx=>by
    rcases List.mem_or_eq_of_mem_set hx with hx|rfl
    ·exact hsz x hx
    ·exact hc
   refine List.ext_getElem? fun j=>?_
   have hlen:(flatR (L.set i cs)).length=n*sz:=by rw [flatR_len hs2,List.length_set,hn]
   by_cases hj:j<n*sz
   ·have hpos:0<sz:=Nat.pos_of_ne_zero fun e=>by rw [e] at hj;simp at hj
    rw [List.getElem?_take,if_pos hj,Array.getElem?_toList,segPut_get _ _ _ (by rw [hc];exact hin)];have hd:j/sz<n:=(Nat.div_lt_iff_lt_mul hpos).2 hj;have hmd:=Nat.mod_lt j hpos;have h2:=flatR_get (L.set i cs) hs2 (j/sz) (by rw [List.length_set,hn];exact hd) (j%sz) hmd;rw [Nat.div_add_mod'] at h2;rw [h2];have hdm:=Nat.div_add_mod' j sz;by_cases hji:j/sz=i
    ·have e1:i*sz≤j∧j<i*sz+cs.size:=by rw [hc,← hji];omega
     rw [if_pos e1];have e2:(L.set i cs)[j/sz]'(by rw [List.length_set,hn];exact hd)=cs:=by simp [hji]
     rw [e2]
     congr 1
     rw [← hji];omega
    ·have e1:¬ (i*sz≤j∧j<i*sz+cs.size):=fun ⟨h3,h4⟩=>hji (by
      rw [hc] at h4;refine (Nat.div_eq_iff hpos).2 ⟨h3,?_⟩
      omega)
     rw [if_neg e1];have e2:(L.set i cs)[j/sz]'(by rw [List.length_set,hn];exact hd)=L[j/sz]'(by omega):=by rw [List.getElem_set_ne (fun e=>hji e.symm)]
     rw [e2];have h3:=flatR_get L hsz (j/sz) (by omega) (j%sz) hmd;rw [Nat.div_add_mod',← htake,List.getElem?_take,if_pos hj,Array.getElem?_toList] at h3;exact h3
   ·rw [List.getElem?_eq_none (by rw [List.length_take];omega),List.getElem?_eq_none (by rw [hlen];omega)]
theorem owns_form {base sz n:Nat}{e:TypeId}{xs:List Value}(h:w.ownsRow base e sz (.slice a n cap) n xs):∀ y,a=some y→∃ b,y=⟨b,0,none⟩:=by
 intro y hy;obtain ⟨_,⟨hv,h0⟩|⟨g,cap2,cur,hv,_⟩⟩:=h
 ·simp only [Value.slice.injEq] at hv;rw [hv.1] at hy;cases hy
 ·simp only [Value.slice.injEq] at hv;rw [hv.1] at hy;exact ⟨g,(Option.some.inj hy).symm⟩
theorem RIn.srcT {sz:Nat}{L:List (Array Value)}(h:RIn w sz a L cap)(hs:0<sz)(k:Nat):SrcAt w a (flatR (L.take k)):=by
 rcases h.srcTake hs k with h1|h1
 ·exact h1
 ·rw [h1,flatR_nil]
  rcases Option.eq_none_or_eq_some a with e|⟨y,e⟩
  ·exact .inl ⟨e,rfl⟩
  ·exact .inr ⟨y,e,fun j u hu=>by simp at hu⟩
def PutWP (l:List WrV)(x:WrV)(w0:World)(v:Value)(w':World):Prop :=
 ∃ (l':List WrV) (a':Option Addr) (c':Nat) (e:Int),v=.tuple #[.slice a' l'.length c',.int .i64 e]∧RIn w' 3 a' (l'.map WrV.cs) c'∧(∀ y,a'=some y→w0.heap.size≤y.block∧y.block<w'.heap.size)∧SetOk l'∧(e=0→x.right∧l'≠[])∧(e≠0→l'=l)∧(l=[]→x.right→l'=[x]∧e=0)∧(∀ y,a'=some y→∃ b,y=⟨b,0,none⟩)∧Below w0.heap.size w0 w'
theorem setOk_set {i:Nat}{x:WrV}(h:SetOk l)(hi:i<l.length)(hx:x.right)(hk:ksame l[i].key x.key=true):SetOk (l.set i x):=by
 have hkk:∀ j (hj:j<l.length),((l.set i x)[j]'(by rw [List.length_set];exact hj)).key.toList=l[j].key.toList:=fun j hj=>by
  by_cases e:j=i
  ·subst e;rw [List.getElem_set_self];unfold ksame at hk;exact (by simpa using hk:l[j].key.toList=x.key.toList).symm
  ·rw [List.getElem_set_ne (fun h=>e h.symm)]
 refine ⟨by rw [List.length_set];exact h.len,fun y hy=>?_,fun j hj=>?_⟩
 ·rcases List.mem_or_eq_of_mem_set hy with hy|rfl
  ·exact h.right y hy
  ·exact hx
 ·rw [List.length_set] at hj;have h1:=h.rise j hj;unfold kless at h1 ⊢;rw [hkk j (by omega),hkk (j+1) hj];exact h1
theorem setOk_ins {i:Nat}{x:WrV}(h:SetOk l)(hi:i≤l.length)(hl:l.length<16)(hx:x.right)(h1:∀ h:0<i∧i-1<l.length,kless l[i-1].key x.key=true)(h2:∀ h:i<l.length,kless x.key l[i].key=true):SetOk (l.take i++(x::l.drop i)):=by
 have hlen:(l.take i++(x::l.drop i)).length=l.length+1:=by simp;omega
 have hg:∀ j (hj:j<l.length+1),(l.take i++(x::l.drop i))[j]'(by rw [hlen];exact hj)=if h:j<i then l[j]'(by omega) else if h2:j=i then x else l[j-1]'(by omega):=fun j hj=>by
  by_cases h3:j<i
  ·rw [dif_pos h3,List.getElem_append_left (by rw [List.length_take];omega),List.getElem_take]
  ·rw [dif_neg h3,List.getElem_append_right (by rw [List.length_take];omega)];have e:(l.take i).length=i:=by rw [List.length_take];omega
   by_cases h4:j=i
   ·rw [dif_pos h4];simp [e,h4]
   ·rw [dif_neg h4];obtain ⟨k,rfl⟩:∃ k,j=i+1+k:=⟨j-i-1,by omega⟩;have e2:i+1+k-(l.take i).length=k+1:=by omega
    simp only [e2,List.getElem_cons_succ,List.getElem_drop]
    congr 1
    omega
 refine ⟨by rw [hlen];omega,fun y hy=>?_,fun j hj=>?_⟩
 ·rcases List.mem_append.1 hy with hy|hy
  ·exact h.right y (List.mem_of_mem_take hy)
  ·rcases List.mem_cons.1 hy with rfl|hy
   ·exact hx
   ·exact h.right y (List.mem_of_mem_drop hy)
 ·rw [hlen] at hj;rw [hg j (by omega),hg (j+1) hj];by_cases c1:j+1<i
  ·rw [dif_pos (show j<i by omega),dif_pos c1];exact h.rise j (by omega)
  ·by_cases c2:j+1=i
   ·rw [dif_pos (show j<i by omega),dif_neg c1,dif_pos c2];subst c2;exact h1 ⟨by omega,by omega⟩
   ·by_cases c3:j=i
    ·rw [dif_neg (by omega),dif_pos c3,dif_neg c1,dif_neg c2];subst c3;exact h2 (by omega)
    ·rw [dif_neg (by omega),dif_neg c3,dif_neg c1,dif_neg c2];have:=h.rise (j-1) (by omega);simpa [show j-1+1=j by omega] using this
set_option maxHeartbeats 4000000
theorem wput_calls (x:WrV)(w0:World)(hin:RIn w0 3 a (l.map WrV.cs) cap)(hs:SetOk l)(hfm:∀ y,a=some y→∃ b,y=⟨b,0,none⟩) :
  Ret Tryz.prog 114 #[.slice a l.length cap,.agg x.cs] w0 fun v w'=>PutWP l x w0 v w':=by
 have bel0:=Below.refl w0.heap.size w0;have hl16:=hs.len;have hB:=Blk.new w0 x.cs 104;have ldX:=ldAll (P:=Tryz.prog) hB Tryz.underlying104 rfl wrI (n:=3) x.cs_size;have hk0:x.cs[0]?=some (.string x.key):=rfl;refine ret_of (args:=[_,_]) _ Tryz.func114 rfl Tryz.ntmps114 (by simp) ?_;simp -implicitDefEqProofs [go_sem,↓ldX];generalize hw1:World.alloc w0 _=w1 at *;obtain ⟨hB1,b1,sz1,bel1⟩:=newF hw1 bel0;replace hin:=hin.next b1
 refine callE_of (wright_calls x w1) ?_;rintro v w2 ⟨r,rfl,hr,b2⟩;have bel2:=btr bel1 b2;replace hin:=hin.next b2
 replace hB1:=hB1.next b2
 by_cases hx:x.right
 ·have hr1:r=true:=hr.2 hx;subst hr1;simp -implicitDefEqProofs [go_sem,hB1.cell,hk0];refine callE_of (wfind_calls x.key w2 hin (by omega)) ?_;rintro v w3 ⟨i,has,rfl,hi,hlo,hhi,hhas,b3⟩;have bel3:=btr bel2 b3;replace hin:=hin.next b3
  replace hB1:=hB1.next b3
  cases has with
  | true =>
   obtain ⟨hil,hz⟩:=hhas.1 rfl;simp -implicitDefEqProofs [go_sem];refine callE_of (cloneS_calls w3 hin (by omega)) ?_;rintro v w4 ⟨a4,c4,rfl,hrow4,b4⟩;have bel4:=btr bel3 b4;replace hin:=hin.next b4
   replace hB1:=hB1.next b4
   obtain ⟨g,cur,rfl,hg,hBg,hgs,hrow5⟩:=owns_set hrow4 (wr_size l) (by simp) (i:=i) (by simpa using hil) (cs:=x.cs) rfl;have ld4:=ldAll (P:=Tryz.prog) hB1 Tryz.underlying104 rfl wrI (n:=3) x.cs_size;have st4:=stE (P:=Tryz.prog) (ty:=104) (o:=i*3) (cs:=x.cs) hBg wrI hgs x.cs_one;have hil':(i:Int)<(l.length:Int):=by omega
   simp -implicitDefEqProofs [go_sem,hil,hil',↓ld4,↓st4];refine body_tmp2 4 5 rfl ?_;simp -implicitDefEqProofs [go_sem];have e1:(l.map WrV.cs).set i x.cs=(l.set i x).map WrV.cs:=(List.map_set).symm;rw [e1] at hrow5;have belR:=below_setRow bel4 (show w0.heap.size≤g by have:=bel3.size;omega) (segPut cur (i*3) x.cs)
   refine ⟨l.set i x,some ⟨g,0,none⟩,c4,0,by rw [List.length_set],owns_rin (wr_size _) (by simp) hrow5,fun y hy=>by have:=ownsRow_blk hrow5 _ ⟨y,hy,rfl⟩;have:=bel3.size;omega,setOk_set hs hil hx (cmpV_zero hz),fun _=>⟨hx,fun h=>by have h2:=congrArg List.length h;rw [List.length_set,List.length_nil] at h2;omega⟩,fun h=>absurd rfl h,fun h=>by subst h;simp at hil,owns_form hrow5,belR⟩
  | false =>
   by_cases hfull:16≤l.length
   ·have hfull':(16:Int)≤(l.length:Int):=by omega
    simp -implicitDefEqProofs [go_sem,hfull,hfull'];refine callE_of (cloneS_calls w3 hin (by omega)) ?_;rintro v w4 ⟨a4,c4,rfl,hrow4,b4⟩;have bel4:=btr bel3 b4;simp -implicitDefEqProofs [go_sem];refine body_tmp2 4 5 rfl ?_;simp -implicitDefEqProofs [go_sem];refine ⟨l,a4,c4,3,rfl,owns_rin (wr_size l) (by simp) hrow4,fun y hy=>by have:=ownsRow_blk hrow4 _ ⟨y,hy,rfl⟩;have:=bel3.size;omega,hs,fun h=>absurd h (by decide),fun _=>rfl,fun h=>by subst h;simp at hfull,owns_form hrow4,bel4⟩
   ·have hfull':¬ (16:Int)≤(l.length:Int):=by omega
    obtain ⟨ti,tz,hti,htz,hts,htb,htc⟩:=eI_wr.get;have i1:=IntWalk.i64_in ((l.length:Int)+1) (by omega);obtain ⟨w4,hmk,hrow4,hg4⟩:=run_make_own (P:=Tryz.prog) w3 w3.heap.size 77 104 ti tz 3 Tryz.underlying77 hti htz hts .i64 .i64 (l.length+1) (by rw [htb];omega) (by unfold maxLen;omega) (Nat.le_refl _);have b4:Below w3.heap.size w3 w4:=(Below.refl _ _).grown hg4 (Nat.le_refl _) (fun j hj=>by cases hj);have hin4:=hin.next b4
    have hB4:=hB1.next b4
    obtain ⟨a5,c5,w5,hr5,hrow5,hg5⟩:=run_appendR (a2:=a) (c2:=cap) (m:=i) (news:=flatR ((l.map WrV.cs).take i)) Tryz.underlying77 eI_wr (by decide) (by decide) hrow4 (by rw [flatR_len (fun y hy=>wr_size l y (List.mem_of_mem_take hy)),List.length_take,List.length_map];congr 1;omega) (hin4.srcT (by decide) i) (fun e=>hin.nil e) (fun u hu=>flatR_one_cell (L:=l.take i) u (by rw [List.map_take];exact hu)) (by omega) (by have:=b4.size;omega);have hle:=hin.le;rw [List.length_map] at hle
    have hic:(i:Int)≤(cap:Int):=by omega
    have hic2:i≤cap:=by omega
    have b5:Below w3.heap.size w3 w5:=b4.grown hg5 b4.size (fun j hj=>by have:=(hrow4.lt j hj).1;omega);have hin5:=hin.next b5
    have hB5:=hB1.next b5
    have ld5:=ldAll (P:=Tryz.prog) hB5 Tryz.underlying104 rfl wrI (n:=3) x.cs_size;obtain ⟨g6,c6,w6,hr6,hrow6,hg61,hg62,hsz6,t6⟩:=push_own (P:=Tryz.prog) (t:=77) (ty:=77) (cs:=x.cs) Tryz.underlying77 eI_wr (by decide) rfl x.cs_one (by decide) (by omega) (by have:=b5.size;omega) hrow5;have b6:Below w3.heap.size w3 w6:=b5.trans (t6.mod.below b5.size fun k hk=>(ownsRow_blk hrow5 k hk).1);have hin6:=hin.next b6
    rcases Option.eq_none_or_eq_some a with e|⟨y,e⟩
    ·have hc0:=hin.nil e;have hl0:l=[]:=List.eq_nil_of_length_eq_zero (by omega);have hi0:i=0:=by rw [hl0] at hi;simpa using hi
     subst e;subst hl0;subst hi0;subst hc0;obtain ⟨a7,c7,w7,hr7,hrow7,hg7⟩:=run_appendR (a2:=none) (c2:=0) (m:=0) (news:=[]) Tryz.underlying77 eI_wr (by decide) (by decide) hrow6 rfl (.inl ⟨rfl,rfl⟩) (fun _=>rfl) (fun u hu=>by cases hu) (by omega) b6.size;have hmk':(Instr.makeSlice 77 (.int .i64 0) (.int .i64 1)).run Tryz.prog w3=.ok (.slice (some ⟨w3.heap.size,0,none⟩) 0 1) w4:=hmk;have i2:IntKind.i64.wrap 1=1:=by decide
     have hr5':(appendB #[77,77] 77 #[.slice (some ⟨w3.heap.size,0,none⟩) 0 1,.slice none 0 0]).run Tryz.prog w4=.ok (.slice a5 0 c5) w5:=hr5;have hr6':(appendB #[77,77] 77 #[.slice a5 0 c5,.slice (some ⟨w5.heap.size,0,none⟩) 1 1]).run Tryz.prog (w5.alloc (.cells x.cs 104))=.ok (.slice (some ⟨g6,0,none⟩) 1 c6) w6:=hr6;have hr7':(appendB #[77,77] 77 #[.slice (some ⟨g6,0,none⟩) 1 c6,.slice none 0 0]).run Tryz.prog w6=.ok (.slice a7 1 c7) w7:=hr7;unfold WrV.cs at ld5 hr6'
     simp -implicitDefEqProofs [go_sem,hfull,hfull',i2,hmk',hr5',↓ld5,hr6',hr7'];refine body_tmp2 4 5 rfl ?_;simp -implicitDefEqProofs [go_sem];have b7:Below w3.heap.size w3 w7:=b6.grown hg7 b6.size (fun j hj=>by have:=(hrow6.lt j hj).1;omega);have hrow7':w7.ownsRow w3.heap.size 104 3 (.slice a7 1 c7) 1 (flatR ([x].map WrV.cs)):=by
      have e:flatR ((([]:List WrV).map WrV.cs).take 0)++x.cs.toList++[]=flatR ([x].map WrV.cs):=by simp [flatR]
      rw [← e];exact hrow7
     have hlo2:SetOk [x]:=⟨by simp,fun y hy=>by rw [List.mem_singleton] at hy;rw [hy];exact hx,fun j hj=>by simp at hj⟩;exact ⟨[x],a7,c7,0,rfl,owns_rin (wr_size [x]) (by simp) hrow7',fun y hy=>by have:=ownsRow_blk hrow7' _ ⟨y,hy,rfl⟩;have:=bel3.size;omega,hlo2,fun _=>⟨hx,by simp⟩,fun h=>absurd rfl h,fun _ _=>⟨rfl,rfl⟩,owns_form hrow7',btr bel3 b7⟩
    ·obtain ⟨yb,rfl⟩:=hfm y e;subst e;have hmk':(Instr.makeSlice 77 (.int .i64 0) (.int .i64 ((l.length:Int)+1))).run Tryz.prog w3=.ok (.slice (some ⟨w3.heap.size,0,none⟩) 0 (l.length+1)) w4:=hmk;rw [Nat.zero_add] at hr5 hr6 hrow6;have hic3:(i:Int)≤(l.length:Int):=by omega
     have hdr:=hin6.drop3 (i:=i) (by simpa using hi);rw [Nat.zero_add] at hdr;have hfl:(flatR ((l.map WrV.cs).drop i)).length=(l.length-i)*3:=by rw [flatR_len (fun y hy=>wr_size l y (List.mem_of_mem_drop hy)),List.length_drop,List.length_map]
     have hsrc7:=hdr.srcT (by decide) ((l.map WrV.cs).drop i).length;rw [List.take_length] at hsrc7;obtain ⟨a7,c7,w7,hr7,hrow7,hg7⟩:=run_appendR (m:=l.length-i) (news:=flatR ((l.map WrV.cs).drop i)) Tryz.underlying77 eI_wr (by decide) (by decide) hrow6 hfl hsrc7 (fun e=>hdr.nil e) (fun u hu=>flatR_one_cell (L:=l.drop i) u (by rw [List.map_drop];exact hu)) (by omega) b6.size;unfold WrV.cs at ld5 hr6;simp -implicitDefEqProofs [go_sem,hfull,hfull',i1,hmk',hr5,hic,hic2,↓ld5,hr6,hic3,hi,hr7]
     refine body_tmp2 4 5 rfl ?_;simp -implicitDefEqProofs [go_sem];have b7:Below w3.heap.size w3 w7:=b6.grown hg7 b6.size (fun j hj=>by have:=(hrow6.lt j hj).1;omega);have hlen:i+1+(l.length-i)=(l.take i++x::l.drop i).length:=by simp;omega
     have hrow7':w7.ownsRow w3.heap.size 104 3 (.slice a7 (l.take i++x::l.drop i).length c7) (l.take i++x::l.drop i).length (flatR ((l.take i++x::l.drop i).map WrV.cs)):=by
      have e:flatR ((l.map WrV.cs).take i)++x.cs.toList++flatR ((l.map WrV.cs).drop i)=flatR ((l.take i++x::l.drop i).map WrV.cs):=by
       rw [List.map_append,List.map_cons,flatR_append,flatR_cons,List.map_take,List.map_drop,List.append_assoc]
      rw [← e,← hlen];exact hrow7
     have hno:∀ h:i<l.length,¬ cmpV l[i].key x.key=0:=fun h h2=>by have:=hhas.2 ⟨h,h2⟩;cases this
     rw [hlen];exact ⟨l.take i++x::l.drop i,a7,c7,0,rfl,owns_rin (wr_size _) (by simp) hrow7',fun y hy=>by have:=ownsRow_blk hrow7' _ ⟨y,hy,rfl⟩;have:=bel3.size;omega,
      setOk_ins hs hi (by omega) hx (fun h=>cmpV_lt.1 (hlo h)) (fun h=>cmpV_pos (hhi h) (hno h)),fun _=>⟨hx,by simp⟩,fun h=>absurd rfl h,fun h=>by subst h;simp,owns_form hrow7',btr bel3 b7⟩
 ·have hr1:r=false:=by cases r;rfl;exact absurd (hr.1 rfl) hx
  subst hr1;simp -implicitDefEqProofs [go_sem];refine callE_of (cloneS_calls w2 hin (by omega)) ?_;rintro v w3 ⟨a3,c3,rfl,hrow,b3⟩;have bel3:=btr bel2 b3;simp -implicitDefEqProofs [go_sem];refine body_tmp2 4 5 rfl ?_;simp -implicitDefEqProofs [go_sem];exact ⟨l,a3,c3,2,rfl,owns_rin (wr_size l) (by simp) hrow,fun y hy=>by have:=ownsRow_blk hrow _ ⟨y,hy,rfl⟩;have:=bel2.size;omega,hs,fun h=>absurd h (by decide),fun _=>rfl,fun _ h=>absurd h hx,owns_form hrow,bel3⟩
end
end
section
open Go Go.RowKit Go.Maps
def MapS (w:World)(b n top:Nat):Prop :=
 ∃ D:DataW Unit,w.ownsMap Tryz.prog 9 (plainElem Tryz.prog 42) b n D∧∀ kl,WideAt.IsKeyLit kl→∃ c:Nat,c≤top∧c<18446744073709551616∧D.atKey kl (.lit (.int .u64 0))=.lit (.int .u64 (c:Int))
section
variable {w w':World} {b n top:Nat} {F:Nat→Prop}
theorem MapS.lt (h:MapS w b n top):b<w.heap.size:=by obtain ⟨_,h,_⟩:=h;exact h.lt
theorem MapS.mod (h:MapS w b n top)(hm:Mod F w w')(hF:¬ F b):MapS w' b n top:=by
 obtain ⟨D,⟨es,clock,hb,r⟩,hf⟩:=h;exact ⟨D,⟨es,clock,(hm.block b (Array.getElem?_eq_some_iff.1 hb).1 hF).trans hb,r⟩,hf⟩
theorem MapS.next (h:MapS w b n top)(hb:Below w.heap.size w w'):MapS w' b n top:=h.mod (Mod.of (F:=fun _=>False) hb) (fun h=>h)
theorem MapS.mono {t':Nat}(h:MapS w b n top)(ht:top≤t'):MapS w b n t':=by
 obtain ⟨D,h1,h2⟩:=h;exact ⟨D,h1,fun kl hk=>by obtain ⟨c,h3,h4⟩:=h2 kl hk;exact ⟨c,by omega,h4⟩⟩
theorem mapS_made (w:World):MapS (w.alloc (.map #[] 0)) w.heap.size 0 0:=⟨.map [],World.ownsMap_made w Tryz.prog _ _,fun _ _=>⟨0,Nat.le_refl _,by decide,rfl⟩⟩
theorem u64_wf {c:Nat}(h:c<18446744073709551616):(Lit.int .u64 (c:Int)).wf=true:=by
 simp [Lit.wf,IntKind.min,IntKind.max,IntKind.signed,IntKind.bits];omega
theorem MapS.look (h:MapS w b n top){s:ByteArray}(hs:s.size≤maxLen):∃ c:Nat,c≤top∧c<18446744073709551616∧(Instr.lookup 127 (.map (some b)) (.string s) false).run Tryz.prog w=.ok (.int .u64 (c:Int)) w:=by
 obtain ⟨D,h1,h2⟩:=h;obtain ⟨c,hc,hc2,hat⟩:=h2 (.string s.data.toList) trivial;obtain ⟨v,ps,hr,hv⟩:=h1.lookup (Maps.string_keyed Tryz.underlying9) Tryz.underlying127 (Tryz.zeroValue42 w) (plainElem_int Tryz.underlying42 (u64_wf (c:=0) (by decide))) (WideMaps.keyOf_string_mk Tryz.underlying9 hs);obtain ⟨z,rfl,hz,_⟩:=plainElem_int_inv Tryz.underlying42 hv;rw [hat] at hz;simp only [Prod.mk.injEq,DataW.lit.injEq,Lit.int.injEq,true_and,and_true] at hz;exact ⟨c,hc,hc2,by rw [hr,← hz.1]⟩
theorem MapS.put (h:MapS w b n top)(hn:n<maxLen){s:ByteArray}(hs:s.size≤maxLen){c:Nat}(hc:c≤top)(hc2:c<18446744073709551616) :
  ∃ w',(Instr.mapUpdate 127 (.map (some b)) (.string s) (.int .u64 (c:Int))).run Tryz.prog w=.ok () w'∧MapS w' b (n+1) top∧w.grownBy w' (some b):=by
 obtain ⟨D,h1,h2⟩:=h;have hm:=h1.isMap;obtain ⟨w',hr,ho,hg⟩:=h1.update (Maps.string_keyed Tryz.underlying9) Tryz.underlying127 hn (WideMaps.keyOf_string_mk Tryz.underlying9 hs) (plainElem_int Tryz.underlying42 (u64_wf hc2));refine ⟨w',hr,⟨_,ho,fun kl hk=>?_⟩,hg⟩;by_cases e:kl=.string s.data.toList
 ·subst e;exact ⟨c,hc,hc2,atKey_put_same hm hk _ _⟩
 ·obtain ⟨c',h3,h4,h5⟩:=h2 kl hk;exact ⟨c',h3,h4,by rw [atKey_put_other e];exact h5⟩
end
structure Tbl (w:World) (tt bk nb n top:Nat) (C:Array Value) (op:Bool) (a0:BitVec 64) (many bnd:Nat) (s0:Value):Prop where
 t:Blk w tt #[.pointer (some ⟨bk,0,none⟩)] 141
 b:Blk w bk C 139
 c:BookC C op a0 many bnd s0 nb
 m:MapS w nb n top
 tb:tt≠bk
 tn:tt≠nb
 bn:bk≠nb
section
variable {w w':World} {tt bk nb n top many bnd:Nat} {C:Array Value} {op:Bool} {a0:BitVec 64} {s0:Value} {F:Nat→Prop}
theorem Tbl.mod (h:Tbl w tt bk nb n top C op a0 many bnd s0)(hm:Mod F w w')(h1:¬ F tt)(h2:¬ F bk)(h3:¬ F nb):Tbl w' tt bk nb n top C op a0 many bnd s0:=⟨h.t.mod hm h1,h.b.mod hm h2,h.c,h.m.mod hm h3,h.tb,h.tn,h.bn⟩
theorem Tbl.next (h:Tbl w tt bk nb n top C op a0 many bnd s0)(hb:Below w.heap.size w w'):Tbl w' tt bk nb n top C op a0 many bnd s0:=h.mod (Mod.of (F:=fun _=>False) hb) (fun h=>h) (fun h=>h) (fun h=>h)
theorem Tbl.book {C':Array Value}{op':Bool}{a0':BitVec 64}{many' bnd':Nat}{s0':Value}(h:Tbl w tt bk nb n top C op a0 many bnd s0)(hB:Blk w' bk C' 139)(hC:BookC C' op' a0' many' bnd' s0' nb)(ht:Turn w (·=bk) w' (·=bk)):Tbl w' tt bk nb n top C' op' a0' many' bnd' s0' :=
 ⟨h.t.mod ht.mod h.tb,hB,hC,h.m.mod ht.mod fun e=>h.bn e.symm,h.tb,h.tn,h.bn⟩
set_option maxHeartbeats 4000000
def TNewP (w0:World)(v:Value)(w':World):Prop:=∃ tt bk nb C,v=.pointer (some ⟨tt,0,none⟩)∧Tbl w' tt bk nb 0 0 C false 0#64 0 0 (.slice none 0 0)∧w0.heap.size≤tt∧w0.heap.size≤bk∧w0.heap.size≤nb∧Below w0.heap.size w0 w'
theorem txnNew_calls (w0:World):Ret Tryz.prog 26 #[] w0 (TNewP w0):=by
 have bel0:=Below.refl w0.heap.size w0;refine ret_of (args:=[]) _ Tryz.func26 rfl Tryz.ntmps26 (by simp) ?_;simp -implicitDefEqProofs [go_sem,run_makeMap];have hM1:=mapS_made w0;have bA:=bel0.alloc (Nat.le_refl _) (.map #[] 0);have sA:(w0.alloc (.map #[] 0)).heap.size=w0.heap.size+1:=by simp
 generalize w0.alloc (.map #[] 0)=w1 at *;have bel1:=bA;generalize hw2:World.alloc w1 _=w2 at *;obtain ⟨hB2,b2,sz2,bel2⟩:=newF hw2 bel1;replace hM1:=hM1.next b2
 generalize hw3:World.alloc w2 _=w3 at *;obtain ⟨hB3,b3,sz3,bel3⟩:=newF hw3 bel2;replace hM1:=hM1.next b3
 replace hB2:=hB2.next b3
 refine body_tmp 0 rfl ?_;simp -implicitDefEqProofs [go_sem];rw [sA] at hB2;rw [sz2,sA] at hB3;exact ⟨w0.heap.size+1+1,w0.heap.size+1,w0.heap.size,_,rfl,⟨hB3,hB2,⟨rfl,rfl,rfl,fun i hi=>absurd hi (Nat.not_lt_zero _),rfl,by decide,rfl,rfl⟩,hM1,by omega,by omega,by omega⟩,by omega,by omega,Nat.le_refl _,bel3⟩
theorem txnNone_calls (w0:World)(h:Tbl w0 tt bk nb n top C op a0 many bnd s0):Ret Tryz.prog 74 #[.pointer (some ⟨tt,0,none⟩)] w0 fun v w'=>v=.bool false∧w'=w0:=by
 refine ret_of (args:=[_]) _ Tryz.func74 rfl Tryz.ntmps74 (by simp) ?_;simp -implicitDefEqProofs [go_sem,h.t.cell];refine body_tmp 2 rfl ?_;simp -implicitDefEqProofs [go_sem]
theorem txnBegin_calls (at_:BitVec 64)(w0:World)(h:Tbl w0 tt bk nb n top C false a0 many bnd s0)(hm:many<16)(ha:bnd≤at_.toNat) :
  Ret Tryz.prog 38 #[.pointer (some ⟨tt,0,none⟩),.int .u64 (uv at_)] w0 fun v w'=>v=.tuple #[.int .i64 0,.int .i64 0]∧∃ C',Tbl w' tt bk nb n top C' true at_ (many+1) at_.toNat (.slice none 0 0)∧Turn w0 (·=bk) w' (·=bk):=by
 refine ret_of (args:=[_,_]) _ Tryz.func38 rfl Tryz.ntmps38 (by simp) ?_;simp -implicitDefEqProofs [go_sem];refine callE_of (txnNone_calls w0 h) ?_;rintro v w1 ⟨rfl,rfl⟩;simp -implicitDefEqProofs [go_sem,h.t.cell];refine callE_of (watchOpen_calls C h.b h.c hm at_ ha) ?_;rintro v w2 ⟨rfl,C2,hB2,hC2,t2⟩;have h2:=h.book hB2 hC2 t2;have hB3:=h2.b.set 49 (.slice none 0 0)
 have t3:Turn w2 (·=bk) (w2.setCell ⟨bk,49,none⟩ (.slice none 0 0)) (·=bk):=⟨(Mod.refl (fun k=>k=bk) w2).setCell (a:=⟨bk,49,none⟩) (.inl rfl) _,fun k hk=>.inl hk⟩;simp -implicitDefEqProofs [go_sem,h2.t.cell,h2.b.cell,h2.b.thaw,hC2.s0];refine body_tmp2 4 5 rfl ?_;simp -implicitDefEqProofs [go_sem];exact ⟨⟨_,h2.book hB3 (hC2.set_ _) t3⟩,t2.trans t3⟩
theorem txnAt_calls (w0:World)(h:Tbl w0 tt bk nb n top C true a0 many bnd s0) :
  Ret Tryz.prog 56 #[.pointer (some ⟨tt,0,none⟩),.int .i64 0] w0 fun v w'=>v=.tuple #[.int .u64 (uv a0),.bool true]∧w'=w0:=by
 refine ret_of (args:=[_,_]) _ Tryz.func56 rfl Tryz.ntmps56 (by simp) ?_;simp -implicitDefEqProofs [go_sem];refine callE_of (txnNone_calls w0 h) ?_;rintro v w1 ⟨rfl,rfl⟩;simp -implicitDefEqProofs [go_sem,h.t.cell];refine callE_of (watchAt_calls C h.b h.c) ?_;rintro v w2 ⟨rfl,rfl⟩;simp -implicitDefEqProofs [go_sem];refine body_tmp2 4 5 rfl ?_;simp -implicitDefEqProofs [go_sem]
theorem txnSet_calls {a:Option Addr}{cap:Nat}{l:List WrV}(w0:World)(h:Tbl w0 tt bk nb n top C true a0 many bnd (.slice a l.length cap))(hin:RIn w0 3 a (l.map WrV.cs) cap)(hl:l.length≤1000) :
  Ret Tryz.prog 44 #[.pointer (some ⟨tt,0,none⟩),.int .i64 0] w0 fun v w'=>∃ a' c',v=.tuple #[.slice a' l.length c',.bool true]∧w'.ownsRow w0.heap.size 104 3 (.slice a' l.length c') l.length (flatR (l.map WrV.cs))∧Below w0.heap.size w0 w':=by
 refine ret_of (args:=[_,_]) _ Tryz.func44 rfl Tryz.ntmps44 (by simp) ?_;simp -implicitDefEqProofs [go_sem];refine callE_of (txnAt_calls w0 h) ?_;rintro v w1 ⟨rfl,rfl⟩;simp -implicitDefEqProofs [go_sem,h.t.cell,h.b.cell,h.c.s0];refine callE_of (cloneS_calls w1 hin hl) ?_;rintro v w2 ⟨a2,c2,rfl,hrow,b2⟩;simp -implicitDefEqProofs [go_sem];refine body_tmp2 4 5 rfl ?_;simp -implicitDefEqProofs [go_sem];exact ⟨a2,c2,⟨rfl,rfl⟩,hrow,b2⟩
def TWrP (tt bk nb n top:Nat)(a0:BitVec 64)(many bnd:Nat)(l:List WrV)(a:Option Addr)(cap:Nat)(x:WrV)(w0:World)(v:Value)(w':World):Prop :=
 ∃ (l':List WrV) (a':Option Addr) (c':Nat) (C':Array Value) (e:Int),v=.int .i64 e∧Tbl w' tt bk nb n top C' true a0 many bnd (.slice a' l'.length c')∧RIn w' 3 a' (l'.map WrV.cs) c'∧SetOk l'∧(∀ y,a'=some y→∃ b,y=⟨b,0,none⟩)∧Turn w0 (·=bk) w' (·=bk) ∧
  ((e=0∧x.right∧l'≠[]∧(∀ y,a'=some y→w0.heap.size≤y.block∧y.block<w'.heap.size))∨(e≠0∧l'=l∧a'=a))∧(l=[]→x.right→l'=[x]∧e=0)
theorem txnWrite_calls {a:Option Addr}{cap:Nat}{l:List WrV}(x:WrV)(w0:World)(h:Tbl w0 tt bk nb n top C true a0 many bnd (.slice a l.length cap))(hin:RIn w0 3 a (l.map WrV.cs) cap)(hs:SetOk l)(hfm:∀ y,a=some y→∃ b,y=⟨b,0,none⟩)(hab:∀ y,a=some y→y.block≠bk) :
  Ret Tryz.prog 76 #[.pointer (some ⟨tt,0,none⟩),.int .i64 0,.agg x.cs] w0 fun v w'=>TWrP tt bk nb n top a0 many bnd l a cap x w0 v w':=by
 have bel0:=Below.refl w0.heap.size w0;refine ret_of (args:=[_,_,_]) _ Tryz.func76 rfl Tryz.ntmps76 (by simp) ?_;simp -implicitDefEqProofs [go_sem];generalize hw1:World.alloc w0 _=w1 at *;obtain ⟨hB1,b1,sz1,bel1⟩:=newF hw1 bel0;replace h:=h.next b1
 replace hin:=hin.next b1
 refine callE_of (txnNone_calls w1 h) ?_;rintro v w2 ⟨rfl,rfl⟩;simp -implicitDefEqProofs [go_sem,h.t.cell];refine callE_of (watchAt_calls C h.b h.c) ?_;rintro v w3 ⟨rfl,rfl⟩;simp -implicitDefEqProofs [go_sem];refine drawE_mix [.pure 0,.pure 1,.pure 2,.pure 4,.take 3,.pure 5,.pure 6,.pure 7,.take 8,.run 9 [3,8],.run 10 [],.pure 11,.pure 12,.pure 13,.pure 14,.pure 15] mixed (by decide +kernel) (by simp only [wo];rfl) ?_;have bd:=(Below.refl w3.heap.size w3).drew
 have bel4:Below w0.heap.size w0 (World.drew w3):=bel1.drew;generalize World.drew w3=w4 at *;have h4:=h.next bd
 have hin4:=hin.next bd
 have hB4:=hB1.next bd
 simp -implicitDefEqProofs [go_sem];refine onTake_of (fun w'=>w'.cell? ⟨tt,0,none⟩=some (.pointer (some ⟨bk,0,none⟩))) (.pointer (some ⟨bk,0,none⟩)) (h4.t.cell 0) (fun w' hw=>by simp -implicitDefEqProofs [go_sem,hw]) ?_;simp -implicitDefEqProofs [go_sem];refine onTake_of (fun w'=>w'.cell? ⟨bk,49,none⟩=some (.slice a l.length cap)) (.slice a l.length cap) (by rw [h4.b.cell];exact h4.c.s0) (fun w' hw=>by simp -implicitDefEqProofs [go_sem,hw]) ?_
 have ldX:=ldAll (P:=Tryz.prog) hB4 Tryz.underlying104 rfl wrI (n:=3) x.cs_size;simp -implicitDefEqProofs [go_sem,↓ldX];refine callE_of (wput_calls x w4 hin4 hs hfm) ?_;rintro v w5 ⟨l',a',c',e,rfl,hin5,hnew,hs5,he0,he1,hone,hfm5,b5⟩;have h5:=h4.next b5
 refine ⟨.inr (by simp),?_⟩;by_cases e0:e=0
 ·subst e0;have hB6:=h5.b.set 49 (.slice a' l'.length c');have t6:Turn w5 (·=bk) (w5.setCell ⟨bk,49,none⟩ (.slice a' l'.length c')) (·=bk):=⟨(Mod.refl (fun k=>k=bk) w5).setCell (a:=⟨bk,49,none⟩) (.inl rfl) _,fun k hk=>.inl hk⟩;simp -implicitDefEqProofs [go_sem,h5.t.cell,h5.b.cell,h5.b.thaw,h5.c.s0];refine body_tmp 6 rfl ?_;simp -implicitDefEqProofs [go_sem]
  exact ⟨l',a',c',_,0,rfl,h5.book hB6 (h5.c.set_ _) t6,hin5.mod t6.mod (fun k ⟨y,hy,hk⟩ e=>by have:=(hnew y hy).1;have:=h4.b.lt;omega),hs5,hfm5,(Turn.of (btr bel4 b5)).trans t6,.inl ⟨rfl,(he0 rfl).1,(he0 rfl).2,fun y hy=>by have:=hnew y hy;have:=bel4.size;have:=t6.mod.size;omega⟩,hone⟩
 ·have hne:(e != 0)=true:=by simpa using e0
  simp -implicitDefEqProofs [go_sem,hne];refine body_tmp 6 rfl ?_;simp -implicitDefEqProofs [go_sem];have hl:=he1 e0;subst hl;exact ⟨l',a,cap,C,e,rfl,h5,hin4.next b5,hs,hfm,Turn.of (btr bel4 b5),.inr ⟨e0,rfl,rfl⟩,hone⟩
theorem txnEnd_calls (w0:World)(h:Tbl w0 tt bk nb n top C true a0 many bnd s0) :
  Ret Tryz.prog 45 #[.pointer (some ⟨tt,0,none⟩),.int .i64 0] w0 fun v w'=>v=.int .i64 0∧∃ C',Tbl w' tt bk nb n top C' false 0#64 many bnd (.slice none 0 0)∧Turn w0 (·=bk) w' (·=bk):=by
 refine ret_of (args:=[_,_]) _ Tryz.func45 rfl Tryz.ntmps45 (by simp) ?_;simp -implicitDefEqProofs [go_sem];refine callE_of (txnNone_calls w0 h) ?_;rintro v w1 ⟨rfl,rfl⟩;simp -implicitDefEqProofs [go_sem,h.t.cell];refine callE_of (watchClose_calls C h.b h.c) ?_;rintro v w2 ⟨rfl,C2,hB2,hC2,t2⟩;have h2:=h.book hB2 hC2 t2;have hB3:=h2.b.set 49 (.slice none 0 0)
 have t3:Turn w2 (·=bk) (w2.setCell ⟨bk,49,none⟩ (.slice none 0 0)) (·=bk):=⟨(Mod.refl (fun k=>k=bk) w2).setCell (a:=⟨bk,49,none⟩) (.inl rfl) _,fun k hk=>.inl hk⟩;simp -implicitDefEqProofs [go_sem,h2.t.cell,h2.b.cell,h2.b.thaw,hC2.s0];refine body_tmp 4 rfl ?_;simp -implicitDefEqProofs [go_sem];exact ⟨⟨_,h2.book hB3 (hC2.set_ _) t3⟩,t2.trans t3⟩
theorem mapS_max (c:Nat)(t:BitVec 64):((max c t.toNat:Nat):Int)=max (c:Int) (uv t):=by unfold uv;omega
theorem txnNote_calls {a:Option Addr}{cap:Nat}{l:List WrV}{st:BitVec 64}(w0:World)(h:Tbl w0 tt bk nb n top C op a0 many bnd s0)(hin:RIn w0 3 a (l.map WrV.cs) cap)(hs:SetOk l)(hn:n≤1000)(ht:top≤st.toNat)(hsep:SepA w0 (·=nb) a) :
  Ret Tryz.prog 48 #[.pointer (some ⟨tt,0,none⟩),.slice a l.length cap,.int .u64 (uv st)] w0 fun v w'=>v=.tuple #[]∧Tbl w' tt bk nb (n+l.length) st.toNat C op a0 many bnd s0∧Turn w0 (·=nb) w' (·=nb):=by
 have hl16:=hs.len;refine ret_of (args:=[_,_,_]) _ Tryz.func48 rfl Tryz.ntmps48 (by simp) ?_;simp -implicitDefEqProofs [go_sem];refine callE_of (txnNone_calls w0 h) ?_;rintro v w1 ⟨rfl,rfl⟩;simp -implicitDefEqProofs [go_sem];refine wpE_loop (fun e' w'=>∃ k:Nat,k≤l.length∧e' 0=.pointer (some ⟨tt,0,none⟩)∧e' 2=.int .u64 (uv st)∧e' 10=.slice a l.length cap∧e' 11=.int .i64 (l.length:Int)∧e' 12=.int .i64 (k:Int) ∧
   Tbl w' tt bk nb (n+k) st.toNat C op a0 many bnd s0∧Turn w1 (·=nb) w' (·=nb)) (fun e' _=>l.length-(intOf (e' 12)).toNat) ?_ ?_
 ·refine ⟨0,Nat.zero_le _,?_⟩;simp -implicitDefEqProofs [go_sem];exact ⟨{ h with m:=h.m.mono ht },Turn.refl _ _⟩
 ·rintro e' w2 ⟨k,hk,g0,g2,g10,g11,g12,h2,t2⟩;have hin2:=hin.turn hsep t2;by_cases hlt:k<l.length
  ·have hlt':(k:Int)<(l.length:Int):=by omega
   obtain ⟨ib,io,rfl,hld⟩:=hin2.ld (i:=k) (by simpa using hlt) Tryz.underlying104 rfl wrI;have hcs:(l.map WrV.cs)[k]'(by simpa using hlt)=l[k].cs:=by simp
   rw [hcs] at hld;have hst:=stNew (P:=Tryz.prog) (t:=104) (cs:=l[k].cs) (C0:=#[.string ⟨#[]⟩,.string ⟨#[]⟩,.bool false]) wrI rfl l[k].cs_one;simp -implicitDefEqProofs [go_sem,g0,g2,g10,g11,g12,hlt,hlt',↓hld,↓hst];have hB3:=Blk.new w2 l[k].cs 104;have b3:=(Below.refl w2.heap.size w2).alloc (Nat.le_refl _) (.cells l[k].cs 104)
   refine drawE_mix [.pure 0,.pure 1,.pure 2,.pure 7,.pure 9,.pure 10,.pure 11,.pure 16,.pure 19,.take 3,.pure 4,.pure 5,.take 6,.take 8,.take 12,.pure 13,.pure 14,.take 15,.run 17 [3,6,8,12,15],.run 18 [3,6,8],.pure 20,.run 21 []] mixed (by decide +kernel) (by simp only [wo];rfl) ?_;have bd:=(Below.refl (w2.alloc (.cells l[k].cs 104)).heap.size (w2.alloc (.cells l[k].cs 104))).drew;replace b3:=b3.drew;replace hB3:=hB3.next bd
   generalize World.drew (w2.alloc _)=w3 at *;have h3:=h2.next b3
   have hk0:l[k].cs[0]?=some (.string l[k].key):=rfl;have hks:l[k].key.size≤maxLen:=by have:=(hs.right _ (List.getElem_mem hlt)).1;unfold maxLen;omega
   obtain ⟨c,hc,hc2,hlk⟩:=h3.m.look hks;have hst2:=st.isLt;obtain ⟨w4,hup,hm4,hg4⟩:=h3.m.put (c:=max c st.toNat) (by unfold maxLen;omega) hks (by omega) (by omega);rw [mapS_max] at hup;have c0:=h3.t.cell 0;have c57:w3.cell? ⟨bk,57,none⟩=some (.map (some nb)):=by rw [h3.b.cell];exact h3.c.nt
   simp -implicitDefEqProofs [go_sem,g0,g2];refine onTake_of (fun w'=>w'.cell? ⟨tt,0,none⟩=some (.pointer (some ⟨bk,0,none⟩))) (.pointer (some ⟨bk,0,none⟩)) c0 (fun w' hw=>by simp -implicitDefEqProofs [go_sem,hw]) ?_;simp -implicitDefEqProofs [go_sem,g0,g2];refine onTake_of (fun w'=>w'.cell? ⟨bk,57,none⟩=some (.map (some nb))) (.map (some nb)) c57 (fun w' hw=>by simp -implicitDefEqProofs [go_sem,hw]) ?_;simp -implicitDefEqProofs [go_sem,g0,g2]
   refine onTake_of (fun w'=>Blk w' w2.heap.size l[k].cs 104) (.string l[k].key) hB3 (fun w' hw=>by simp -implicitDefEqProofs [go_sem,hw.cell,hk0]) ?_;simp -implicitDefEqProofs [go_sem,g0,g2];refine onTake_of (fun w'=>w'.cell? ⟨tt,0,none⟩=some (.pointer (some ⟨bk,0,none⟩))) (.pointer (some ⟨bk,0,none⟩)) c0 (fun w' hw=>by simp -implicitDefEqProofs [go_sem,hw]) ?_;simp -implicitDefEqProofs [go_sem,g0,g2]
   refine onTake_of (fun w'=>w'.cell? ⟨bk,57,none⟩=some (.map (some nb))) (.map (some nb)) c57 (fun w' hw=>by simp -implicitDefEqProofs [go_sem,hw]) ?_;simp -implicitDefEqProofs [go_sem,g0,hB3.cell,hk0,hlk,g2,hup];have h4:Tbl w4 tt bk nb (n+(k+1)) st.toNat C op a0 many bnd s0:=by
    have t4:Mod (fun z=>z=nb) w3 w4:=(Mod.refl (fun z=>z=nb) w3).grown hg4 (fun z hz=>.inl (by cases hz;rfl));exact ⟨h3.t.mod t4 h3.tn,h3.b.mod t4 h3.bn,h3.c,hm4,h3.tb,h3.tn,h3.bn⟩
   have i1:=IntWalk.i64_in ((k:Int)+1) (by omega);simp -implicitDefEqProofs [go_sem,g12,i1];refine goE_round ⟨k+1,by omega,?_⟩ ?_
   ·simp -implicitDefEqProofs [go_sem,g0,g2,g10,g11,g12,i1];exact ⟨h4,t2.trans ((Turn.of b3).trans ⟨(Mod.refl (fun z=>z=nb) w3).grown hg4 (fun z hz=>.inl (by cases hz;rfl)),fun z hz=>.inl hz⟩)⟩
   ·simp -implicitDefEqProofs [go_sem,g12,intOf,i1];omega
  ·obtain rfl:k=l.length:=by omega
   simp -implicitDefEqProofs [go_sem,g0,g11,g12];refine body_end (body_none rfl ?_);exact ⟨rfl,h2,t2⟩
theorem txnClash_calls {a:Option Addr}{cap:Nat}{l:List WrV}(w0:World)(h:Tbl w0 tt bk nb n top C true a0 many bnd (.slice a l.length cap))(hin:RIn w0 3 a (l.map WrV.cs) cap)(hs:SetOk l)(ht:top≤a0.toNat) :
  Ret Tryz.prog 46 #[.pointer (some ⟨tt,0,none⟩),.int .i64 0] w0 fun v w'=>v=.bool false∧Below w0.heap.size w0 w':=by
 have hl16:=hs.len;refine ret_of (args:=[_,_]) _ Tryz.func46 rfl Tryz.ntmps46 (by simp) ?_;simp -implicitDefEqProofs [go_sem];refine callE_of (txnAt_calls w0 h) ?_;rintro v w1 ⟨rfl,rfl⟩;simp -implicitDefEqProofs [go_sem,h.t.cell,h.b.cell,h.c.s0];refine wpE_loop (fun e' w'=>∃ k:Nat,k≤l.length∧e' 0=.pointer (some ⟨tt,0,none⟩)∧e' 5=.int .u64 (uv a0)∧e' 25=.slice a l.length cap∧e' 26=.int .i64 (l.length:Int)∧e' 27=.int .i64 (k:Int) ∧
   Below w1.heap.size w1 w') (fun e' _=>l.length-(intOf (e' 27)).toNat) ?_ ?_
 ·refine ⟨0,Nat.zero_le _,?_⟩;simp -implicitDefEqProofs [go_sem];exact Below.refl _ _
 ·rintro e' w2 ⟨k,hk,g0,g5,g25,g26,g27,b2⟩;have hin2:=hin.next b2
  have h2:=h.next b2
  by_cases hlt:k<l.length
  ·have hlt':(k:Int)<(l.length:Int):=by omega
   obtain ⟨ib,io,rfl,hld⟩:=hin2.ld (i:=k) (by simpa using hlt) Tryz.underlying104 rfl wrI;have hcs:(l.map WrV.cs)[k]'(by simpa using hlt)=l[k].cs:=by simp
   rw [hcs] at hld;have hst:=stNew (P:=Tryz.prog) (t:=104) (cs:=l[k].cs) (C0:=#[.string ⟨#[]⟩,.string ⟨#[]⟩,.bool false]) wrI rfl l[k].cs_one;simp -implicitDefEqProofs [go_sem,g0,g5,g25,g26,g27,hlt,hlt',↓hld,↓hst];have hB3:=Blk.new w2 l[k].cs 104;have b3:=(Below.refl w2.heap.size w2).alloc (Nat.le_refl _) (.cells l[k].cs 104);have h3:=h2.next b3
   have h3d:=h2.next b3.drew
   have hk0:l[k].cs[0]?=some (.string l[k].key):=rfl;have hks:l[k].key.size≤maxLen:=by have:=(hs.right _ (List.getElem_mem hlt)).1;unfold maxLen;omega
   obtain ⟨c,hc,hc2,hlk⟩:=h3d.m.look hks;have hgt:¬ (uv a0)<(c:Int):=by unfold uv;omega
   have i1:=IntWalk.i64_in ((k:Int)+1) (by omega);refine drawE_still mixed (by decide +kernel) ?_;simp -implicitDefEqProofs [go_sem,g0,g5,h3.t.cell,h3.b.cell,h3.c.nt,hB3.cell,hk0,hlk,hgt];unfold endE;simp -implicitDefEqProofs [go_sem,g27,i1];refine goE_round ⟨k+1,by omega,?_⟩ ?_
   ·simp -implicitDefEqProofs [go_sem,g0,g5,g25,g26,g27,i1];exact b2.trans (b3.drew.mono b2.size)
   ·simp -implicitDefEqProofs [go_sem,g27,intOf,i1];omega
  ·obtain rfl:k=l.length:=by omega
   simp -implicitDefEqProofs [go_sem,g0,g26,g27];refine body_tmp 4 rfl ?_;simp -implicitDefEqProofs [go_sem];exact b2
end
end
end Go.Proofs.YtaaihijkdhmcdaaGreatDoor
