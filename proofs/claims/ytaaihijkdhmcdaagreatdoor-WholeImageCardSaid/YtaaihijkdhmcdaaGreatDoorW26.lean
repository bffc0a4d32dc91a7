/- WholeImage, part 27 of 38: contracts and lemmas of its proof. Conditions: none. -/
import Derived.Test.YtaaihijkdhmcdaaGreatDoorW24
import Derived.Test.YtaaihijkdhmcdaaGreatDoorW25
set_option linter.unusedVariables false
set_option linter.unusedSimpArgs false
set_option maxRecDepth 100000
namespace Go.Proofs.YtaaihijkdhmcdaaGreatDoor
section
open Go Go.RowKit
open TR
theorem RIn.cellAt {w:World}{sz:Nat}{a:Option Addr}{l:List (Array Value)}{cap:Nat}(h:RIn w sz a l cap){b o:Nat}(ha:a=some ⟨b,o,none⟩){i j:Nat}(hi:i<l.length)(hj:j<l[i].size):w.cell? ⟨b,o+i*sz+j,none⟩=some l[i][j]:=by
 obtain ⟨b',o',ha',hc⟩:=h.get hi;rw [ha] at ha';obtain ⟨rfl,rfl⟩:b=b'∧o=o':=by simpa using ha'
 exact hc j hj
section
variable {w w':World} {m b p j x base cap:Nat} {V V':PV} {G G' F F':Nat→Prop} {made:List Nat} {a:Option Addr}
set_option maxHeartbeats 4000000
def PruneP (m:Nat)(V:PV)(b p j x base:Nat)(F:Nat→Prop)(T:Tr)(X:List Nat)(k:List Nb)(u:BitVec 64)(w0:World)(v:Value)(w':World):Prop :=
 ∃ V' F' made,JS w' m V' b p j x base made F'∧Turn w0 F w' F'∧Side m V V' X∧V'.D.steps≤V.D.steps+1000 ∧
  ((v=.int .i64 0∧∃ o',Own m V' o' X∧TR.Chg k u 0#64 (T.items []) (itemsO o'))∨(v=.int .i64 6∧Own m V' (some T) X))
theorem subT_off (c:List Fr)(t:Tr){i:Nat}(h:i<c.length):(subT c t i).off=c[i].off:=by
 unfold subT;rw [List.drop_eq_getElem_cons h];rfl
theorem subT_fill (c:List Fr)(t:Tr){i:Nat}(h:i<c.length):subT c t i=c[i].fill (plug (c.drop (i+1)) t):=by
 unfold subT;rw [List.drop_eq_getElem_cons h];rfl
theorem less_right {n:NdV}(h:n.Right)(i:Nat):(lessN n i).Right :=
 ⟨h.p15,h.p16,fun x hx=>h.l16 x ((List.eraseIdx_sublist _ _).subset hx),h.rise.sublist (List.eraseIdx_sublist _ _),by
  show (n.labels.eraseIdx i).length=(n.kids.eraseIdx i).length;rw [List.length_eraseIdx,List.length_eraseIdx,h.len],fun k hk=>h.nz k ((List.eraseIdx_sublist _ _).subset hk)⟩
theorem prune_swap {V8:PV}{c:List Fr}{i:Nat}(hi:i<c.length){o off:Nat}{pr:List Nb}{vl:BitVec 64}{X D:List Nat}(hm:m=6∨m=24)(hO:Own m V (some (plug c (.nd o pr vl .nil))) X)(hG:Grew m V V8 [off])(hb:∀ g∈c.drop (i+1),g.bare)
  (hN:NAt m V8 off (lessN (subT c (.nd o pr vl .nil) i).nv c[i].l.len)) (hD:D.Perm ((c.drop (i+1)).map Fr.off++[o])) :
  ∃ T':Tr,(runS V8.D (putS ((wdW c (.nd o pr vl .nil) i:Nat):Int) (nameW off))).2=0∧Poke m V8 (pokeV V8 (wdW c (.nd o pr vl .nil) i) (nameW off)) (wdW c (.nd o pr vl .nil) i) (nameW off) ∧
   (wdW c (.nd o pr vl .nil) i%8=0∧wdW c (.nd o pr vl .nil) i+8≤64*nL m∧(64≤wdW c (.nd o pr vl .nil) i∧wdW c (.nd o pr vl .nil) i<128∨dT m≤wdW c (.nd o pr vl .nil) i)) ∧
   (D++[c[i].off]).Nodup∧(∀ y∈D++[c[i].off],0<Bk m V8 ((y:Nat):Int))∧TR.Chg (pth c++pr) vl 0#64 ((plug c (.nd o pr vl .nil)).items []) (T'.items []) ∧
   ∀ V3,Gone m (pokeV V8 (wdW c (.nd o pr vl .nil) i) (nameW off)) V3 (D++[c[i].off])→Own m V3 (some T') X∧Side m V V3 X:=by
 have hsp:c=c.take i++c[i]::c.drop (i+1):=by rw [← List.drop_eq_getElem_cons hi,List.take_append_drop]
 have hlen:(c.take i).length=i:=by rw [List.length_take];omega
 have hf:=subT_fill c (.nd o pr vl .nil) hi;have hpl:plug c (.nd o pr vl .nil)=plug (c.take i) (c[i].fill (plug (c.drop (i+1)) (.nd o pr vl .nil))):=by
  rw [← hf];unfold subT;rw [← plug_app,List.take_append_drop]
 have hwd:wdW c (.nd o pr vl .nil) i=wdW (c.take i) (c[i].fill (plug (c.drop (i+1)) (.nd o pr vl .nil))) (c.take i).length:=by
  have h1:=wdW_app (c.take i) (c[i]::c.drop (i+1)) (.nd o pr vl .nil) (i:=i) (by omega);rw [← hsp] at h1;rw [h1,hlen];rfl
 have hA0:(plug c (.nd o pr vl .nil)).At (NAt m V):=hO.tree.at_ _ rfl;have hO0:(plug c (.nd o pr vl .nil)).Ok []:=hO.tree.ok _ rfl;rw [hpl] at hA0 hO0 hO;have hOf:=plug_ok hO0;rw [List.nil_append] at hOf;rw [hf] at hN;have hsw:=swap_prune (D:=D++[c[i].off]) hG hb (plug_at hA0) hOf hN ((List.perm_append_comm (l₁:=D)).trans (List.Perm.cons _ hD));obtain ⟨p1,hP,hDn,hDp,hch,hfin⟩:=own_swap hm hO hG hsw;have hwk:=wd_ok hm (hG.tree hA0)
 refine ⟨_,by rw [hwd];exact p1,by rw [hwd];exact hP,by rw [hwd];exact hwk,hDn,hDp,?_,fun V3 hg=>hfin V3 (by rw [← hwd];exact hg)⟩;rw [hpl];have hkey:pth c++pr=pth (c.take i)++(c[i].pre++c[i].x::(pth (c.drop (i+1))++pr)):=by
  have h1:pth c=pth (c.take i)++pth (c[i]::c.drop (i+1)):=by rw [← pth_app,← hsp]
  rw [h1];show pth (c.take i)++(c[i].pre++c[i].x::pth (c.drop (i+1)))++pr=_;simp
 rw [hkey];exact hch
theorem JS.mod {F2:Nat→Prop}(h:JS w m V b p j x base made F)(hm:Mod F2 w w')(hF:∀ k,F k→¬ F2 k)(hx:¬ F2 x)(ht:¬ F2 1):JS w' m V b p j x base made F:=by
 obtain ⟨G,a,cap,hJ,rfl⟩:=h;exact ⟨G,a,cap,⟨hJ.sys.mod hm (fun k hk=>hF k (.inl hk)) ht,hJ.ix.mod hm hx,hJ.job.mod hm (hF j (.inr (.inl rfl))),ownsRow_turn hJ.own hm fun k hk=>hF k (.inr (.inr hk)),hJ.gx,hJ.gj,hJ.ga,hJ.xj,hJ.ax,hJ.aj,hJ.tj,hJ.ta,Nat.le_trans hJ.base hm.size⟩,rfl⟩
theorem JS.xlt (h:JS w m V b p j x base made F):x<w.heap.size∧1<w.heap.size:=by
 obtain ⟨G,a,cap,hJ,rfl⟩:=h;exact ⟨hJ.ix.lt,hJ.sys.tabs.lt⟩
theorem own_one (w:World)(v:Value)(e:TypeId):(w.alloc (.cells #[v] e)).ownsRow w.heap.size e 1 (.slice (some ⟨w.heap.size,0,none⟩) 1 1) 1 [v] :=
 ⟨by simp,.inr ⟨w.heap.size,1,#[v],rfl,Nat.le_refl _,heap_alloc_new w _,Nat.le_refl _,by decide,rfl,by simp⟩⟩
theorem jobPrune_calls (hm:m=6∨m=24)(Q:Nat→NP)(c:List Fr)(o:Nat)(pr:List Nb)(vl:BitVec 64)(X:List Nat)(w0:World)(h:JS w0 m V b p j x base [] F)(hO:Own m V (some (plug c (.nd o pr vl .nil))) X)(hst:V.D.steps+3110000<1099511627776)
  (hW:WayIn w0 Q a cap c (.nd o pr vl .nil) (c.length+1)) (hnd:∀ i,i<c.length+1→NdS w0 F (Q i) (subT c (.nd o pr vl .nil) i).nv) (hsa:SepA w0 F a) (hcl:c.length≤32) :
  Ret Tryz.prog 130 #[.pointer (some ⟨j,0,none⟩),.slice a (c.length+1) cap] w0 fun v w'=>PruneP m V b p j x base F (plug c (.nd o pr vl .nil)) X (pth c++pr) vl w0 v w':=by
 have bel0:=Below.refl w0.heap.size w0;have zf:=sz hm;obtain ⟨t,ht⟩:∃ t,t=Tr.nd o pr vl .nil:=⟨_,rfl⟩;rw [← ht] at hO hW hnd ⊢;obtain ⟨ab,ao,ha,-⟩:=hW.row.get (i:=c.length) (by rw [wayL_len];omega);subst ha;have hcell:∀ {w:World},Below w0.heap.size w0 w→∀ i (_:i<c.length+1) k (hk:k<7),w.cell? ⟨ab,ao+i*7+k,none⟩=(plC (Q i) (subT c t i).nv (subT c t i).off (lbW c i) (wdW c t i))[k]?:=fun hw i hi k hk=>by
  have h1:=(hW.row.next hw).cellAt rfl (i:=i) (j:=k) (by rw [wayL_len];exact hi) (by rw [wayL_get Q c t hi];exact hk);rw [h1];simp only [wayL_get Q c t hi];exact (Array.getElem?_eq_getElem _).symm
 have e1:=IntWalk.i64_in (c.length:Int) (by omega);have e3:(c.length:Int)<(c.length:Int)+1:=by omega
 have h4:=hcell bel0 c.length (Nat.lt_succ_self _) 4 (by decide);rw [show (plC (Q c.length) (subT c t c.length).nv (subT c t c.length).off (lbW c c.length) (wdW c t c.length))[4]?=some (.int .i64 ((subT c t c.length).off:Int)) from rfl,subT_len] at h4;refine ret_of (args:=[_,_]) _ Tryz.func130 rfl Tryz.ntmps130 (by simp) ?_;simp -implicitDefEqProofs [go_sem,e1,e3,h4];have hown1:=own_one w0 (.int .i64 (t.off:Int)) 3;have hw0:=h;generalize hw1:World.alloc w0 _=w1 at *
 obtain ⟨hB1,b1,sz1,bel1⟩:=newF hw1 bel0;replace h:=h.next b1
 refine wpE_loop (fun e' w'=>∃ (k:Nat) (D:List Nat) (oa:Option Addr) (oc:Nat),k≤c.length∧(∀ g∈c.drop k,g.bare)∧D.Perm ((c.drop k).map Fr.off++[t.off])∧e' 0=.pointer (some ⟨j,0,none⟩)∧e' 1=.slice (some ⟨ab,ao,none⟩) (c.length+1) cap∧e' 5=.int .i64 (k:Int)∧e' 6=.slice oa D.length oc ∧
   w'.ownsRow w0.heap.size 3 1 (.slice oa D.length oc) D.length (offC D)∧Below w0.heap.size w0 w') (fun e' _=>(intOf (e' 5)).toNat) ?_ ?_
 ·refine ⟨c.length,[t.off],some ⟨w0.heap.size,0,none⟩,1,Nat.le_refl _,(fun g hg=>by rw [List.drop_length] at hg;cases hg),(by rw [List.drop_length];exact List.Perm.refl _),?_⟩;simp -implicitDefEqProofs [go_sem];exact ⟨hown1,bel1⟩
 ·rintro e' w2 ⟨k,D,oa,oc,hk,hbare,hD,g0,g1,g5,g6,hown2,bel2⟩;have hDl:D.length≤40:=by
   have:=hD.length_eq;rw [List.length_append,List.length_map,List.length_drop,List.length_singleton] at this;omega
  rcases Nat.eq_zero_or_pos k with h0|h0
  ·subst h0;simp -implicitDefEqProofs [go_sem,g0,g1,g5,g6];rw [List.drop_zero] at hbare hD;rw [ht] at hO hD;obtain ⟨p1,hP,hDn,hDp,hch,hfin⟩:=own_none hm hO hbare hD;have hVs:=owns_vsIn (l:=offC D) (offC_len D) hown2;have hVsep:SepA w2 F oa:=fun y hy=>by
    have h1:=ownsRow_blk hown2 y.block ⟨y,hy,rfl⟩;exact ⟨h1.2,fun hf=>by have:=hw0.lt _ hf;omega⟩
   refine callE_of (jobFinish_calls 72 0#64 oa D oc w2 (hw0.next bel2) hO.rest hm (by omega) (by omega) (by omega) (.inl (by omega)) hVs hVsep hDn hDp (by omega)) ?_;rintro v w3 ⟨rfl,V3,F3,hg3,hJ3,t3⟩;simp -implicitDefEqProofs [go_sem];refine body_tmp 4 rfl ?_;simp -implicitDefEqProofs [go_sem];obtain ⟨d1,d2⟩:=hfin V3 hg3;have hs1:=hg3.steps;have hs2:=hP.steps;rw [ht];exact ⟨V3,F3,[],hJ3,(Turn.of bel2).trans t3,d2,by omega,.inl ⟨rfl,none,d1,hch⟩⟩
  ·obtain ⟨i,rfl⟩:∃ i,k=i+1:=⟨k-1,by omega⟩;have hi:i<c.length:=by omega
   have x1:((i:Int)+1)-1=(i:Int):=by omega
   have x2:=IntWalk.i64_in (i:Int) (by omega);have x3:(i:Int)<(c.length:Int)+1:=by omega
   have x4:(0:Int)<(i:Int)+1:=by omega
   have hf:=subT_fill c t hi;have c1:=hcell bel2 i (by omega) 1 (by decide);have c3:=hcell bel2 i (by omega) 3 (by decide);rw [show (plC (Q i) (subT c t i).nv (subT c t i).off (lbW c i) (wdW c t i))[1]?=some (.int .u64 (uv (subT c t i).nv.val)) from rfl] at c1;rw [show (plC (Q i) (subT c t i).nv (subT c t i).off (lbW c i) (wdW c t i))[3]?=some (.slice (Q i).a3 (subT c t i).nv.kids.length (Q i).c3) from rfl] at c3;have hbi:=bare_iff c[i] (plug (c.drop (i+1)) t);rw [← hf] at hbi
   by_cases hb:c[i].bare
   ·obtain ⟨v0,k1⟩:=hbi.1 hb;rw [v0] at c1;rw [k1] at c3;have c4:=hcell bel2 i (by omega) 4 (by decide);rw [show (plC (Q i) (subT c t i).nv (subT c t i).off (lbW c i) (wdW c t i))[4]?=some (.int .i64 ((subT c t i).off:Int)) from rfl,subT_off c t hi] at c4;obtain ⟨g,cap',w3,hr3,hown3,hg3,hg3',hsz3,t3⟩:=push_own (P:=Tryz.prog) (t:=45) (ty:=45) (cs:=#[.int .i64 (c[i].off:Int)]) Tryz.underlying45 eI_int (by decide) rfl (by simp [Value.oneCell']) (by decide) (by omega) bel2.size hown2
    simp -implicitDefEqProofs [go_sem,g0,g1,g5,g6,x1,x2,x3,x4,c1,c3,c4,hr3];have bel3:Below w0.heap.size w0 w3:=bel2.trans (t3.mod.below bel2.size fun k hk=>(ownsRow_blk hown2 k hk).1);refine goE_round ⟨i,D++[c[i].off],some ⟨g,0,none⟩,cap',by omega,?_,?_,?_⟩ ?_
    ·intro z hz;rw [List.drop_eq_getElem_cons hi] at hz
     rcases List.mem_cons.1 hz with rfl|hz
     ·exact hb
     ·exact hbare z hz
    ·rw [List.drop_eq_getElem_cons hi,List.map_cons,List.cons_append];exact (List.perm_append_comm (l₁:=D)).trans (List.Perm.cons _ hD)
    ·rw [List.length_append,List.length_singleton];simp -implicitDefEqProofs [go_sem,g0,g1];have e:offC (D++[c[i].off])=offC D++[.int .i64 (c[i].off:Int)]:=by simp [offC]
     rw [e];exact ⟨hown3,bel3⟩
    ·simp -implicitDefEqProofs [go_sem,g5,intOf]
   ·have hcond:((subT c t i).nv.val==0#64)=false∨((subT c t i).nv.val==0#64)=true∧(((subT c t i).nv.kids.length:Int)==1)=false:=by
     by_cases hv:(subT c t i).nv.val=0#64
     ·right;refine ⟨by simpa using hv,?_⟩;rw [beq_eq_false_iff_ne];intro hk1;exact hb (hbi.2 ⟨hv,by omega⟩)
     ·left;simpa using hv
    have x5:((i:Int)+1==0)=false:=by rw [beq_eq_false_iff_ne];omega
    have hld:=(hW.row.next bel2).ld (i:=i) (by rw [wayL_len];omega) Tryz.underlying236 rfl plI;obtain ⟨ab',ao',hab,hld⟩:=hld;obtain ⟨rfl,rfl⟩:ab=ab'∧ao=ao':=by simpa using hab
    rw [wayL_get Q c t (show i<c.length+1 by omega)] at hld;obtain ⟨C,hC⟩:∃ C,C=plC (Q i) (subT c t i).nv (subT c t i).off (lbW c i) (wdW c t i):=⟨_,rfl⟩;have hC1:∀ v∈C.toList,v.oneCell'=true:=by rw [hC];exact plC_one _ _ _ _ _
    have hCs:C.size=7:=by rw [hC];rfl
    rw [← hC] at hld;have st3:=stNew (P:=Tryz.prog) (t:=236) (cs:=C) (C0:=#[.slice none 0 0,.int .u64 0,.slice none 0 0,.slice none 0 0,.int .i64 0,.int .u8 0,.int .i64 0]) (by rw [hCs];exact plI) (by rw [hCs];rfl) hC1;have hgo:∀ P:Prop,(((subT c t i).nv.val==0#64)=false→P)→(((subT c t i).nv.val==0#64)=true→(((subT c t i).nv.kids.length:Int)==1)=false→P)→P:=fun P h1 h2=>hcond.elim h1 fun h=>h2 h.1 h.2
    have hi1:i+1<c.length+1:=by omega
    have c5:=fun {w:World} (hw:Below w0.heap.size w0 w)=>hcell hw (i+1) hi1 5 (by decide)
    have hlb:(plC (Q (i+1)) (subT c t (i+1)).nv (subT c t (i+1)).off (lbW c (i+1)) (wdW c t (i+1)))[5]?=some (.int .u8 (uv c[i].x)):=by
     show some (Value.int .u8 (uv (lbW c (i+1))))=_;rw [lbW_succ,List.getElem?_eq_getElem hi]
    obtain ⟨n,hn⟩:∃ n,n=(subT c t i).nv:=⟨_,rfl⟩;have hc0:C[0]?=some (.slice (Q i).a1 n.pre.length (Q i).c1):=by rw [hC,hn];rfl
    have hc1:C[1]?=some (.int .u64 (uv n.val)):=by rw [hC,hn];rfl
    have hc2:C[2]?=some (.slice (Q i).a2 n.labels.length (Q i).c2):=by rw [hC,hn];rfl
    have hc3:C[3]?=some (.slice (Q i).a3 n.kids.length (Q i).c3):=by rw [hC,hn];rfl
    have hc4:C[4]?=some (.int .i64 ((subT c t i).off:Int)):=by rw [hC];rfl
    have hc6:C[6]?=some (.int .i64 (wdW c t i:Int)):=by rw [hC];rfl
    have hnd0:=hnd i (by omega);rw [← hn] at hnd0;have hni:n=(c[i].fill (plug (c.drop (i+1)) t)).nv:=by rw [hn,hf]
    have hA0:(plug c t).At (NAt m V):=hO.tree.at_ _ rfl;have hAi:(c[i].fill (plug (c.drop (i+1)) t)).At (NAt m V):=by
     have h1:plug c t=plug (c.take i) (c[i].fill (plug (c.drop (i+1)) t)):=by
      rw [← hf];unfold subT;rw [← plug_app,List.take_append_drop]
     rw [h1] at hA0;exact plug_at hA0
    have hNi:=(fill_at.1 hAi).1;rw [← hni] at hNi;have hidx:c[i].l.len<n.labels.length:=by
     rw [hni];show _<(Ks.labels _).length;rw [labels_len,app_len];show _<c[i].l.len+(c[i].r.len+1);omega
    have hlx:n.labels[c[i].l.len]=c[i].x:=by
     have h1:n.labels=c[i].l.labels++c[i].x::c[i].r.labels:=by
      rw [hni];show Ks.labels _=_;rw [app_labels];rfl
     have h2:=labels_len c[i].l;simp only [h1];rw [List.getElem_append_right (by omega)];simp [h2]
    refine hgo _ (fun y1=>?_) (fun y1 y2=>?_)
    ·simp -implicitDefEqProofs [go_sem,g0,g1,g5,g6,x1,x2,x3,x4,x5,c1,c3,y1,↓hld,↓st3];generalize hw3:World.alloc w2 _=w3 at *;obtain ⟨hB3,b3,sz3,bel3⟩:=newF hw3 bel2;refine drawE_alt [.pure 0,.pure 2,.pure 3,.pure 4,.pure 5,.take 1,.take 6] 7 [] [.pure 8,.pure 9,.pure 10,.run 11 [1,6],.run 12 [],.pure 13] 11 [1,6] [.run 7 [],.pure 8,.pure 9,.pure 10,.run 12 [],.pure 13] mixed (by decide +kernel) (by simp only [wo];rfl) (by simp only [wo];rfl) (by simp only [wo];rfl) ?_
     have bd:=(Below.refl w3.heap.size w3).drew;have bel4:Below w0.heap.size w0 (World.drew w3):=bel3.drew;have b24:Below w2.heap.size w2 (World.drew w3):=b3.drew;generalize World.drew w3=w4 at *;have hB4:=hB3.next bd
     have hnd4:=hnd0.next bel4
     have x6:(i:Int)+1<(c.length:Int)+1:=by omega
     have x7:(0:Int)≤(i:Int)+1:=by omega
     simp -implicitDefEqProofs [go_sem,g1,g5,x6,x7];refine onTake_of (fun w'=>Below w4.heap.size w4 w') (.agg ((Q i).cs n)) (Below.refl _ _) (fun w' hw=>by simp -implicitDefEqProofs [go_sem,(hB4.next hw).cell,hc0,hc1,hc2,hc3,NP.cs]) ?_;simp -implicitDefEqProofs [go_sem];refine onTake_of (fun w'=>Below w4.heap.size w4 w') (.int .u8 (uv c[i].x)) (Below.refl _ _) (fun w' hw=>by
      have h5:=c5 (btr bel4 hw);rw [hlb] at h5;simp -implicitDefEqProofs [go_sem,h5]) ?_
     simp -implicitDefEqProofs [go_sem];refine ⟨?_,?_⟩
     ·
      refine callE_of (nodeWithout_calls (Q i) n c[i].x w4 hnd4.in_ hNi.right hidx hlx) ?_;rintro v w5 ⟨q5,rfl,hin5,hq5,b5⟩;have bel5:=btr bel4 b5;have hB5:=hB4.next b5
      refine ⟨.inr ⟨(fun h=>by cases h),(fun h=>by cases h),trivial⟩,?_⟩;have stN:=stNew (P:=Tryz.prog) (t:=234) (cs:=q5.cs (lessN n c[i].l.len)) (C0:=#[.slice none 0 0,.int .u64 0,.slice none 0 0,.slice none 0 0]) ndI rfl (q5.cs_one _);obtain ⟨z,hz⟩:∃ z,z=w5.heap.size:=⟨_,rfl⟩;have b7:Below w5.heap.size w5 (w5.alloc (.cells (q5.cs (lessN n c[i].l.len)) 234)):=(Below.refl _ _).alloc (Nat.le_refl _) _;have hN7:=Blk.new w5 (q5.cs (lessN n c[i].l.len)) 234
      have ldN:=ldAll (P:=Tryz.prog) hN7 Tryz.underlying234 rfl ndI (n:=4) (q5.cs_size _);simp -implicitDefEqProofs [go_sem,g0,g1,g5,g6,↓stN,↓ldN];refine ⟨.inr (b5.trans (((Below.refl w5.heap.size w5).alloc (Nat.le_refl _) _).mono b5.size)),?_⟩;have bel7:=btr bel5 b7;have be27:=(btr b24 b5).trans (b7.mono (by have:=b24.size;have:=b5.size;omega));have hB7:=hB5.next b7
      have hin7:=hin5.next b7
      generalize q5=q7 at *;generalize World.alloc w5 (.cells (q7.cs (lessN n c[i].l.len)) 234)=w7 at *;have bel27:=be27;refine callE_of (jobBuild_calls q7 (lessN n c[i].l.len) w7 (hw0.next bel7) hO.rest hm (by omega) hin7 (less_right hNi.right _) (by simp)) ?_;rintro v w8 ⟨F8,t8,hres⟩;have hBF:¬ F w2.heap.size:=fun hf=>by have:=hw0.lt _ hf;have:=bel2.size;omega
      obtain ⟨hB8,hBF8⟩:=hB7.keepT hBF t8;have hgeO:∀ k,BlkOf oa k→w0.heap.size≤k∧k<w2.heap.size:=fun k hk=>ownsRow_blk hown2 k hk
      have b27:Below w2.heap.size w2 w7:=bel27;have hown7:=ownsRow_turn hown2 (Mod.of b27 (F:=fun _=>False)) (fun _ _ h=>h);have hown8:=ownsRow_turn hown7 t8.mod (fun k hk hf=>by have:=hw0.lt k hf;have:=hgeO k hk;omega);have s28:w2.heap.size≤w8.heap.size:=by have:=b27.size;have:=t8.size;omega
      rcases hres with ⟨off,V8,rfl,hG8,hN8,hJ8⟩|⟨rfl,hM8,hJ8⟩
      all_goals
       simp -implicitDefEqProofs [go_sem];refine drawE_mix [.pure 0,.pure 1,.pure 2,.pure 4,.pure 5,.pure 6,.take 3,.run 7 [3],.run 8 [3],.run 9 [3],.run 10 [],.pure 11] mixed (by decide +kernel) (by simp only [wo];rfl) ?_;have bd8:=(Below.refl w8.heap.size w8).drew;generalize World.drew w8=w9 at *;have hB9:=hB8.next bd8
       have hJ9:=hJ8.next bd8
       have hown9:=ownsRow_turn hown8 (Mod.of bd8 (F:=fun _=>False)) (fun _ _ h=>h);obtain ⟨g,cap',w10,hr10,hown10,hg10,hg10',hsz10,t10⟩:=push_own (P:=Tryz.prog) (t:=45) (ty:=45) (cs:=#[.int .i64 ((subT c t i).off:Int)]) Tryz.underlying45 eI_int (by decide) rfl (by simp [Value.oneCell']) (by decide) (by omega) (by have:=bd8.size;have:=bel2.size;omega) hown9;have hnb:¬ BlkOf oa w2.heap.size:=fun hk=>by have:=hgeO _ hk;omega
       have hB10:=hB9.mod t10.mod hnb;have bA:=(Below.refl w9.heap.size w9).alloc (Nat.le_refl _) (.cells #[.int .i64 ((subT c t i).off:Int)] 3);have hBA:=hB9.next bA
       obtain ⟨S,hS⟩:∃ S:World→Prop,S=fun w'=>Blk w' w2.heap.size C 236:=⟨_,rfl⟩
       have hS9:S w9:=by rw [hS];exact hB9
       have hS10:S w10:=by rw [hS];exact hB10
       have hSA:S (w9.alloc (.cells #[.int .i64 ((subT c t i).off:Int)] 3)):=by rw [hS];exact hBA
       have hSc:∀ w',S w'→w'.cell? ⟨w2.heap.size,6,none⟩=some (.int .i64 (wdW c t i:Int)):=fun w' h=>by rw [hS] at h;rw [h.cell,hc6]
       simp -implicitDefEqProofs [go_sem,g6];refine onTake_of S (.int .i64 (wdW c t i:Int)) hS9 (fun w' hw=>by simp -implicitDefEqProofs [go_sem,hSc w' hw]) ?_;simp -implicitDefEqProofs [go_sem,g0,g6,hB9.cell,hc4,hr10];refine ⟨.inr hSA,.inr hS10,?_⟩;have hxt:=hw0.xlt;have hge9:∀ k,BlkOf oa k→w0.heap.size≤k:=fun k hk=>(hgeO k hk).1
       have hJ10:=hJ9.mod t10.mod (fun k hk hf=>by
        have h1:=hge9 k hf
        rcases t8.new k hk with h2|h2
        ·have:=hw0.lt k h2;omega
        ·have:=(hgeO k hf).2;have:=b27.size;omega) (fun hf=>by have:=hge9 _ hf;omega) (fun hf=>by have:=hge9 _ hf;omega)
       have e10:offC D++(#[.int .i64 ((subT c t i).off:Int)]:Array Value).toList=offC (D++[c[i].off]):=by rw [subT_off c t hi];simp [offC]
       rw [e10] at hown10;have hDl1:(D++[c[i].off]).length=D.length+1:=by rw [List.length_append,List.length_singleton]
       have tw10:Turn w0 F w10 F8:=by
        have t9:=(Turn.of bel7).trans (t8.trans (Turn.of bd8));refine ⟨t9.mod.trans t10.mod (fun k hk hlt=>by have:=hge9 k hk;omega),fun k hk=>t9.new k hk⟩
      ·rw [hn,ht] at hN8;rw [ht] at hO hD;obtain ⟨T',p1,hP,hwk,hDn,hDp,hch,hfin⟩:=prune_swap hi hm hO hG8 hbare hN8 hD;rw [← ht] at p1 hP hwk hch hfin hO;have hVs:=owns_vsIn (l:=offC (D++[c[i].off])) (by rw [offC_len,hDl1]) hown10;have hVsep:SepA w10 F8 (some ⟨g,0,none⟩):=fun y hy=>by
        obtain rfl:=Option.some.inj hy;refine ⟨hg10',fun hf=>?_⟩;have hf:F8 g:=hf
        rcases t10.new g rfl with h1|h1
        ·have h2:=hgeO g h1
         rcases t8.new g hf with h3|h3
         ·have:=hw0.lt g h3;omega
         ·have:=b27.size;omega
        ·have:=hJ9.lt g hf;omega
       have hs8:=hG8.steps;simp only [List.length_singleton] at hs8;have hfi:=jobFinish_calls (wdW c t i) (nameW off) (some ⟨g,0,none⟩) (D++[c[i].off]) cap' w10 hJ10 hG8.rest hm (by omega) hwk.1 hwk.2.1 hwk.2.2 hVs hVsep hDn hDp (by omega);rw [hDl1] at hfi;refine callE_of hfi ?_;rintro v w11 ⟨rfl,V11,F11,hg11,hJ11,t11⟩;refine ⟨.inr ⟨(fun h=>by cases h),trivial⟩,?_⟩;simp -implicitDefEqProofs [go_sem];refine body_tmp 4 rfl ?_;simp -implicitDefEqProofs [go_sem];obtain ⟨d1,d2⟩:=hfin V11 hg11
       have hs1:=hg11.steps;have hs2:=hP.steps;rw [hDl1] at hs1;exact ⟨V11,F11,_,hJ11,tw10.trans t11,d2,by omega,.inl ⟨rfl,some T',d1,hch⟩⟩
      ·refine callE_of (jobFail_calls _ _ _ w10 hJ10 hO.rest hm (by omega) List.nodup_nil (fun y hy=>by cases hy) (by simp)) ?_;rintro v w11 ⟨rfl,V11,F11,hg11,hJ11,t11⟩;refine ⟨.inr ⟨(fun h=>by cases h),trivial⟩,?_⟩;simp -implicitDefEqProofs [go_sem];refine body_tmp 4 rfl ?_;simp -implicitDefEqProofs [go_sem];obtain ⟨d1,d2⟩:=undone hm hO (Grew.refl hO.rest) hg11;have hs1:=hg11.steps;simp only [List.length_nil] at hs1;exact ⟨V11,F11,[],hJ11,tw10.trans t11,d2,by omega,.inr ⟨rfl,d1⟩⟩
     ·
      have b5:=(Below.refl w4.heap.size w4).alloc (Nat.le_refl _) (.cells #[.slice none 0 0,.int .u64 0,.slice none 0 0,.slice none 0 0] 234);refine ⟨.inr b5,?_⟩;generalize hw5:World.alloc w4 _=w5 at *;obtain ⟨hN5,-,-⟩:=new_facts hw5;have bel5:=btr bel4 b5;have hB5:=hB4.next b5
      refine callE_of (nodeWithout_calls (Q i) n c[i].x w5 (hnd4.next b5).in_ hNi.right hidx hlx) ?_;rintro v w6 ⟨q6,rfl,hin6,hq6,b6⟩;have bel6:=btr bel5 b6;have hB6:=hB5.next b6
      have hN6:=hN5.next b6
      refine ⟨.inr ⟨(fun h=>by cases h),(fun h=>by cases h),trivial⟩,?_⟩;have stN:=stAll (P:=Tryz.prog) (ty:=234) (cs:=q6.cs (lessN n c[i].l.len)) hN6 ndI rfl (q6.cs_one _);have hN7:=hN6.row (q6.cs (lessN n c[i].l.len));have ldN:=ldAll (P:=Tryz.prog) hN7 Tryz.underlying234 rfl ndI (n:=4) (q6.cs_size _);simp -implicitDefEqProofs [go_sem,g0,g1,g5,g6,↓stN,↓ldN];have s04:w0.heap.size≤w4.heap.size:=bel4.size;have s45:w4.heap.size<w5.heap.size:=hN5.lt
      have bel7:=below_setRow bel6 s04 (q6.cs (lessN n c[i].l.len));have be27:=below_setRow ((btr b24 b5).trans (b6.mono (by have:=b24.size;have:=b5.size;omega))) b24.size (q6.cs (lessN n c[i].l.len));have m7:Mod (fun k=>k=w4.heap.size) w6 (w6.setRow w4.heap.size (q6.cs (lessN n c[i].l.len))):=(Mod.refl (fun k=>k=w4.heap.size) w6).row (.inl rfl) _;have hB7:=hB6.mod m7 (fun e=>by have:=hB4.lt;omega)
      have hin7:NdIn (w6.setRow w4.heap.size (q6.cs (lessN n c[i].l.len))) q6 (lessN n c[i].l.len) :=
       ⟨⟨hin6.pre.at_.mod m7 (fun k ⟨o,ho⟩ e=>by have:=hq6 k (.inl ⟨_,ho,rfl⟩);omega),hin6.pre.le,hin6.pre.max,hin6.pre.nil⟩,
        ⟨hin6.lab.at_.mod m7 (fun k ⟨o,ho⟩ e=>by have:=hq6 k (.inr (.inl ⟨_,ho,rfl⟩));omega),hin6.lab.le,hin6.lab.max,hin6.lab.nil⟩,
        ⟨hin6.kid.at_.mod m7 (fun k ⟨o,ho⟩ e=>by have:=hq6 k (.inr (.inr ⟨_,ho,rfl⟩));omega),hin6.kid.le,hin6.kid.max,hin6.kid.nil⟩⟩
      generalize q6=q7 at *;generalize World.setRow w6 w4.heap.size (q7.cs (lessN n c[i].l.len))=w7 at *;have bel27:=be27;refine callE_of (jobBuild_calls q7 (lessN n c[i].l.len) w7 (hw0.next bel7) hO.rest hm (by omega) hin7 (less_right hNi.right _) (by simp)) ?_;rintro v w8 ⟨F8,t8,hres⟩;have hBF:¬ F w2.heap.size:=fun hf=>by have:=hw0.lt _ hf;have:=bel2.size;omega
      obtain ⟨hB8,hBF8⟩:=hB7.keepT hBF t8;have hgeO:∀ k,BlkOf oa k→w0.heap.size≤k∧k<w2.heap.size:=fun k hk=>ownsRow_blk hown2 k hk
      have b27:Below w2.heap.size w2 w7:=bel27;have hown7:=ownsRow_turn hown2 (Mod.of b27 (F:=fun _=>False)) (fun _ _ h=>h);have hown8:=ownsRow_turn hown7 t8.mod (fun k hk hf=>by have:=hw0.lt k hf;have:=hgeO k hk;omega);have s28:w2.heap.size≤w8.heap.size:=by have:=b27.size;have:=t8.size;omega
      rcases hres with ⟨off,V8,rfl,hG8,hN8,hJ8⟩|⟨rfl,hM8,hJ8⟩
      all_goals
       simp -implicitDefEqProofs [go_sem];refine drawE_mix [.pure 0,.pure 1,.pure 2,.pure 4,.pure 5,.pure 6,.take 3,.run 7 [3],.run 8 [3],.run 9 [3],.run 10 [],.pure 11] mixed (by decide +kernel) (by simp only [wo];rfl) ?_;have bd8:=(Below.refl w8.heap.size w8).drew;generalize World.drew w8=w9 at *;have hB9:=hB8.next bd8
       have hJ9:=hJ8.next bd8
       have hown9:=ownsRow_turn hown8 (Mod.of bd8 (F:=fun _=>False)) (fun _ _ h=>h);obtain ⟨g,cap',w10,hr10,hown10,hg10,hg10',hsz10,t10⟩:=push_own (P:=Tryz.prog) (t:=45) (ty:=45) (cs:=#[.int .i64 ((subT c t i).off:Int)]) Tryz.underlying45 eI_int (by decide) rfl (by simp [Value.oneCell']) (by decide) (by omega) (by have:=bd8.size;have:=bel2.size;omega) hown9;have hnb:¬ BlkOf oa w2.heap.size:=fun hk=>by have:=hgeO _ hk;omega
       have hB10:=hB9.mod t10.mod hnb;have bA:=(Below.refl w9.heap.size w9).alloc (Nat.le_refl _) (.cells #[.int .i64 ((subT c t i).off:Int)] 3);have hBA:=hB9.next bA
       obtain ⟨S,hS⟩:∃ S:World→Prop,S=fun w'=>Blk w' w2.heap.size C 236:=⟨_,rfl⟩
       have hS9:S w9:=by rw [hS];exact hB9
       have hS10:S w10:=by rw [hS];exact hB10
       have hSA:S (w9.alloc (.cells #[.int .i64 ((subT c t i).off:Int)] 3)):=by rw [hS];exact hBA
       have hSc:∀ w',S w'→w'.cell? ⟨w2.heap.size,6,none⟩=some (.int .i64 (wdW c t i:Int)):=fun w' h=>by rw [hS] at h;rw [h.cell,hc6]
       simp -implicitDefEqProofs [go_sem,g6];refine onTake_of S (.int .i64 (wdW c t i:Int)) hS9 (fun w' hw=>by simp -implicitDefEqProofs [go_sem,hSc w' hw]) ?_;simp -implicitDefEqProofs [go_sem,g0,g6,hB9.cell,hc4,hr10];refine ⟨.inr hSA,.inr hS10,?_⟩;have hxt:=hw0.xlt;have hge9:∀ k,BlkOf oa k→w0.heap.size≤k:=fun k hk=>(hgeO k hk).1
       have hJ10:=hJ9.mod t10.mod (fun k hk hf=>by
        have h1:=hge9 k hf
        rcases t8.new k hk with h2|h2
        ·have:=hw0.lt k h2;omega
        ·have:=(hgeO k hf).2;have:=b27.size;omega) (fun hf=>by have:=hge9 _ hf;omega) (fun hf=>by have:=hge9 _ hf;omega)
       have e10:offC D++(#[.int .i64 ((subT c t i).off:Int)]:Array Value).toList=offC (D++[c[i].off]):=by rw [subT_off c t hi];simp [offC]
       rw [e10] at hown10;have hDl1:(D++[c[i].off]).length=D.length+1:=by rw [List.length_append,List.length_singleton]
       have tw10:Turn w0 F w10 F8:=by
        have t9:=(Turn.of bel7).trans (t8.trans (Turn.of bd8));refine ⟨t9.mod.trans t10.mod (fun k hk hlt=>by have:=hge9 k hk;omega),fun k hk=>t9.new k hk⟩
      ·rw [hn,ht] at hN8;rw [ht] at hO hD;obtain ⟨T',p1,hP,hwk,hDn,hDp,hch,hfin⟩:=prune_swap hi hm hO hG8 hbare hN8 hD;rw [← ht] at p1 hP hwk hch hfin hO;have hVs:=owns_vsIn (l:=offC (D++[c[i].off])) (by rw [offC_len,hDl1]) hown10;have hVsep:SepA w10 F8 (some ⟨g,0,none⟩):=fun y hy=>by
        obtain rfl:=Option.some.inj hy;refine ⟨hg10',fun hf=>?_⟩;have hf:F8 g:=hf
        rcases t10.new g rfl with h1|h1
        ·have h2:=hgeO g h1
         rcases t8.new g hf with h3|h3
         ·have:=hw0.lt g h3;omega
         ·have:=b27.size;omega
        ·have:=hJ9.lt g hf;omega
       have hs8:=hG8.steps;simp only [List.length_singleton] at hs8;have hfi:=jobFinish_calls (wdW c t i) (nameW off) (some ⟨g,0,none⟩) (D++[c[i].off]) cap' w10 hJ10 hG8.rest hm (by omega) hwk.1 hwk.2.1 hwk.2.2 hVs hVsep hDn hDp (by omega);rw [hDl1] at hfi;refine callE_of hfi ?_;rintro v w11 ⟨rfl,V11,F11,hg11,hJ11,t11⟩;refine ⟨.inr ⟨(fun h=>by cases h),trivial⟩,?_⟩;simp -implicitDefEqProofs [go_sem];refine body_tmp 4 rfl ?_;simp -implicitDefEqProofs [go_sem];obtain ⟨d1,d2⟩:=hfin V11 hg11
       have hs1:=hg11.steps;have hs2:=hP.steps;rw [hDl1] at hs1;exact ⟨V11,F11,_,hJ11,tw10.trans t11,d2,by omega,.inl ⟨rfl,some T',d1,hch⟩⟩
      ·refine callE_of (jobFail_calls _ _ _ w10 hJ10 hO.rest hm (by omega) List.nodup_nil (fun y hy=>by cases hy) (by simp)) ?_;rintro v w11 ⟨rfl,V11,F11,hg11,hJ11,t11⟩;refine ⟨.inr ⟨(fun h=>by cases h),trivial⟩,?_⟩;simp -implicitDefEqProofs [go_sem];refine body_tmp 4 rfl ?_;simp -implicitDefEqProofs [go_sem];obtain ⟨d1,d2⟩:=undone hm hO (Grew.refl hO.rest) hg11;have hs1:=hg11.steps;simp only [List.length_nil] at hs1;exact ⟨V11,F11,[],hJ11,tw10.trans t11,d2,by omega,.inr ⟨rfl,d1⟩⟩
    ·simp -implicitDefEqProofs [go_sem,g0,g1,g5,g6,x1,x2,x3,x4,x5,c1,c3,y1,y2,↓hld,↓st3];generalize hw3:World.alloc w2 _=w3 at *;obtain ⟨hB3,b3,sz3,bel3⟩:=newF hw3 bel2;refine drawE_alt [.pure 0,.pure 2,.pure 3,.pure 4,.pure 5,.take 1,.take 6] 7 [] [.pure 8,.pure 9,.pure 10,.run 11 [1,6],.run 12 [],.pure 13] 11 [1,6] [.run 7 [],.pure 8,.pure 9,.pure 10,.run 12 [],.pure 13] mixed (by decide +kernel) (by simp only [wo];rfl) (by simp only [wo];rfl) (by simp only [wo];rfl) ?_
     have bd:=(Below.refl w3.heap.size w3).drew;have bel4:Below w0.heap.size w0 (World.drew w3):=bel3.drew;have b24:Below w2.heap.size w2 (World.drew w3):=b3.drew;generalize World.drew w3=w4 at *;have hB4:=hB3.next bd
     have hnd4:=hnd0.next bel4
     have x6:(i:Int)+1<(c.length:Int)+1:=by omega
     have x7:(0:Int)≤(i:Int)+1:=by omega
     simp -implicitDefEqProofs [go_sem,g1,g5,x6,x7];refine onTake_of (fun w'=>Below w4.heap.size w4 w') (.agg ((Q i).cs n)) (Below.refl _ _) (fun w' hw=>by simp -implicitDefEqProofs [go_sem,(hB4.next hw).cell,hc0,hc1,hc2,hc3,NP.cs]) ?_;simp -implicitDefEqProofs [go_sem];refine onTake_of (fun w'=>Below w4.heap.size w4 w') (.int .u8 (uv c[i].x)) (Below.refl _ _) (fun w' hw=>by
      have h5:=c5 (btr bel4 hw);rw [hlb] at h5;simp -implicitDefEqProofs [go_sem,h5]) ?_
     simp -implicitDefEqProofs [go_sem];refine ⟨?_,?_⟩
     ·
      refine callE_of (nodeWithout_calls (Q i) n c[i].x w4 hnd4.in_ hNi.right hidx hlx) ?_;rintro v w5 ⟨q5,rfl,hin5,hq5,b5⟩;have bel5:=btr bel4 b5;have hB5:=hB4.next b5
      refine ⟨.inr ⟨(fun h=>by cases h),(fun h=>by cases h),trivial⟩,?_⟩;have stN:=stNew (P:=Tryz.prog) (t:=234) (cs:=q5.cs (lessN n c[i].l.len)) (C0:=#[.slice none 0 0,.int .u64 0,.slice none 0 0,.slice none 0 0]) ndI rfl (q5.cs_one _);obtain ⟨z,hz⟩:∃ z,z=w5.heap.size:=⟨_,rfl⟩;have b7:Below w5.heap.size w5 (w5.alloc (.cells (q5.cs (lessN n c[i].l.len)) 234)):=(Below.refl _ _).alloc (Nat.le_refl _) _;have hN7:=Blk.new w5 (q5.cs (lessN n c[i].l.len)) 234
      have ldN:=ldAll (P:=Tryz.prog) hN7 Tryz.underlying234 rfl ndI (n:=4) (q5.cs_size _);simp -implicitDefEqProofs [go_sem,g0,g1,g5,g6,↓stN,↓ldN];refine ⟨.inr (b5.trans (((Below.refl w5.heap.size w5).alloc (Nat.le_refl _) _).mono b5.size)),?_⟩;have bel7:=btr bel5 b7;have be27:=(btr b24 b5).trans (b7.mono (by have:=b24.size;have:=b5.size;omega));have hB7:=hB5.next b7
      have hin7:=hin5.next b7
      generalize q5=q7 at *;generalize World.alloc w5 (.cells (q7.cs (lessN n c[i].l.len)) 234)=w7 at *;have bel27:=be27;refine callE_of (jobBuild_calls q7 (lessN n c[i].l.len) w7 (hw0.next bel7) hO.rest hm (by omega) hin7 (less_right hNi.right _) (by simp)) ?_;rintro v w8 ⟨F8,t8,hres⟩;have hBF:¬ F w2.heap.size:=fun hf=>by have:=hw0.lt _ hf;have:=bel2.size;omega
      obtain ⟨hB8,hBF8⟩:=hB7.keepT hBF t8;have hgeO:∀ k,BlkOf oa k→w0.heap.size≤k∧k<w2.heap.size:=fun k hk=>ownsRow_blk hown2 k hk
      have b27:Below w2.heap.size w2 w7:=bel27;have hown7:=ownsRow_turn hown2 (Mod.of b27 (F:=fun _=>False)) (fun _ _ h=>h);have hown8:=ownsRow_turn hown7 t8.mod (fun k hk hf=>by have:=hw0.lt k hf;have:=hgeO k hk;omega);have s28:w2.heap.size≤w8.heap.size:=by have:=b27.size;have:=t8.size;omega
      rcases hres with ⟨off,V8,rfl,hG8,hN8,hJ8⟩|⟨rfl,hM8,hJ8⟩
      all_goals
       simp -implicitDefEqProofs [go_sem];refine drawE_mix [.pure 0,.pure 1,.pure 2,.pure 4,.pure 5,.pure 6,.take 3,.run 7 [3],.run 8 [3],.run 9 [3],.run 10 [],.pure 11] mixed (by decide +kernel) (by simp only [wo];rfl) ?_;have bd8:=(Below.refl w8.heap.size w8).drew;generalize World.drew w8=w9 at *;have hB9:=hB8.next bd8
       have hJ9:=hJ8.next bd8
       have hown9:=ownsRow_turn hown8 (Mod.of bd8 (F:=fun _=>False)) (fun _ _ h=>h);obtain ⟨g,cap',w10,hr10,hown10,hg10,hg10',hsz10,t10⟩:=push_own (P:=Tryz.prog) (t:=45) (ty:=45) (cs:=#[.int .i64 ((subT c t i).off:Int)]) Tryz.underlying45 eI_int (by decide) rfl (by simp [Value.oneCell']) (by decide) (by omega) (by have:=bd8.size;have:=bel2.size;omega) hown9;have hnb:¬ BlkOf oa w2.heap.size:=fun hk=>by have:=hgeO _ hk;omega
       have hB10:=hB9.mod t10.mod hnb;have bA:=(Below.refl w9.heap.size w9).alloc (Nat.le_refl _) (.cells #[.int .i64 ((subT c t i).off:Int)] 3);have hBA:=hB9.next bA
       obtain ⟨S,hS⟩:∃ S:World→Prop,S=fun w'=>Blk w' w2.heap.size C 236:=⟨_,rfl⟩
       have hS9:S w9:=by rw [hS];exact hB9
       have hS10:S w10:=by rw [hS];exact hB10
       have hSA:S (w9.alloc (.cells #[.int .i64 ((subT c t i).off:Int)] 3)):=by rw [hS];exact hBA
       have hSc:∀ w',S w'→w'.cell? ⟨w2.heap.size,6,none⟩=some (.int .i64 (wdW c t i:Int)):=fun w' h=>by rw [hS] at h;rw [h.cell,hc6]
       simp -implicitDefEqProofs [go_sem,g6];refine onTake_of S (.int .i64 (wdW c t i:Int)) hS9 (fun w' hw=>by simp -implicitDefEqProofs [go_sem,hSc w' hw]) ?_;simp -implicitDefEqProofs [go_sem,g0,g6,hB9.cell,hc4,hr10];refine ⟨.inr hSA,.inr hS10,?_⟩;have hxt:=hw0.xlt;have hge9:∀ k,BlkOf oa k→w0.heap.size≤k:=fun k hk=>(hgeO k hk).1
       have hJ10:=hJ9.mod t10.mod (fun k hk hf=>by
        have h1:=hge9 k hf
        rcases t8.new k hk with h2|h2
        ·have:=hw0.lt k h2;omega
        ·have:=(hgeO k hf).2;have:=b27.size;omega) (fun hf=>by have:=hge9 _ hf;omega) (fun hf=>by have:=hge9 _ hf;omega)
       have e10:offC D++(#[.int .i64 ((subT c t i).off:Int)]:Array Value).toList=offC (D++[c[i].off]):=by rw [subT_off c t hi];simp [offC]
       rw [e10] at hown10;have hDl1:(D++[c[i].off]).length=D.length+1:=by rw [List.length_append,List.length_singleton]
       have tw10:Turn w0 F w10 F8:=by
        have t9:=(Turn.of bel7).trans (t8.trans (Turn.of bd8));refine ⟨t9.mod.trans t10.mod (fun k hk hlt=>by have:=hge9 k hk;omega),fun k hk=>t9.new k hk⟩
      ·rw [hn,ht] at hN8;rw [ht] at hO hD;obtain ⟨T',p1,hP,hwk,hDn,hDp,hch,hfin⟩:=prune_swap hi hm hO hG8 hbare hN8 hD;rw [← ht] at p1 hP hwk hch hfin hO;have hVs:=owns_vsIn (l:=offC (D++[c[i].off])) (by rw [offC_len,hDl1]) hown10;have hVsep:SepA w10 F8 (some ⟨g,0,none⟩):=fun y hy=>by
        obtain rfl:=Option.some.inj hy;refine ⟨hg10',fun hf=>?_⟩;have hf:F8 g:=hf
        rcases t10.new g rfl with h1|h1
        ·have h2:=hgeO g h1
         rcases t8.new g hf with h3|h3
         ·have:=hw0.lt g h3;omega
         ·have:=b27.size;omega
        ·have:=hJ9.lt g hf;omega
       have hs8:=hG8.steps;simp only [List.length_singleton] at hs8;have hfi:=jobFinish_calls (wdW c t i) (nameW off) (some ⟨g,0,none⟩) (D++[c[i].off]) cap' w10 hJ10 hG8.rest hm (by omega) hwk.1 hwk.2.1 hwk.2.2 hVs hVsep hDn hDp (by omega);rw [hDl1] at hfi;refine callE_of hfi ?_;rintro v w11 ⟨rfl,V11,F11,hg11,hJ11,t11⟩;refine ⟨.inr ⟨(fun h=>by cases h),trivial⟩,?_⟩;simp -implicitDefEqProofs [go_sem];refine body_tmp 4 rfl ?_;simp -implicitDefEqProofs [go_sem];obtain ⟨d1,d2⟩:=hfin V11 hg11
       have hs1:=hg11.steps;have hs2:=hP.steps;rw [hDl1] at hs1;exact ⟨V11,F11,_,hJ11,tw10.trans t11,d2,by omega,.inl ⟨rfl,some T',d1,hch⟩⟩
      ·refine callE_of (jobFail_calls _ _ _ w10 hJ10 hO.rest hm (by omega) List.nodup_nil (fun y hy=>by cases hy) (by simp)) ?_;rintro v w11 ⟨rfl,V11,F11,hg11,hJ11,t11⟩;refine ⟨.inr ⟨(fun h=>by cases h),trivial⟩,?_⟩;simp -implicitDefEqProofs [go_sem];refine body_tmp 4 rfl ?_;simp -implicitDefEqProofs [go_sem];obtain ⟨d1,d2⟩:=undone hm hO (Grew.refl hO.rest) hg11;have hs1:=hg11.steps;simp only [List.length_nil] at hs1;exact ⟨V11,F11,[],hJ11,tw10.trans t11,d2,by omega,.inr ⟨rfl,d1⟩⟩
     ·
      have b5:=(Below.refl w4.heap.size w4).alloc (Nat.le_refl _) (.cells #[.slice none 0 0,.int .u64 0,.slice none 0 0,.slice none 0 0] 234);refine ⟨.inr b5,?_⟩;generalize hw5:World.alloc w4 _=w5 at *;obtain ⟨hN5,-,-⟩:=new_facts hw5;have bel5:=btr bel4 b5;have hB5:=hB4.next b5
      refine callE_of (nodeWithout_calls (Q i) n c[i].x w5 (hnd4.next b5).in_ hNi.right hidx hlx) ?_;rintro v w6 ⟨q6,rfl,hin6,hq6,b6⟩;have bel6:=btr bel5 b6;have hB6:=hB5.next b6
      have hN6:=hN5.next b6
      refine ⟨.inr ⟨(fun h=>by cases h),(fun h=>by cases h),trivial⟩,?_⟩;have stN:=stAll (P:=Tryz.prog) (ty:=234) (cs:=q6.cs (lessN n c[i].l.len)) hN6 ndI rfl (q6.cs_one _);have hN7:=hN6.row (q6.cs (lessN n c[i].l.len));have ldN:=ldAll (P:=Tryz.prog) hN7 Tryz.underlying234 rfl ndI (n:=4) (q6.cs_size _);simp -implicitDefEqProofs [go_sem,g0,g1,g5,g6,↓stN,↓ldN];have s04:w0.heap.size≤w4.heap.size:=bel4.size;have s45:w4.heap.size<w5.heap.size:=hN5.lt
      have bel7:=below_setRow bel6 s04 (q6.cs (lessN n c[i].l.len));have be27:=below_setRow ((btr b24 b5).trans (b6.mono (by have:=b24.size;have:=b5.size;omega))) b24.size (q6.cs (lessN n c[i].l.len));have m7:Mod (fun k=>k=w4.heap.size) w6 (w6.setRow w4.heap.size (q6.cs (lessN n c[i].l.len))):=(Mod.refl (fun k=>k=w4.heap.size) w6).row (.inl rfl) _;have hB7:=hB6.mod m7 (fun e=>by have:=hB4.lt;omega)
      have hin7:NdIn (w6.setRow w4.heap.size (q6.cs (lessN n c[i].l.len))) q6 (lessN n c[i].l.len) :=
       ⟨⟨hin6.pre.at_.mod m7 (fun k ⟨o,ho⟩ e=>by have:=hq6 k (.inl ⟨_,ho,rfl⟩);omega),hin6.pre.le,hin6.pre.max,hin6.pre.nil⟩,
        ⟨hin6.lab.at_.mod m7 (fun k ⟨o,ho⟩ e=>by have:=hq6 k (.inr (.inl ⟨_,ho,rfl⟩));omega),hin6.lab.le,hin6.lab.max,hin6.lab.nil⟩,
        ⟨hin6.kid.at_.mod m7 (fun k ⟨o,ho⟩ e=>by have:=hq6 k (.inr (.inr ⟨_,ho,rfl⟩));omega),hin6.kid.le,hin6.kid.max,hin6.kid.nil⟩⟩
      generalize q6=q7 at *;generalize World.setRow w6 w4.heap.size (q7.cs (lessN n c[i].l.len))=w7 at *;have bel27:=be27;refine callE_of (jobBuild_calls q7 (lessN n c[i].l.len) w7 (hw0.next bel7) hO.rest hm (by omega) hin7 (less_right hNi.right _) (by simp)) ?_;rintro v w8 ⟨F8,t8,hres⟩;have hBF:¬ F w2.heap.size:=fun hf=>by have:=hw0.lt _ hf;have:=bel2.size;omega
      obtain ⟨hB8,hBF8⟩:=hB7.keepT hBF t8;have hgeO:∀ k,BlkOf oa k→w0.heap.size≤k∧k<w2.heap.size:=fun k hk=>ownsRow_blk hown2 k hk
      have b27:Below w2.heap.size w2 w7:=bel27;have hown7:=ownsRow_turn hown2 (Mod.of b27 (F:=fun _=>False)) (fun _ _ h=>h);have hown8:=ownsRow_turn hown7 t8.mod (fun k hk hf=>by have:=hw0.lt k hf;have:=hgeO k hk;omega);have s28:w2.heap.size≤w8.heap.size:=by have:=b27.size;have:=t8.size;omega
      rcases hres with ⟨off,V8,rfl,hG8,hN8,hJ8⟩|⟨rfl,hM8,hJ8⟩
      all_goals
       simp -implicitDefEqProofs [go_sem];refine drawE_mix [.pure 0,.pure 1,.pure 2,.pure 4,.pure 5,.pure 6,.take 3,.run 7 [3],.run 8 [3],.run 9 [3],.run 10 [],.pure 11] mixed (by decide +kernel) (by simp only [wo];rfl) ?_;have bd8:=(Below.refl w8.heap.size w8).drew;generalize World.drew w8=w9 at *;have hB9:=hB8.next bd8
       have hJ9:=hJ8.next bd8
       have hown9:=ownsRow_turn hown8 (Mod.of bd8 (F:=fun _=>False)) (fun _ _ h=>h);obtain ⟨g,cap',w10,hr10,hown10,hg10,hg10',hsz10,t10⟩:=push_own (P:=Tryz.prog) (t:=45) (ty:=45) (cs:=#[.int .i64 ((subT c t i).off:Int)]) Tryz.underlying45 eI_int (by decide) rfl (by simp [Value.oneCell']) (by decide) (by omega) (by have:=bd8.size;have:=bel2.size;omega) hown9;have hnb:¬ BlkOf oa w2.heap.size:=fun hk=>by have:=hgeO _ hk;omega
       have hB10:=hB9.mod t10.mod hnb;have bA:=(Below.refl w9.heap.size w9).alloc (Nat.le_refl _) (.cells #[.int .i64 ((subT c t i).off:Int)] 3);have hBA:=hB9.next bA
       obtain ⟨S,hS⟩:∃ S:World→Prop,S=fun w'=>Blk w' w2.heap.size C 236:=⟨_,rfl⟩
       have hS9:S w9:=by rw [hS];exact hB9
       have hS10:S w10:=by rw [hS];exact hB10
       have hSA:S (w9.alloc (.cells #[.int .i64 ((subT c t i).off:Int)] 3)):=by rw [hS];exact hBA
       have hSc:∀ w',S w'→w'.cell? ⟨w2.heap.size,6,none⟩=some (.int .i64 (wdW c t i:Int)):=fun w' h=>by rw [hS] at h;rw [h.cell,hc6]
       simp -implicitDefEqProofs [go_sem,g6];refine onTake_of S (.int .i64 (wdW c t i:Int)) hS9 (fun w' hw=>by simp -implicitDefEqProofs [go_sem,hSc w' hw]) ?_;simp -implicitDefEqProofs [go_sem,g0,g6,hB9.cell,hc4,hr10];refine ⟨.inr hSA,.inr hS10,?_⟩;have hxt:=hw0.xlt;have hge9:∀ k,BlkOf oa k→w0.heap.size≤k:=fun k hk=>(hgeO k hk).1
       have hJ10:=hJ9.mod t10.mod (fun k hk hf=>by
        have h1:=hge9 k hf
        rcases t8.new k hk with h2|h2
        ·have:=hw0.lt k h2;omega
        ·have:=(hgeO k hf).2;have:=b27.size;omega) (fun hf=>by have:=hge9 _ hf;omega) (fun hf=>by have:=hge9 _ hf;omega)
       have e10:offC D++(#[.int .i64 ((subT c t i).off:Int)]:Array Value).toList=offC (D++[c[i].off]):=by rw [subT_off c t hi];simp [offC]
       rw [e10] at hown10;have hDl1:(D++[c[i].off]).length=D.length+1:=by rw [List.length_append,List.length_singleton]
       have tw10:Turn w0 F w10 F8:=by
        have t9:=(Turn.of bel7).trans (t8.trans (Turn.of bd8));refine ⟨t9.mod.trans t10.mod (fun k hk hlt=>by have:=hge9 k hk;omega),fun k hk=>t9.new k hk⟩
      ·rw [hn,ht] at hN8;rw [ht] at hO hD;obtain ⟨T',p1,hP,hwk,hDn,hDp,hch,hfin⟩:=prune_swap hi hm hO hG8 hbare hN8 hD;rw [← ht] at p1 hP hwk hch hfin hO;have hVs:=owns_vsIn (l:=offC (D++[c[i].off])) (by rw [offC_len,hDl1]) hown10;have hVsep:SepA w10 F8 (some ⟨g,0,none⟩):=fun y hy=>by
        obtain rfl:=Option.some.inj hy;refine ⟨hg10',fun hf=>?_⟩;have hf:F8 g:=hf
        rcases t10.new g rfl with h1|h1
        ·have h2:=hgeO g h1
         rcases t8.new g hf with h3|h3
         ·have:=hw0.lt g h3;omega
         ·have:=b27.size;omega
        ·have:=hJ9.lt g hf;omega
       have hs8:=hG8.steps;simp only [List.length_singleton] at hs8;have hfi:=jobFinish_calls (wdW c t i) (nameW off) (some ⟨g,0,none⟩) (D++[c[i].off]) cap' w10 hJ10 hG8.rest hm (by omega) hwk.1 hwk.2.1 hwk.2.2 hVs hVsep hDn hDp (by omega);rw [hDl1] at hfi;refine callE_of hfi ?_;rintro v w11 ⟨rfl,V11,F11,hg11,hJ11,t11⟩;refine ⟨.inr ⟨(fun h=>by cases h),trivial⟩,?_⟩;simp -implicitDefEqProofs [go_sem];refine body_tmp 4 rfl ?_;simp -implicitDefEqProofs [go_sem];obtain ⟨d1,d2⟩:=hfin V11 hg11
       have hs1:=hg11.steps;have hs2:=hP.steps;rw [hDl1] at hs1;exact ⟨V11,F11,_,hJ11,tw10.trans t11,d2,by omega,.inl ⟨rfl,some T',d1,hch⟩⟩
      ·refine callE_of (jobFail_calls _ _ _ w10 hJ10 hO.rest hm (by omega) List.nodup_nil (fun y hy=>by cases hy) (by simp)) ?_;rintro v w11 ⟨rfl,V11,F11,hg11,hJ11,t11⟩;refine ⟨.inr ⟨(fun h=>by cases h),trivial⟩,?_⟩;simp -implicitDefEqProofs [go_sem];refine body_tmp 4 rfl ?_;simp -implicitDefEqProofs [go_sem];obtain ⟨d1,d2⟩:=undone hm hO (Grew.refl hO.rest) hg11;have hs1:=hg11.steps;simp only [List.length_nil] at hs1;exact ⟨V11,F11,[],hJ11,tw10.trans t11,d2,by omega,.inr ⟨rfl,d1⟩⟩
end
end
end Go.Proofs.YtaaihijkdhmcdaaGreatDoor
